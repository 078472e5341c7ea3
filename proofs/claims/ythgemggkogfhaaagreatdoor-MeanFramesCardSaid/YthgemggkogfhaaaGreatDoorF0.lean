/-
  Forms of functions (1). Conditions: none.
-/
import Derived.Test.YthgemggkogfhaaaGreatDoorB1
namespace Go.Am
open Go Go.RowKit
set_option maxRecDepth 100000
/-- 'binnacle/binnaclelaw19.MeanFrames' -/
def i11 : IFunc := ⟨.seq (.ops [⟨some 2, .e (.set (.v (.bool false))) [], none⟩] [0])
  (.seq (.ops [⟨some 5, .e (.call 26 []) [], none⟩,
    ⟨some 3, .e (.set (.t 5)) [], none⟩] [0, 3])
  (.seq (.ops [⟨some 6, .q (.mov (.t 0)), none⟩,
    ⟨some 7, .e (.call 30 [.t 6]) [], none⟩,
    ⟨some 4, .e (.set (.t 7)) [], none⟩] [0, 3, 4])
  (.seq (.ops [⟨some 8, .q (.mov (.t 3)), none⟩,
    ⟨some 9, .q (.mov (.t 8)), none⟩,
    ⟨some 10, .q (.mov (.t 4)), some (9, true)⟩,
    ⟨some 11, .q (.mov (.t 0)), some (9, true)⟩,
    ⟨some 12, .e (.call 31 [.t 11]) [], some (9, true)⟩,
    ⟨some 13, .q (.bin .eql (.t 10) (.t 12)), some (9, true)⟩,
    ⟨some 14, .q (.pick (.t 9) (.t 13) (.v (.bool false))), none⟩,
    ⟨some 15, .q (.mov (.t 14)), none⟩,
    ⟨some 16, .q (.mov (.t 4)), some (15, true)⟩,
    ⟨some 17, .q (.bin .rem (.t 16) (.v (.int .i64 16))), some (15, true)⟩,
    ⟨some 18, .q (.bin .eql (.t 17) (.v (.int .i64 0))), some (15, true)⟩,
    ⟨some 19, .q (.pick (.t 15) (.t 18) (.v (.bool false))), none⟩,
    ⟨some 20, .q (.mov (.t 19)), none⟩,
    ⟨some 21, .q (.mov (.t 0)), some (20, true)⟩,
    ⟨some 22, .q (.bin .lss (.t 21) (.v (.int .i64 0))), some (20, true)⟩,
    ⟨some 23, .q (.mov (.t 22)), some (20, true)⟩,
    ⟨some 24, .q (.mov (.t 0)), some (23, false)⟩,
    ⟨some 25, .q (.bin .gtr (.t 24) (.v (.int .i64 24))), some (23, false)⟩,
    ⟨some 26, .q (.pick (.t 23) (.v (.bool true)) (.t 25)), some (20, true)⟩,
    ⟨some 27, .q (.mov (.t 26)), some (20, true)⟩,
    ⟨some 28, .q (.mov (.t 4)), some (27, false)⟩,
    ⟨some 29, .q (.mov (.t 0)), some (27, false)⟩,
    ⟨some 30, .q (.bin .add (.t 29) (.v (.int .i64 9))), some (27, false)⟩,
    ⟨some 31, .q (.bin .mul (.v (.int .i64 8)) (.t 30)), some (27, false)⟩,
    ⟨some 32, .q (.bin .geq (.t 28) (.t 31)), some (27, false)⟩,
    ⟨some 33, .q (.mov (.t 32)), some (27, false)⟩,
    ⟨some 34, .q (.mov (.t 4)), some (33, true)⟩,
    ⟨some 35, .q (.mov (.t 0)), some (33, true)⟩,
    ⟨some 36, .q (.bin .add (.t 35) (.v (.int .i64 9))), some (33, true)⟩,
    ⟨some 37, .q (.bin .mul (.v (.int .i64 8)) (.t 36)), some (33, true)⟩,
    ⟨some 38, .q (.bin .add (.t 37) (.v (.int .i64 16))), some (33, true)⟩,
    ⟨some 39, .q (.bin .lss (.t 34) (.t 38)), some (33, true)⟩,
    ⟨some 40, .q (.pick (.t 33) (.t 39) (.v (.bool false))), some (27, false)⟩,
    ⟨some 41, .q (.pick (.t 27) (.v (.bool true)) (.t 40)), some (20, true)⟩,
    ⟨some 42, .q (.pick (.t 20) (.t 41) (.v (.bool false))), none⟩,
    ⟨some 2, .e (.set (.t 42)) [], none⟩] [2])
  (.ret)))), [.slot 2]⟩
/-- 'binnacle/front.Print' -/
def i16 : IFunc := ⟨.seq (.ops [⟨some 2, .e (.set (.v (.str []))) [], none⟩,
    ⟨some 3, .e (.set (.v (.int .i64 0))) [], none⟩] [0])
  (.seq (.seq (.ops [⟨some 11, .q (.mov (.t 0)), none⟩,
    ⟨some 12, .e (.call 37 [.t 11]) [], none⟩,
    ⟨some 13, .q (.un .not (.t 12)), none⟩] [0, 13])
  (.cond (.t 13) (.seq (.ops [⟨some 2, .e (.set (.v (.str []))) [], none⟩,
    ⟨some 3, .e (.set (.v (.int .i64 6))) [], none⟩] [2, 3])
  (.ret)) (.skip)))
  (.seq (.ops [⟨some 14, .q (.mov (.t 0)), none⟩,
    ⟨some 15, .q (.build [.nilslice, .nilptr, .nilslice] [(0, 1, .t 14)]), none⟩,
    ⟨some 16, .e (.box 92 (.t 15)) [], none⟩,
    ⟨some 4, .e (.set (.t 16)) [], none⟩] [0, 4])
  (.seq (.seq (.ops [⟨some 17, .q (.mov (.t 0)), none⟩,
    ⟨some 18, .q (.mov (.t 0)), none⟩,
    ⟨some 19, .q (.len .slice (.t 18)), none⟩,
    ⟨some 20, .q (.bin .sub (.t 19) (.v (.int .i64 1))), none⟩,
    ⟨some 21, .q (.ixSl 6 (.t 17) (.t 20)), none⟩,
    ⟨some 22, .q (.addr 5 (.t 21)), none⟩,
    ⟨some 23, .q (.load none (.t 22)), none⟩,
    ⟨some 24, .q (.len .slice (.t 23)), none⟩,
    ⟨some 25, .q (.mov (.v (.int .i64 0))), none⟩] [0, 4, 23, 24, 25])
  (.block 0 (.loop [0, 4, 23, 24, 25] (.seq (.ops [⟨some 26, .q (.bin .lss (.t 25) (.t 24)), none⟩] [0, 4, 23, 24, 25, 26])
  (.seq (.cond (.t 26) (.skip) (.exit 0))
  (.seq (.block 1 (.seq (.ops [⟨some 27, .q (.ixSl 1 (.t 23) (.t 25)), none⟩,
    ⟨some 28, .q (.load none (.t 27)), none⟩,
    ⟨some 6, .e (.set (.t 28)) [], none⟩] [0, 4, 6, 23, 24, 25])
  (.ops [⟨some 29, .q (.mov (.t 4)), none⟩,
    ⟨some 30, .q (.mov (.t 6)), none⟩,
    ⟨some 31, .e (.call 38 [.t 29, .t 30]) [], none⟩] [0, 4, 23, 24, 25])))
  (.ops [⟨some 32, .q (.bin .add (.t 25) (.v (.int .i64 1))), none⟩,
    ⟨some 25, .q (.mov (.t 32)), none⟩] [0, 4, 23, 24, 25])))))))
  (.seq (.ops [⟨some 33, .q (.mov (.t 4)), none⟩,
    ⟨some 34, .q (.nilc (.t 33)), none⟩,
    ⟨some 35, .q (.addr 1 (.t 34)), none⟩,
    ⟨some 36, .e (.call 39 [.t 35]) [], none⟩,
    ⟨some 7, .e (.set (.t 36)) [], none⟩] [0, 7])
  (.seq (.ops [⟨some 37, .q (.mov (.t 7)), none⟩,
    ⟨some 38, .q (.build [.str [], .int .i64 0, .int .i64 0, .int .i64 0, .str [], .int .i64 0, .nilslice, .int .i64 0] [(0, 1, .t 37)]), none⟩,
    ⟨some 39, .e (.box 82 (.t 38)) [], none⟩,
    ⟨some 8, .e (.set (.t 39)) [], none⟩] [0, 7, 8])
  (.seq (.seq (.ops [⟨some 41, .q (.mov (.t 8)), none⟩,
    ⟨some 42, .e (.call 40 [.t 41]) [], none⟩,
    ⟨some 40, .q (.mov (.t 42)), none⟩,
    ⟨some 43, .q (.extr 0 (.t 40)), none⟩,
    ⟨some 44, .q (.extr 1 (.t 40)), none⟩,
    ⟨some 9, .e (.set (.t 43)) [], none⟩,
    ⟨some 10, .e (.set (.t 44)) [], none⟩] [0, 7, 9, 10])
  (.seq (.ops [⟨some 45, .q (.mov (.t 10)), none⟩,
    ⟨some 46, .q (.un .not (.t 45)), none⟩,
    ⟨some 47, .q (.mov (.t 46)), none⟩,
    ⟨some 48, .q (.mov (.t 0)), some (47, false)⟩,
    ⟨some 49, .q (.mov (.t 9)), some (47, false)⟩,
    ⟨some 50, .e (.call 41 [.t 48, .t 49]) [], some (47, false)⟩,
    ⟨some 51, .q (.un .not (.t 50)), some (47, false)⟩,
    ⟨some 52, .q (.pick (.t 47) (.v (.bool true)) (.t 51)), none⟩] [7, 52])
  (.cond (.t 52) (.seq (.ops [⟨some 2, .e (.set (.v (.str []))) [], none⟩,
    ⟨some 3, .e (.set (.v (.int .i64 6))) [], none⟩] [2, 3])
  (.ret)) (.skip))))
  (.seq (.seq (.ops [⟨some 53, .q (.mov (.t 7)), none⟩,
    ⟨some 54, .q (.len .str (.t 53)), none⟩,
    ⟨some 55, .q (.bin .gtr (.t 54) (.v (.int .i64 8192))), none⟩] [7, 55])
  (.cond (.t 55) (.seq (.ops [⟨some 2, .e (.set (.v (.str []))) [], none⟩,
    ⟨some 3, .e (.set (.v (.int .i64 15))) [], none⟩] [2, 3])
  (.ret)) (.skip)))
  (.seq (.ops [⟨some 56, .q (.mov (.t 7)), none⟩,
    ⟨some 2, .e (.set (.t 56)) [], none⟩,
    ⟨some 3, .e (.set (.v (.int .i64 0))) [], none⟩] [2, 3])
  (.ret))))))))), [.slot 2, .slot 3]⟩
/-- 'binnacle/binnacleref17.Parse' -/
def i19 : IFunc := ⟨.seq (.ops [⟨some 2, .e (.set (.v (.nilslice))) [], none⟩,
    ⟨some 3, .e (.set (.v (.int .i64 0))) [], none⟩,
    ⟨some 4, .e (.set (.v (.int .i64 0))) [], none⟩] [0])
  (.seq (.seq (.ops [⟨some 5, .q (.mov (.t 0)), none⟩,
    ⟨some 6, .q (.len .str (.t 5)), none⟩,
    ⟨some 7, .q (.bin .gtr (.t 6) (.v (.int .i64 8192))), none⟩] [0, 7])
  (.cond (.t 7) (.seq (.ops [⟨some 2, .e (.set (.v (.nilslice))) [], none⟩,
    ⟨some 3, .e (.set (.v (.int .i64 15))) [], none⟩,
    ⟨some 4, .e (.set (.v (.int .i64 0))) [], none⟩] [2, 3, 4])
  (.ret)) (.skip)))
  (.seq (.ops [⟨some 8, .q (.mov (.t 0)), none⟩,
    ⟨some 9, .e (.call 42 [.t 8]) [], none⟩,
    ⟨some 10, .q (.extr 0 (.t 9)), none⟩,
    ⟨some 11, .q (.extr 1 (.t 9)), none⟩,
    ⟨some 12, .q (.extr 2 (.t 9)), none⟩,
    ⟨some 2, .e (.set (.t 10)) [], none⟩,
    ⟨some 3, .e (.set (.t 11)) [], none⟩,
    ⟨some 4, .e (.set (.t 12)) [], none⟩] [2, 3, 4])
  (.ret))), [.slot 2, .slot 3, .slot 4]⟩
/-- 'binnacle/sort.Check' -/
def i20 : IFunc := ⟨.seq (.ops [⟨some 2, .e (.alloc 37 [.nilslice, .nilslice, .nilslice]) [], none⟩,
    ⟨some 3, .e (.set (.v (.int .i64 0))) [], none⟩,
    ⟨some 4, .e (.set (.v (.int .i64 0))) [], none⟩] [0, 2])
  (.seq (.seq (.ops [⟨some 18, .q (.mov (.t 0)), none⟩,
    ⟨some 19, .e (.call 16 [.t 18]) [], none⟩,
    ⟨some 17, .q (.mov (.t 19)), none⟩,
    ⟨some 20, .q (.extr 0 (.t 17)), none⟩,
    ⟨some 21, .q (.extr 1 (.t 17)), none⟩,
    ⟨some 5, .e (.set (.t 20)) [], none⟩,
    ⟨some 6, .e (.set (.t 21)) [], none⟩] [0, 2, 6])
  (.seq (.ops [⟨some 22, .q (.mov (.t 6)), none⟩,
    ⟨some 23, .q (.bin .eql (.t 22) (.v (.int .i64 6))), none⟩] [0, 2, 6, 23])
  (.cond (.t 23) (.seq (.ops [⟨some 24, .q (.build [.nilslice, .nilslice, .nilslice] []), none⟩,
    ⟨some 25, .q (.mov (.t 6)), none⟩,
    ⟨none, .e (.store 3 (.t 2) (.t 24)) [], none⟩,
    ⟨some 3, .e (.set (.t 25)) [], none⟩,
    ⟨some 4, .e (.set (.v (.int .i64 0))) [], none⟩] [2, 3, 4])
  (.ret)) (.skip))))
  (.seq (.ops [⟨none, .e (.res 3) [], none⟩,
    ⟨some 26, .q (.mov (.t 0)), none⟩,
    ⟨some 27, .q (.mov (.t 0)), none⟩,
    ⟨some 28, .q (.len .slice (.t 27)), none⟩,
    ⟨some 30, .q (.mov (.t 0)), none⟩,
    ⟨some 31, .q (.len .slice (.t 30)), none⟩,
    ⟨some 29, .e (.fillS 3 3 1 [.int .i64 0] (.t 28)) [], none⟩,
    ⟨some 32, .e (.fillS 2 4 1 [.bool false] (.t 31)) [], none⟩,
    ⟨some 33, .e (.fillM 1) [], none⟩,
    ⟨some 34, .q (.build [.nilslice, .nilslice, .nilslice, .nilslice, .nilslice, .nilslice, .nilmap, .nilmap] [(0, 1, .t 26), (4, 1, .t 29), (5, 1, .t 32), (7, 1, .t 33)]), none⟩,
    ⟨some 35, .e (.box 102 (.t 34)) [], none⟩,
    ⟨some 7, .e (.set (.t 35)) [], none⟩] [0, 2, 7])
  (.seq (.ops [⟨none, .e (.res 2) [], none⟩,
    ⟨some 36, .q (.mov (.t 7)), none⟩,
    ⟨some 37, .q (.mov (.t 0)), none⟩,
    ⟨some 38, .q (.len .slice (.t 37)), none⟩,
    ⟨some 40, .q (.mov (.t 0)), none⟩,
    ⟨some 41, .q (.len .slice (.t 40)), none⟩,
    ⟨some 39, .e (.fillS 2 3 1 [.int .i64 0] (.t 38)) [], none⟩,
    ⟨some 42, .e (.fillS 1 3 1 [.int .i64 0] (.t 41)) [], none⟩,
    ⟨some 43, .q (.build [.nilslice, .nilslice, .nilslice] [(1, 1, .t 39), (2, 1, .t 42)]), none⟩,
    ⟨some 44, .q (.nilc (.t 36)), none⟩,
    ⟨some 45, .q (.addr 1 (.t 44)), none⟩,
    ⟨none, .e (.store 3 (.t 45) (.t 43)) [], none⟩] [0, 2, 7])
  (.seq (.seq (.ops [⟨some 46, .q (.mov (.t 0)), none⟩,
    ⟨some 47, .q (.len .slice (.t 46)), none⟩,
    ⟨some 48, .q (.mov (.v (.int .i64 0))), none⟩] [0, 2, 7, 47, 48])
  (.block 0 (.loop [0, 2, 7, 47, 48] (.seq (.ops [⟨some 49, .q (.bin .lss (.t 48) (.t 47)), none⟩] [0, 2, 7, 47, 48, 49])
  (.seq (.cond (.t 49) (.skip) (.exit 0))
  (.seq (.block 1 (.seq (.ops [⟨some 50, .q (.mov (.t 48)), none⟩,
    ⟨some 8, .e (.set (.t 50)) [], none⟩] [0, 2, 7, 8, 47, 48])
  (.ops [⟨some 51, .q (.mov (.t 7)), none⟩,
    ⟨some 52, .q (.nilc (.t 51)), none⟩,
    ⟨some 53, .q (.addr 1 (.t 52)), none⟩,
    ⟨some 54, .q (.addr 1 (.t 53)), none⟩,
    ⟨some 55, .q (.load none (.t 54)), none⟩,
    ⟨some 56, .q (.mov (.t 8)), none⟩,
    ⟨some 57, .q (.ixSl 1 (.t 55) (.t 56)), none⟩,
    ⟨none, .e (.store 1 (.t 57) (.v (.int .i64 (-1)))) [], none⟩] [0, 2, 7, 47, 48])))
  (.ops [⟨some 58, .q (.bin .add (.t 48) (.v (.int .i64 1))), none⟩,
    ⟨some 48, .q (.mov (.t 58)), none⟩] [0, 2, 7, 47, 48])))))))
  (.seq (.ops [⟨some 59, .q (.mov (.t 7)), none⟩,
    ⟨some 60, .q (.mov (.t 0)), none⟩,
    ⟨some 61, .q (.len .slice (.t 60)), none⟩,
    ⟨some 62, .q (.bin .sub (.t 61) (.v (.int .i64 1))), none⟩,
    ⟨some 63, .e (.call 43 [.t 59, .t 62, .v (.int .i64 (-1)), .v (.bool false)]) [], none⟩] [0, 2, 7])
  (.seq (.seq (.ops [⟨some 65, .q (.mov (.t 7)), none⟩,
    ⟨some 66, .e (.call 44 [.t 65]) [], none⟩,
    ⟨some 64, .q (.mov (.t 66)), none⟩,
    ⟨some 67, .q (.extr 0 (.t 64)), none⟩,
    ⟨some 68, .q (.extr 1 (.t 64)), none⟩,
    ⟨some 9, .e (.set (.t 67)) [], none⟩,
    ⟨some 10, .e (.set (.t 68)) [], none⟩] [0, 2, 7, 9, 10])
  (.seq (.ops [⟨some 69, .q (.mov (.t 9)), none⟩,
    ⟨some 70, .q (.bin .neq (.t 69) (.v (.int .i64 0))), none⟩] [0, 2, 7, 9, 10, 70])
  (.cond (.t 70) (.seq (.ops [⟨some 71, .q (.build [.nilslice, .nilslice, .nilslice] []), none⟩,
    ⟨some 72, .q (.mov (.t 9)), none⟩,
    ⟨some 73, .q (.mov (.t 10)), none⟩,
    ⟨none, .e (.store 3 (.t 2) (.t 71)) [], none⟩,
    ⟨some 3, .e (.set (.t 72)) [], none⟩,
    ⟨some 4, .e (.set (.t 73)) [], none⟩] [2, 3, 4])
  (.ret)) (.skip))))
  (.seq (.ops [⟨some 74, .e (.call 45 []) [], none⟩,
    ⟨some 11, .e (.set (.t 74)) [], none⟩] [0, 2, 7, 11])
  (.seq (.seq (.ops [⟨some 75, .q (.mov (.t 0)), none⟩,
    ⟨some 76, .q (.len .slice (.t 75)), none⟩,
    ⟨some 77, .q (.mov (.v (.int .i64 0))), none⟩] [2, 7, 11, 75, 76, 77])
  (.block 2 (.loop [2, 7, 11, 75, 76, 77] (.seq (.ops [⟨some 78, .q (.bin .lss (.t 77) (.t 76)), none⟩] [2, 7, 11, 75, 76, 77, 78])
  (.seq (.cond (.t 78) (.skip) (.exit 2))
  (.seq (.block 3 (.seq (.ops [⟨some 79, .q (.mov (.t 77)), none⟩,
    ⟨some 80, .q (.ixSl 6 (.t 75) (.t 77)), none⟩,
    ⟨some 81, .q (.load (some 6) (.t 80)), none⟩,
    ⟨some 13, .e (.alloc 47 [.int .i64 0, .int .i64 0, .str [], .int .i64 0, .int .i64 0, .nilslice]) [], none⟩,
    ⟨some 12, .e (.set (.t 79)) [], none⟩,
    ⟨none, .e (.store 6 (.t 13) (.t 81)) [], none⟩] [2, 7, 11, 12, 13, 75, 76, 77])
  (.seq (.ops [⟨some 83, .q (.mov (.t 11)), none⟩,
    ⟨some 84, .q (.addr 0 (.t 13)), none⟩,
    ⟨some 85, .q (.load none (.t 84)), none⟩,
    ⟨some 86, .q (.lookup .int (.nilfunc) true (.t 83) (.t 85)), none⟩,
    ⟨some 82, .q (.mov (.t 86)), none⟩,
    ⟨some 87, .q (.extr 0 (.t 82)), none⟩,
    ⟨some 88, .q (.extr 1 (.t 82)), none⟩,
    ⟨some 14, .e (.set (.t 87)) [], none⟩,
    ⟨some 15, .e (.set (.t 88)) [], none⟩] [2, 7, 11, 12, 14, 15, 75, 76, 77])
  (.seq (.seq (.ops [⟨some 89, .q (.mov (.t 15)), none⟩,
    ⟨some 90, .q (.un .not (.t 89)), none⟩] [2, 7, 11, 12, 14, 75, 76, 77, 90])
  (.cond (.t 90) (.exit 3) (.skip)))
  (.seq (.ops [⟨some 91, .q (.mov (.t 14)), none⟩,
    ⟨some 92, .q (.mov (.t 7)), none⟩,
    ⟨some 93, .q (.mov (.t 12)), none⟩,
    ⟨some 94, .e (.callv (.t 91) [.t 92, .t 93]) [], none⟩,
    ⟨some 16, .e (.set (.t 94)) [], none⟩] [2, 7, 11, 12, 16, 75, 76, 77])
  (.seq (.ops [⟨some 95, .q (.mov (.t 16)), none⟩,
    ⟨some 96, .q (.bin .neq (.t 95) (.v (.int .i64 0))), none⟩] [2, 7, 11, 12, 16, 75, 76, 77, 96])
  (.cond (.t 96) (.seq (.ops [⟨some 97, .q (.build [.nilslice, .nilslice, .nilslice] []), none⟩,
    ⟨some 98, .q (.mov (.t 16)), none⟩,
    ⟨some 99, .q (.mov (.t 12)), none⟩,
    ⟨none, .e (.store 3 (.t 2) (.t 97)) [], none⟩,
    ⟨some 3, .e (.set (.t 98)) [], none⟩,
    ⟨some 4, .e (.set (.t 99)) [], none⟩] [2, 3, 4])
  (.ret)) (.skip))))))))
  (.ops [⟨some 100, .q (.bin .add (.t 77) (.v (.int .i64 1))), none⟩,
    ⟨some 77, .q (.mov (.t 100)), none⟩] [2, 7, 11, 75, 76, 77])))))))
  (.seq (.ops [⟨some 101, .q (.mov (.t 7)), none⟩,
    ⟨some 102, .q (.nilc (.t 101)), none⟩,
    ⟨some 103, .q (.addr 1 (.t 102)), none⟩,
    ⟨some 104, .q (.load (some 3) (.t 103)), none⟩,
    ⟨none, .e (.store 3 (.t 2) (.t 104)) [], none⟩,
    ⟨some 3, .e (.set (.v (.int .i64 0))) [], none⟩,
    ⟨some 4, .e (.set (.v (.int .i64 0))) [], none⟩] [2, 3, 4])
  (.ret)))))))))), [.cell 2 (some 3), .slot 3, .slot 4]⟩
/-- 'binnacle/binnacleref17.Tokens' -/
def i25 : IFunc := ⟨.seq (.ops [⟨some 2, .e (.set (.v (.nilslice))) [], none⟩] [0])
  (.seq (.ops [⟨some 3, .e (.set (.v (.nilslice))) [], none⟩] [0, 3])
  (.seq (.ops [⟨some 4, .e (.set (.v (.int .i64 0))) [], none⟩] [0, 3, 4])
  (.block 0 (.loop [0, 3, 4] (.block 1 (.seq (.ops [⟨some 7, .q (.mov (.t 4)), none⟩,
    ⟨some 8, .q (.mov (.t 0)), none⟩,
    ⟨some 9, .q (.mov (.t 4)), none⟩,
    ⟨some 10, .e (.call 51 [.t 8, .t 9]) [], none⟩,
    ⟨some 11, .q (.bin .add (.t 7) (.t 10)), none⟩,
    ⟨some 4, .e (.set (.t 11)) [], none⟩] [0, 3, 4])
  (.seq (.ops [⟨some 13, .q (.mov (.t 0)), none⟩,
    ⟨some 14, .q (.mov (.t 4)), none⟩,
    ⟨some 15, .e (.call 52 [.t 13, .t 14]) [], none⟩,
    ⟨some 12, .q (.mov (.t 15)), none⟩,
    ⟨some 16, .q (.extr 0 (.t 12)), none⟩,
    ⟨some 17, .q (.extr 1 (.t 12)), none⟩,
    ⟨some 5, .e (.alloc 56 [.int .i64 0, .int .i64 0, .str [], .int .i64 0]) [], none⟩,
    ⟨none, .e (.store 4 (.t 5) (.t 16)) [], none⟩,
    ⟨some 6, .e (.set (.t 17)) [], none⟩] [0, 3, 5, 6])
  (.seq (.ops [⟨some 18, .q (.mov (.t 3)), none⟩,
    ⟨some 19, .q (.load (some 4) (.t 5)), none⟩,
    ⟨some 20, .e (.bslice 56 4 1 [.int .i64 0, .int .i64 0, .str [], .int .i64 0] [(0, 4, .t 19)]) [], none⟩,
    ⟨some 21, .e (.append 56 4 40 (.t 18) (.t 20)) [], none⟩,
    ⟨some 3, .e (.set (.t 21)) [], none⟩] [0, 3, 5, 6])
  (.seq (.seq (.ops [⟨some 22, .q (.addr 0 (.t 5)), none⟩,
    ⟨some 23, .q (.load none (.t 22)), none⟩,
    ⟨some 24, .q (.bin .eql (.t 23) (.v (.int .i64 0))), none⟩,
    ⟨some 25, .q (.mov (.t 24)), none⟩,
    ⟨some 26, .q (.addr 0 (.t 5)), some (25, false)⟩,
    ⟨some 27, .q (.load none (.t 26)), some (25, false)⟩,
    ⟨some 28, .q (.bin .eql (.t 27) (.v (.int .i64 6))), some (25, false)⟩,
    ⟨some 29, .q (.pick (.t 25) (.v (.bool true)) (.t 28)), none⟩] [0, 3, 6, 29])
  (.cond (.t 29) (.seq (.ops [⟨some 30, .q (.mov (.t 3)), none⟩,
    ⟨some 2, .e (.set (.t 30)) [], none⟩] [2])
  (.ret)) (.skip)))
  (.ops [⟨some 31, .q (.mov (.t 6)), none⟩,
    ⟨some 4, .e (.set (.t 31)) [], none⟩] [0, 3, 4])))))))))), [.slot 2]⟩
/-- 'binnacle/binnaclelaw19.shown' -/
def i26 : IFunc := ⟨.seq (.ops [⟨some 0, .e (.set (.v (.bool false))) [], none⟩] [])
  (.seq (.ops [⟨some 10, .e (.call 29 [.v (.str [105, 110, 116, 32, 109, 97, 105, 110, 40, 41, 123, 112, 117, 116, 40, 39, 104, 39, 41, 59, 112, 117, 116, 40, 39, 105, 39, 41, 59, 114, 101, 116, 117, 114, 110, 32, 55, 59, 125])]) [], none⟩,
    ⟨some 11, .e (.call 27 [.t 10, .v (.nilslice), .v (.str []), .v (.int .i64 1000)]) [], none⟩,
    ⟨some 9, .q (.mov (.t 11)), none⟩,
    ⟨some 12, .q (.extr 0 (.t 9)), none⟩,
    ⟨some 13, .q (.extr 1 (.t 9)), none⟩,
    ⟨some 1, .e (.alloc 60 [.int .i64 0, .int .i64 0, .str [], .int .i64 0]) [], none⟩,
    ⟨none, .e (.store 4 (.t 1) (.t 12)) [], none⟩,
    ⟨some 2, .e (.set (.t 13)) [], none⟩] [1, 2])
  (.seq (.ops [⟨some 15, .e (.call 29 [.v (.str [105, 110, 116, 32, 102, 40, 105, 110, 116, 32, 110, 41, 123, 105, 102, 40, 110, 60, 50, 41, 114, 101, 116, 117, 114, 110, 32, 49, 59, 114, 101, 116, 117, 114, 110, 32, 110, 42, 102, 40, 110, 45, 49, 41, 59, 125, 32, 105, 110, 116, 32, 109, 97, 105, 110, 40, 41, 123, 114, 101, 116, 117, 114, 110, 32, 102, 40, 53, 41, 59, 125])]) [], none⟩,
    ⟨some 16, .e (.call 27 [.t 15, .v (.nilslice), .v (.str []), .v (.int .i64 1000)]) [], none⟩,
    ⟨some 14, .q (.mov (.t 16)), none⟩,
    ⟨some 17, .q (.extr 0 (.t 14)), none⟩,
    ⟨some 18, .q (.extr 1 (.t 14)), none⟩,
    ⟨some 3, .e (.alloc 60 [.int .i64 0, .int .i64 0, .str [], .int .i64 0]) [], none⟩,
    ⟨none, .e (.store 4 (.t 3) (.t 17)) [], none⟩,
    ⟨some 4, .e (.set (.t 18)) [], none⟩] [1, 2, 3])
  (.seq (.ops [⟨some 20, .e (.call 29 [.v (.str [105, 110, 116, 32, 109, 97, 105, 110, 40, 41, 123, 119, 104, 105, 108, 101, 40, 49, 41, 112, 117, 116, 40, 103, 101, 116, 40, 41, 41, 59, 125])]) [], none⟩,
    ⟨some 21, .e (.call 27 [.t 20, .v (.nilslice), .v (.str [97, 98]), .v (.int .i64 1000)]) [], none⟩,
    ⟨some 19, .q (.mov (.t 21)), none⟩,
    ⟨some 22, .q (.extr 0 (.t 19)), none⟩,
    ⟨some 23, .q (.extr 1 (.t 19)), none⟩,
    ⟨some 5, .e (.alloc 60 [.int .i64 0, .int .i64 0, .str [], .int .i64 0]) [], none⟩,
    ⟨none, .e (.store 4 (.t 5) (.t 22)) [], none⟩,
    ⟨some 6, .e (.set (.t 23)) [], none⟩] [1, 2, 3, 5])
  (.seq (.ops [⟨some 25, .e (.call 29 [.v (.str [99, 104, 97, 114, 32, 98, 91, 50, 93, 59, 105, 110, 116, 32, 109, 97, 105, 110, 40, 41, 123, 98, 91, 50, 93, 61, 49, 59, 125])]) [], none⟩,
    ⟨some 26, .e (.call 27 [.t 25, .v (.nilslice), .v (.str []), .v (.int .i64 1000)]) [], none⟩,
    ⟨some 24, .q (.mov (.t 26)), none⟩,
    ⟨some 27, .q (.extr 0 (.t 24)), none⟩,
    ⟨some 28, .q (.extr 1 (.t 24)), none⟩,
    ⟨some 7, .e (.alloc 60 [.int .i64 0, .int .i64 0, .str [], .int .i64 0]) [], none⟩,
    ⟨none, .e (.store 4 (.t 7) (.t 27)) [], none⟩,
    ⟨some 8, .e (.set (.t 28)) [], none⟩] [1, 2, 3, 5, 7])
  (.seq (.ops [⟨some 29, .q (.mov (.t 2)), none⟩,
    ⟨some 30, .q (.bin .eql (.t 29) (.v (.int .i64 0))), none⟩,
    ⟨some 31, .q (.mov (.t 30)), none⟩,
    ⟨some 32, .q (.addr 0 (.t 1)), some (31, true)⟩,
    ⟨some 33, .q (.load none (.t 32)), some (31, true)⟩,
    ⟨some 34, .q (.bin .eql (.t 33) (.v (.int .i64 1))), some (31, true)⟩,
    ⟨some 35, .q (.pick (.t 31) (.t 34) (.v (.bool false))), none⟩,
    ⟨some 36, .q (.mov (.t 35)), none⟩,
    ⟨some 37, .q (.addr 1 (.t 1)), some (36, true)⟩,
    ⟨some 38, .q (.load none (.t 37)), some (36, true)⟩,
    ⟨some 39, .q (.bin .eql (.t 38) (.v (.int .i64 7))), some (36, true)⟩,
    ⟨some 40, .q (.pick (.t 36) (.t 39) (.v (.bool false))), none⟩,
    ⟨some 41, .q (.mov (.t 40)), none⟩,
    ⟨some 42, .q (.addr 2 (.t 1)), some (41, true)⟩,
    ⟨some 43, .q (.load none (.t 42)), some (41, true)⟩,
    ⟨some 44, .q (.bin .eql (.t 43) (.v (.str [104, 105]))), some (41, true)⟩,
    ⟨some 45, .q (.pick (.t 41) (.t 44) (.v (.bool false))), none⟩,
    ⟨some 46, .q (.mov (.t 45)), none⟩,
    ⟨some 47, .q (.addr 1 (.t 3)), some (46, true)⟩,
    ⟨some 48, .q (.load none (.t 47)), some (46, true)⟩,
    ⟨some 49, .q (.bin .eql (.t 48) (.v (.int .i64 120))), some (46, true)⟩,
    ⟨some 50, .q (.pick (.t 46) (.t 49) (.v (.bool false))), none⟩,
    ⟨some 51, .q (.mov (.t 50)), none⟩,
    ⟨some 52, .q (.addr 0 (.t 5)), some (51, true)⟩,
    ⟨some 53, .q (.load none (.t 52)), some (51, true)⟩,
    ⟨some 54, .q (.bin .eql (.t 53) (.v (.int .i64 2))), some (51, true)⟩,
    ⟨some 55, .q (.pick (.t 51) (.t 54) (.v (.bool false))), none⟩,
    ⟨some 56, .q (.mov (.t 55)), none⟩,
    ⟨some 57, .q (.addr 2 (.t 5)), some (56, true)⟩,
    ⟨some 58, .q (.load none (.t 57)), some (56, true)⟩,
    ⟨some 59, .q (.bin .eql (.t 58) (.v (.str [97, 98]))), some (56, true)⟩,
    ⟨some 60, .q (.pick (.t 56) (.t 59) (.v (.bool false))), none⟩,
    ⟨some 61, .q (.mov (.t 60)), none⟩,
    ⟨some 62, .q (.addr 0 (.t 7)), some (61, true)⟩,
    ⟨some 63, .q (.load none (.t 62)), some (61, true)⟩,
    ⟨some 64, .q (.bin .eql (.t 63) (.v (.int .i64 4))), some (61, true)⟩,
    ⟨some 65, .q (.pick (.t 61) (.t 64) (.v (.bool false))), none⟩,
    ⟨some 0, .e (.set (.t 65)) [], none⟩] [0])
  (.ret)))))), [.slot 0]⟩
/-- 'binnacle/mean.Run' -/
def i27 : IFunc := ⟨.seq (.ops [⟨some 8, .e (.alloc 60 [.int .i64 0, .int .i64 0, .str [], .int .i64 0]) [], none⟩,
    ⟨some 9, .e (.set (.v (.int .i64 0))) [], none⟩] [0, 1, 2, 3, 8])
  (.seq (.ops [⟨some 16, .q (.mov (.t 0)), none⟩,
    ⟨some 17, .e (.call 20 [.t 16]) [], none⟩,
    ⟨some 15, .q (.mov (.t 17)), none⟩,
    ⟨some 18, .q (.extr 0 (.t 15)), none⟩,
    ⟨some 19, .q (.extr 1 (.t 15)), none⟩,
    ⟨some 20, .q (.extr 2 (.t 15)), none⟩,
    ⟨some 10, .e (.alloc 37 [.nilslice, .nilslice, .nilslice]) [], none⟩,
    ⟨none, .e (.store 3 (.t 10) (.t 18)) [], none⟩,
    ⟨some 11, .e (.set (.t 19)) [], none⟩,
    ⟨some 12, .e (.set (.t 20)) [], none⟩] [0, 1, 2, 3, 8, 10, 11])
  (.seq (.seq (.ops [⟨some 21, .q (.mov (.t 11)), none⟩,
    ⟨some 22, .q (.bin .neq (.t 21) (.v (.int .i64 0))), none⟩] [0, 1, 2, 3, 8, 10, 11, 22])
  (.cond (.t 22) (.seq (.ops [⟨some 23, .q (.build [.int .i64 0, .int .i64 0, .str [], .int .i64 0] []), none⟩,
    ⟨some 24, .q (.mov (.t 11)), none⟩,
    ⟨none, .e (.store 4 (.t 8) (.t 23)) [], none⟩,
    ⟨some 9, .e (.set (.t 24)) [], none⟩] [8, 9])
  (.ret)) (.skip)))
  (.seq (.seq (.ops [⟨some 25, .q (.mov (.t 3)), none⟩,
    ⟨some 26, .q (.bin .lss (.t 25) (.v (.int .i64 0))), none⟩,
    ⟨some 27, .q (.mov (.t 26)), none⟩,
    ⟨some 28, .q (.mov (.t 3)), some (27, false)⟩,
    ⟨some 29, .q (.bin .gtr (.t 28) (.v (.int .i64 1000000))), some (27, false)⟩,
    ⟨some 30, .q (.pick (.t 27) (.v (.bool true)) (.t 29)), none⟩,
    ⟨some 31, .q (.mov (.t 30)), none⟩,
    ⟨some 32, .q (.mov (.t 1)), some (31, false)⟩,
    ⟨some 33, .e (.call 53 [.t 32]) [], some (31, false)⟩,
    ⟨some 34, .q (.un .not (.t 33)), some (31, false)⟩,
    ⟨some 35, .q (.pick (.t 31) (.v (.bool true)) (.t 34)), none⟩] [0, 1, 2, 3, 8, 10, 35])
  (.cond (.t 35) (.seq (.ops [⟨some 36, .q (.build [.int .i64 0, .int .i64 0, .str [], .int .i64 0] []), none⟩,
    ⟨none, .e (.store 4 (.t 8) (.t 36)) [], none⟩,
    ⟨some 9, .e (.set (.v (.int .i64 1))) [], none⟩] [8, 9])
  (.ret)) (.skip)))
  (.seq (.ops [⟨some 37, .q (.mov (.t 0)), none⟩,
    ⟨some 38, .q (.load (some 3) (.t 10)), none⟩,
    ⟨some 39, .q (.mov (.t 1)), none⟩,
    ⟨some 40, .q (.mov (.t 2)), none⟩,
    ⟨some 41, .q (.mov (.t 3)), none⟩,
    ⟨some 42, .e (.call 54 [.t 37, .t 38, .t 39, .t 40, .t 41]) [], none⟩,
    ⟨some 13, .e (.set (.t 42)) [], none⟩] [8, 13])
  (.seq (.ops [⟨some 43, .q (.mov (.t 13)), none⟩,
    ⟨some 44, .e (.call 55 [.t 43]) [], none⟩,
    ⟨some 14, .e (.alloc 127 [.int .i64 0, .int .i64 0]) [], none⟩,
    ⟨none, .e (.store 2 (.t 14) (.t 44)) [], none⟩] [8, 13, 14])
  (.seq (.ops [⟨some 45, .q (.addr 0 (.t 14)), none⟩,
    ⟨some 46, .q (.load none (.t 45)), none⟩,
    ⟨some 47, .q (.addr 1 (.t 14)), none⟩,
    ⟨some 48, .q (.load none (.t 47)), none⟩,
    ⟨some 49, .q (.mov (.t 13)), none⟩,
    ⟨some 50, .q (.nilc (.t 49)), none⟩,
    ⟨some 51, .q (.addr 6 (.t 50)), none⟩,
    ⟨some 53, .q (.mov (.t 13)), none⟩,
    ⟨some 54, .q (.nilc (.t 53)), none⟩,
    ⟨some 55, .q (.addr 14 (.t 54)), none⟩,
    ⟨some 56, .q (.load none (.t 55)), none⟩,
    ⟨some 52, .e (.call 39 [.t 51]) [(56, .load none (.t 55)), (48, .load none (.t 47)), (46, .load none (.t 45))], none⟩,
    ⟨some 57, .q (.build [.int .i64 0, .int .i64 0, .str [], .int .i64 0] [(0, 1, .t 46), (1, 1, .t 48), (2, 1, .t 52), (3, 1, .t 56)]), none⟩,
    ⟨none, .e (.store 4 (.t 8) (.t 57)) [], none⟩,
    ⟨some 9, .e (.set (.v (.int .i64 0))) [], none⟩] [8, 9])
  (.ret))))))), [.cell 8 (some 4), .slot 9]⟩
/-- 'binnacle/binnaclelaw19.tree' -/
def i29 : IFunc := ⟨.seq (.ops [⟨some 2, .e (.set (.v (.nilslice))) [], none⟩] [0])
  (.seq (.ops [⟨some 7, .q (.mov (.t 0)), none⟩,
    ⟨some 8, .e (.call 19 [.t 7]) [], none⟩,
    ⟨some 6, .q (.mov (.t 8)), none⟩,
    ⟨some 9, .q (.extr 0 (.t 6)), none⟩,
    ⟨some 10, .q (.extr 1 (.t 6)), none⟩,
    ⟨some 11, .q (.extr 2 (.t 6)), none⟩,
    ⟨some 3, .e (.set (.t 9)) [], none⟩,
    ⟨some 4, .e (.set (.t 10)) [], none⟩,
    ⟨some 5, .e (.set (.t 11)) [], none⟩] [3])
  (.seq (.ops [⟨some 12, .q (.mov (.t 3)), none⟩,
    ⟨some 2, .e (.set (.t 12)) [], none⟩] [2])
  (.ret))), [.slot 2]⟩
/-- 'binnacle/mean.Frame' -/
def i30 : IFunc := ⟨.seq (.ops [⟨some 2, .e (.set (.v (.int .i64 0))) [], none⟩] [0])
  (.seq (.seq (.ops [⟨some 3, .q (.mov (.t 0)), none⟩,
    ⟨some 4, .q (.bin .lss (.t 3) (.v (.int .i64 0))), none⟩,
    ⟨some 5, .q (.mov (.t 4)), none⟩,
    ⟨some 6, .q (.mov (.t 0)), some (5, false)⟩,
    ⟨some 7, .q (.bin .gtr (.t 6) (.v (.int .i64 24))), some (5, false)⟩,
    ⟨some 8, .q (.pick (.t 5) (.v (.bool true)) (.t 7)), none⟩] [0, 8])
  (.cond (.t 8) (.seq (.ops [⟨some 2, .e (.set (.v (.int .i64 0))) [], none⟩] [2])
  (.ret)) (.skip)))
  (.seq (.ops [⟨some 9, .q (.mov (.t 0)), none⟩,
    ⟨some 10, .q (.bin .add (.t 9) (.v (.int .i64 9))), none⟩,
    ⟨some 11, .q (.bin .mul (.v (.int .i64 8)) (.t 10)), none⟩,
    ⟨some 12, .q (.bin .add (.t 11) (.v (.int .i64 15))), none⟩,
    ⟨some 13, .q (.bin .quo (.t 12) (.v (.int .i64 16))), none⟩,
    ⟨some 14, .q (.bin .mul (.t 13) (.v (.int .i64 16))), none⟩,
    ⟨some 2, .e (.set (.t 14)) [], none⟩] [2])
  (.ret))), [.slot 2]⟩
/-- 'binnacle/binnacleref19.Frame' -/
def i31 : IFunc := ⟨.seq (.ops [⟨some 2, .e (.set (.v (.int .i64 0))) [], none⟩] [0])
  (.seq (.seq (.ops [⟨some 4, .q (.mov (.t 0)), none⟩,
    ⟨some 5, .q (.bin .lss (.t 4) (.v (.int .i64 0))), none⟩,
    ⟨some 6, .q (.mov (.t 5)), none⟩,
    ⟨some 7, .q (.mov (.t 0)), some (6, false)⟩,
    ⟨some 8, .q (.bin .gtr (.t 7) (.v (.int .i64 24))), some (6, false)⟩,
    ⟨some 9, .q (.pick (.t 6) (.v (.bool true)) (.t 8)), none⟩] [0, 9])
  (.cond (.t 9) (.seq (.ops [⟨some 2, .e (.set (.v (.int .i64 0))) [], none⟩] [2])
  (.ret)) (.skip)))
  (.seq (.ops [⟨some 10, .q (.mov (.t 0)), none⟩,
    ⟨some 11, .q (.bin .add (.t 10) (.v (.int .i64 9))), none⟩,
    ⟨some 12, .q (.bin .mul (.v (.int .i64 8)) (.t 11)), none⟩,
    ⟨some 3, .e (.set (.t 12)) [], none⟩] [3])
  (.seq (.seq (.ops [⟨some 13, .q (.mov (.t 3)), none⟩,
    ⟨some 14, .q (.bin .rem (.t 13) (.v (.int .i64 16))), none⟩,
    ⟨some 15, .q (.bin .neq (.t 14) (.v (.int .i64 0))), none⟩] [3, 15])
  (.cond (.t 15) (.ops [⟨some 16, .q (.mov (.t 3)), none⟩,
    ⟨some 17, .q (.bin .add (.t 16) (.v (.int .i64 8))), none⟩,
    ⟨some 3, .e (.set (.t 17)) [], none⟩] [3]) (.skip)))
  (.seq (.ops [⟨some 18, .q (.mov (.t 3)), none⟩,
    ⟨some 2, .e (.set (.t 18)) [], none⟩] [2])
  (.ret))))), [.slot 2]⟩
/-- '(*binnacle/front.reader).cut' -/
def i34 : IFunc := ⟨.seq (.ops [⟨some 2, .e (.alloc 80 [.int .i64 0, .int .i64 0, .str [], .int .i64 0]) [], none⟩] [0, 2])
  (.seq (.ops [⟨some 10, .q (.mov (.t 0)), none⟩,
    ⟨some 11, .e (.call 61 [.t 10]) [], none⟩] [0, 2])
  (.seq (.ops [⟨some 12, .q (.mov (.t 0)), none⟩,
    ⟨some 13, .q (.nilc (.t 12)), none⟩,
    ⟨some 14, .q (.addr 1 (.t 13)), none⟩,
    ⟨some 15, .q (.load none (.t 14)), none⟩,
    ⟨some 3, .e (.set (.t 15)) [], none⟩] [0, 2, 3])
  (.seq (.seq (.ops [⟨some 16, .q (.mov (.t 3)), none⟩,
    ⟨some 17, .q (.mov (.t 0)), none⟩,
    ⟨some 18, .q (.nilc (.t 17)), none⟩,
    ⟨some 19, .q (.addr 0 (.t 18)), none⟩,
    ⟨some 20, .q (.load none (.t 19)), none⟩,
    ⟨some 21, .q (.len .str (.t 20)), none⟩,
    ⟨some 22, .q (.bin .eql (.t 16) (.t 21)), none⟩] [0, 2, 3, 22])
  (.cond (.t 22) (.seq (.ops [⟨some 23, .q (.mov (.t 3)), none⟩,
    ⟨some 24, .q (.build [.int .i64 0, .int .i64 0, .str [], .int .i64 0] [(0, 1, .v (.int .i64 0)), (1, 1, .t 23)]), none⟩,
    ⟨none, .e (.store 4 (.t 2) (.t 24)) [], none⟩] [2])
  (.ret)) (.skip)))
  (.seq (.ops [⟨some 25, .q (.mov (.t 0)), none⟩,
    ⟨some 26, .q (.nilc (.t 25)), none⟩,
    ⟨some 27, .q (.addr 0 (.t 26)), none⟩,
    ⟨some 28, .q (.load none (.t 27)), none⟩,
    ⟨some 29, .q (.mov (.t 3)), none⟩,
    ⟨some 30, .q (.ixStr (.t 28) (.t 29)), none⟩,
    ⟨some 4, .e (.set (.t 30)) [], none⟩] [0, 2, 3, 4])
  (.seq (.block 0 (.seq (.ops [⟨some 32, .q (.mov (.t 4)), none⟩,
    ⟨some 33, .e (.call 62 [.t 32]) [], none⟩,
    ⟨some 31, .e (.set (.t 33)) [], none⟩] [0, 2, 3, 4, 31])
  (.cond (.t 31) (.seq (.block 1 (.loop [0, 2, 3] (.seq (.seq (.ops [⟨some 34, .q (.mov (.t 0)), none⟩,
    ⟨some 35, .q (.nilc (.t 34)), none⟩,
    ⟨some 36, .q (.addr 1 (.t 35)), none⟩,
    ⟨some 37, .q (.load none (.t 36)), none⟩,
    ⟨some 38, .q (.mov (.t 0)), none⟩,
    ⟨some 39, .q (.nilc (.t 38)), none⟩,
    ⟨some 40, .q (.addr 0 (.t 39)), none⟩,
    ⟨some 41, .q (.load none (.t 40)), none⟩,
    ⟨some 42, .q (.len .str (.t 41)), none⟩,
    ⟨some 43, .q (.bin .lss (.t 37) (.t 42)), none⟩,
    ⟨some 44, .q (.mov (.t 43)), none⟩,
    ⟨some 45, .q (.mov (.t 0)), some (44, true)⟩,
    ⟨some 46, .q (.nilc (.t 45)), some (44, true)⟩,
    ⟨some 47, .q (.addr 0 (.t 46)), some (44, true)⟩,
    ⟨some 48, .q (.load none (.t 47)), some (44, true)⟩,
    ⟨some 49, .q (.mov (.t 0)), some (44, true)⟩,
    ⟨some 50, .q (.nilc (.t 49)), some (44, true)⟩,
    ⟨some 51, .q (.addr 1 (.t 50)), some (44, true)⟩,
    ⟨some 52, .q (.load none (.t 51)), some (44, true)⟩,
    ⟨some 53, .q (.ixStr (.t 48) (.t 52)), some (44, true)⟩,
    ⟨some 54, .e (.call 62 [.t 53]) [], some (44, true)⟩,
    ⟨some 55, .q (.mov (.t 54)), some (44, true)⟩,
    ⟨some 56, .q (.mov (.t 0)), some (55, false)⟩,
    ⟨some 57, .q (.nilc (.t 56)), some (55, false)⟩,
    ⟨some 58, .q (.addr 0 (.t 57)), some (55, false)⟩,
    ⟨some 59, .q (.load none (.t 58)), some (55, false)⟩,
    ⟨some 60, .q (.mov (.t 0)), some (55, false)⟩,
    ⟨some 61, .q (.nilc (.t 60)), some (55, false)⟩,
    ⟨some 62, .q (.addr 1 (.t 61)), some (55, false)⟩,
    ⟨some 63, .q (.load none (.t 62)), some (55, false)⟩,
    ⟨some 64, .q (.ixStr (.t 59) (.t 63)), some (55, false)⟩,
    ⟨some 65, .e (.call 63 [.t 64]) [], some (55, false)⟩,
    ⟨some 66, .q (.pick (.t 55) (.v (.bool true)) (.t 65)), some (44, true)⟩,
    ⟨some 67, .q (.pick (.t 44) (.t 66) (.v (.bool false))), none⟩] [0, 2, 3, 67])
  (.cond (.t 67) (.skip) (.exit 1)))
  (.block 2 (.ops [⟨some 68, .q (.mov (.t 0)), none⟩,
    ⟨some 69, .q (.nilc (.t 68)), none⟩,
    ⟨some 70, .q (.addr 1 (.t 69)), none⟩,
    ⟨some 71, .q (.load none (.t 70)), none⟩,
    ⟨some 72, .q (.bin .add (.t 71) (.v (.int .i64 1))), none⟩,
    ⟨some 73, .q (.nilc (.t 68)), none⟩,
    ⟨some 74, .q (.addr 1 (.t 73)), none⟩,
    ⟨none, .e (.store 1 (.t 74) (.t 72)) [], none⟩] [0, 2, 3])))))
  (.seq (.ops [⟨some 75, .q (.mov (.t 0)), none⟩,
    ⟨some 76, .q (.nilc (.t 75)), none⟩,
    ⟨some 77, .q (.addr 0 (.t 76)), none⟩,
    ⟨some 78, .q (.load none (.t 77)), none⟩,
    ⟨some 79, .q (.mov (.t 3)), none⟩,
    ⟨some 80, .q (.mov (.t 0)), none⟩,
    ⟨some 81, .q (.nilc (.t 80)), none⟩,
    ⟨some 82, .q (.addr 1 (.t 81)), none⟩,
    ⟨some 83, .q (.load none (.t 82)), none⟩,
    ⟨some 84, .q (.slStr (.t 78) (some (.t 79)) (some (.t 83))), none⟩,
    ⟨some 5, .e (.set (.t 84)) [], none⟩] [2, 3, 5])
  (.seq (.seq (.ops [⟨some 85, .e (.call 65 []) [], none⟩,
    ⟨some 86, .q (.mov (.t 5)), none⟩,
    ⟨some 87, .e (.call 64 [.t 85, .t 86]) [], none⟩] [2, 3, 5, 87])
  (.cond (.t 87) (.seq (.ops [⟨some 88, .q (.mov (.t 3)), none⟩,
    ⟨some 89, .q (.mov (.t 5)), none⟩,
    ⟨some 90, .q (.build [.int .i64 0, .int .i64 0, .str [], .int .i64 0] [(0, 1, .v (.int .i64 2)), (1, 1, .t 88), (2, 1, .t 89)]), none⟩,
    ⟨none, .e (.store 4 (.t 2) (.t 90)) [], none⟩] [2])
  (.ret)) (.skip)))
  (.seq (.seq (.ops [⟨some 91, .q (.mov (.t 5)), none⟩,
    ⟨some 92, .q (.len .str (.t 91)), none⟩,
    ⟨some 93, .q (.bin .gtr (.t 92) (.v (.int .i64 14))), none⟩] [2, 3, 5, 93])
  (.cond (.t 93) (.ops [⟨some 94, .q (.mov (.t 3)), none⟩,
    ⟨some 95, .e (.call 66 [.v (.int .i64 13), .t 94]) [], none⟩] [2, 3, 5]) (.skip)))
  (.seq (.ops [⟨some 96, .q (.mov (.t 3)), none⟩,
    ⟨some 97, .q (.mov (.t 5)), none⟩,
    ⟨some 98, .q (.build [.int .i64 0, .int .i64 0, .str [], .int .i64 0] [(0, 1, .v (.int .i64 1)), (1, 1, .t 96), (2, 1, .t 97)]), none⟩,
    ⟨none, .e (.store 4 (.t 2) (.t 98)) [], none⟩] [2])
  (.ret)))))) (.seq (.ops [⟨some 100, .q (.mov (.t 4)), none⟩,
    ⟨some 101, .e (.call 63 [.t 100]) [], none⟩,
    ⟨some 99, .e (.set (.t 101)) [], none⟩] [0, 2, 3, 4, 99])
  (.cond (.t 99) (.seq (.block 3 (.loop [0, 2, 3, 4] (.seq (.seq (.ops [⟨some 102, .q (.mov (.t 0)), none⟩,
    ⟨some 103, .q (.nilc (.t 102)), none⟩,
    ⟨some 104, .q (.addr 1 (.t 103)), none⟩,
    ⟨some 105, .q (.load none (.t 104)), none⟩,
    ⟨some 106, .q (.mov (.t 0)), none⟩,
    ⟨some 107, .q (.nilc (.t 106)), none⟩,
    ⟨some 108, .q (.addr 0 (.t 107)), none⟩,
    ⟨some 109, .q (.load none (.t 108)), none⟩,
    ⟨some 110, .q (.len .str (.t 109)), none⟩,
    ⟨some 111, .q (.bin .lss (.t 105) (.t 110)), none⟩,
    ⟨some 112, .q (.mov (.t 111)), none⟩,
    ⟨some 113, .q (.mov (.t 0)), some (112, true)⟩,
    ⟨some 114, .q (.nilc (.t 113)), some (112, true)⟩,
    ⟨some 115, .q (.addr 0 (.t 114)), some (112, true)⟩,
    ⟨some 116, .q (.load none (.t 115)), some (112, true)⟩,
    ⟨some 117, .q (.mov (.t 0)), some (112, true)⟩,
    ⟨some 118, .q (.nilc (.t 117)), some (112, true)⟩,
    ⟨some 119, .q (.addr 1 (.t 118)), some (112, true)⟩,
    ⟨some 120, .q (.load none (.t 119)), some (112, true)⟩,
    ⟨some 121, .q (.ixStr (.t 116) (.t 120)), some (112, true)⟩,
    ⟨some 122, .e (.call 63 [.t 121]) [], some (112, true)⟩,
    ⟨some 123, .q (.pick (.t 112) (.t 122) (.v (.bool false))), none⟩] [0, 2, 3, 4, 123])
  (.cond (.t 123) (.skip) (.exit 3)))
  (.block 4 (.ops [⟨some 124, .q (.mov (.t 0)), none⟩,
    ⟨some 125, .q (.nilc (.t 124)), none⟩,
    ⟨some 126, .q (.addr 1 (.t 125)), none⟩,
    ⟨some 127, .q (.load none (.t 126)), none⟩,
    ⟨some 128, .q (.bin .add (.t 127) (.v (.int .i64 1))), none⟩,
    ⟨some 129, .q (.nilc (.t 124)), none⟩,
    ⟨some 130, .q (.addr 1 (.t 129)), none⟩,
    ⟨none, .e (.store 1 (.t 130) (.t 128)) [], none⟩] [0, 2, 3, 4])))))
  (.seq (.ops [⟨some 132, .q (.mov (.t 0)), none⟩,
    ⟨some 133, .q (.nilc (.t 132)), none⟩,
    ⟨some 134, .q (.addr 0 (.t 133)), none⟩,
    ⟨some 135, .q (.load none (.t 134)), none⟩,
    ⟨some 136, .q (.mov (.t 3)), none⟩,
    ⟨some 137, .q (.mov (.t 0)), none⟩,
    ⟨some 138, .q (.nilc (.t 137)), none⟩,
    ⟨some 139, .q (.addr 1 (.t 138)), none⟩,
    ⟨some 140, .q (.load none (.t 139)), none⟩,
    ⟨some 141, .q (.slStr (.t 135) (some (.t 136)) (some (.t 140))), none⟩,
    ⟨some 142, .e (.call 67 [.t 141, .v (.int .i64 10), .v (.int .i64 64)]) [], none⟩,
    ⟨some 131, .q (.mov (.t 142)), none⟩,
    ⟨some 143, .q (.extr 0 (.t 131)), none⟩,
    ⟨some 144, .q (.extr 1 (.t 131)), none⟩,
    ⟨some 6, .e (.set (.t 143)) [], none⟩,
    ⟨some 7, .e (.set (.t 144)) [], none⟩] [0, 2, 3, 4, 6, 7])
  (.seq (.seq (.ops [⟨some 145, .q (.mov (.t 7)), none⟩,
    ⟨some 146, .q (.eq .iface true (.t 145) (.v (.nilIface))), none⟩,
    ⟨some 147, .q (.mov (.t 146)), none⟩,
    ⟨some 148, .q (.mov (.t 4)), some (147, false)⟩,
    ⟨some 149, .q (.bin .eql (.t 148) (.v (.int .u8 48))), some (147, false)⟩,
    ⟨some 150, .q (.mov (.t 149)), some (147, false)⟩,
    ⟨some 151, .q (.mov (.t 0)), some (150, true)⟩,
    ⟨some 152, .q (.nilc (.t 151)), some (150, true)⟩,
    ⟨some 153, .q (.addr 1 (.t 152)), some (150, true)⟩,
    ⟨some 154, .q (.load none (.t 153)), some (150, true)⟩,
    ⟨some 155, .q (.mov (.t 3)), some (150, true)⟩,
    ⟨some 156, .q (.bin .add (.t 155) (.v (.int .i64 1))), some (150, true)⟩,
    ⟨some 157, .q (.bin .gtr (.t 154) (.t 156)), some (150, true)⟩,
    ⟨some 158, .q (.pick (.t 150) (.t 157) (.v (.bool false))), some (147, false)⟩,
    ⟨some 159, .q (.pick (.t 147) (.v (.bool true)) (.t 158)), none⟩] [2, 3, 6, 159])
  (.cond (.t 159) (.ops [⟨some 160, .q (.mov (.t 3)), none⟩,
    ⟨some 161, .e (.call 66 [.v (.int .i64 13), .t 160]) [], none⟩] [2, 3, 6]) (.skip)))
  (.seq (.ops [⟨some 162, .q (.mov (.t 3)), none⟩,
    ⟨some 163, .q (.mov (.t 6)), none⟩,
    ⟨some 164, .q (.build [.int .i64 0, .int .i64 0, .str [], .int .i64 0] [(0, 1, .v (.int .i64 3)), (1, 1, .t 162), (3, 1, .t 163)]), none⟩,
    ⟨none, .e (.store 4 (.t 2) (.t 164)) [], none⟩] [2])
  (.ret))))) (.seq (.ops [⟨some 166, .q (.mov (.t 4)), none⟩,
    ⟨some 167, .q (.bin .eql (.t 166) (.v (.int .u8 34))), none⟩,
    ⟨some 168, .q (.mov (.t 167)), none⟩,
    ⟨some 169, .q (.mov (.t 4)), some (168, false)⟩,
    ⟨some 170, .q (.bin .eql (.t 169) (.v (.int .u8 39))), some (168, false)⟩,
    ⟨some 171, .q (.pick (.t 168) (.v (.bool true)) (.t 170)), none⟩,
    ⟨some 165, .e (.set (.t 171)) [], none⟩] [0, 2, 3, 165])
  (.cond (.t 165) (.seq (.ops [⟨some 172, .q (.mov (.t 0)), none⟩,
    ⟨some 173, .q (.mov (.t 3)), none⟩,
    ⟨some 174, .e (.call 68 [.t 172, .t 173]) [], none⟩,
    ⟨none, .e (.store 4 (.t 2) (.t 174)) [], none⟩] [2])
  (.ret)) (.skip))))))))
  (.seq (.seq (.ops [⟨some 175, .e (.call 69 []) [], none⟩,
    ⟨some 176, .q (.len .slice (.t 175)), none⟩,
    ⟨some 177, .q (.mov (.v (.int .i64 0))), none⟩] [0, 2, 3, 175, 176, 177])
  (.block 5 (.loop [0, 2, 3, 175, 176, 177] (.seq (.ops [⟨some 178, .q (.bin .lss (.t 177) (.t 176)), none⟩] [0, 2, 3, 175, 176, 177, 178])
  (.seq (.cond (.t 178) (.skip) (.exit 5))
  (.seq (.block 6 (.seq (.ops [⟨some 179, .q (.ixSl 1 (.t 175) (.t 177)), none⟩,
    ⟨some 180, .q (.load none (.t 179)), none⟩,
    ⟨some 9, .e (.set (.t 180)) [], none⟩] [0, 2, 3, 9, 175, 176, 177])
  (.seq (.ops [⟨some 181, .q (.mov (.t 0)), none⟩,
    ⟨some 182, .q (.nilc (.t 181)), none⟩,
    ⟨some 183, .q (.addr 0 (.t 182)), none⟩,
    ⟨some 184, .q (.load none (.t 183)), none⟩,
    ⟨some 185, .q (.mov (.t 3)), none⟩,
    ⟨some 186, .q (.slStr (.t 184) (some (.t 185)) none), none⟩,
    ⟨some 187, .q (.mov (.t 9)), none⟩,
    ⟨some 188, .e (.call 70 [.t 186, .t 187]) [], none⟩] [0, 2, 3, 9, 175, 176, 177, 188])
  (.cond (.t 188) (.seq (.ops [⟨some 189, .q (.mov (.t 0)), none⟩,
    ⟨some 190, .q (.nilc (.t 189)), none⟩,
    ⟨some 191, .q (.addr 1 (.t 190)), none⟩,
    ⟨some 192, .q (.load none (.t 191)), none⟩,
    ⟨some 193, .q (.mov (.t 9)), none⟩,
    ⟨some 194, .q (.len .str (.t 193)), none⟩,
    ⟨some 195, .q (.bin .add (.t 192) (.t 194)), none⟩,
    ⟨some 196, .q (.nilc (.t 189)), none⟩,
    ⟨some 197, .q (.addr 1 (.t 196)), none⟩,
    ⟨none, .e (.store 1 (.t 197) (.t 195)) [], none⟩] [2, 3, 9])
  (.seq (.ops [⟨some 198, .q (.mov (.t 3)), none⟩,
    ⟨some 199, .q (.mov (.t 9)), none⟩,
    ⟨some 200, .q (.build [.int .i64 0, .int .i64 0, .str [], .int .i64 0] [(0, 1, .v (.int .i64 5)), (1, 1, .t 198), (2, 1, .t 199)]), none⟩,
    ⟨none, .e (.store 4 (.t 2) (.t 200)) [], none⟩] [2])
  (.ret))) (.skip)))))
  (.ops [⟨some 201, .q (.bin .add (.t 177) (.v (.int .i64 1))), none⟩,
    ⟨some 177, .q (.mov (.t 201)), none⟩] [0, 2, 3, 175, 176, 177])))))))
  (.seq (.ops [⟨some 202, .q (.mov (.t 3)), none⟩,
    ⟨some 203, .e (.call 66 [.v (.int .i64 13), .t 202]) [], none⟩] [2])
  (.seq (.ops [⟨some 204, .q (.build [.int .i64 0, .int .i64 0, .str [], .int .i64 0] []), none⟩,
    ⟨none, .e (.store 4 (.t 2) (.t 204)) [], none⟩] [2])
  (.ret))))))))), [.cell 2 (some 4)]⟩
/-- '(*binnacle/front.reader).declaration' -/
def i35 : IFunc := ⟨.seq (.ops [⟨some 2, .e (.set (.v (.int .i64 0))) [], none⟩] [0])
  (.seq (.ops [⟨some 7, .q (.mov (.t 0)), none⟩,
    ⟨some 8, .q (.nilc (.t 7)), none⟩,
    ⟨some 9, .q (.addr 2 (.t 8)), none⟩,
    ⟨some 10, .q (.addr 1 (.t 9)), none⟩,
    ⟨some 11, .q (.load none (.t 10)), none⟩,
    ⟨some 3, .e (.set (.t 11)) [], none⟩] [0, 3])
  (.seq (.ops [⟨some 4, .e (.set (.v (.int .i64 3))) [], none⟩] [0, 3, 4])
  (.seq (.seq (.ops [⟨some 12, .q (.mov (.t 0)), none⟩,
    ⟨some 13, .e (.call 71 [.t 12, .v (.str [99, 104, 97, 114])]) [], none⟩] [0, 3, 4, 13])
  (.cond (.t 13) (.ops [⟨some 4, .e (.set (.v (.int .i64 2))) [], none⟩] [0, 3, 4]) (.ops [⟨some 14, .q (.mov (.t 0)), none⟩,
    ⟨some 15, .e (.call 72 [.t 14, .v (.str [105, 110, 116])]) [], none⟩] [0, 3, 4])))
  (.seq (.ops [⟨some 16, .q (.mov (.t 0)), none⟩,
    ⟨some 17, .e (.call 73 [.t 16, .v (.int .i64 1)]) [], none⟩,
    ⟨some 18, .q (.field none 2 (.t 17)), none⟩,
    ⟨some 5, .e (.set (.t 18)) [], none⟩] [0, 3, 4, 5])
  (.seq (.block 0 (.seq (.ops [⟨some 20, .q (.mov (.t 4)), none⟩,
    ⟨some 21, .q (.bin .eql (.t 20) (.v (.int .i64 3))), none⟩,
    ⟨some 22, .q (.mov (.t 21)), none⟩,
    ⟨some 23, .q (.mov (.t 0)), some (22, true)⟩,
    ⟨some 24, .e (.call 71 [.t 23, .v (.str [59])]) [], some (22, true)⟩,
    ⟨some 25, .q (.pick (.t 22) (.t 24) (.v (.bool false))), none⟩,
    ⟨some 19, .e (.set (.t 25)) [], none⟩] [0, 3, 4, 5, 19])
  (.cond (.t 19) (.seq (.ops [⟨some 26, .q (.mov (.t 0)), none⟩,
    ⟨some 27, .q (.mov (.t 3)), none⟩,
    ⟨some 28, .q (.mov (.t 5)), none⟩,
    ⟨some 29, .q (.build [.int .i64 0, .int .i64 0, .str [], .int .i64 0, .int .i64 0, .nilslice] [(0, 1, .v (.int .i64 20)), (1, 1, .t 27), (2, 1, .t 28), (4, 1, .v (.int .i64 1))]), none⟩,
    ⟨some 30, .e (.call 36 [.t 26, .t 29]) [], none⟩,
    ⟨some 2, .e (.set (.t 30)) [], none⟩] [2])
  (.ret)) (.seq (.ops [⟨some 32, .q (.mov (.t 4)), none⟩,
    ⟨some 33, .q (.bin .eql (.t 32) (.v (.int .i64 3))), none⟩,
    ⟨some 34, .q (.mov (.t 33)), none⟩,
    ⟨some 35, .q (.mov (.t 0)), some (34, true)⟩,
    ⟨some 36, .e (.call 74 [.t 35, .v (.str [40])]) [], some (34, true)⟩,
    ⟨some 37, .q (.pick (.t 34) (.t 36) (.v (.bool false))), none⟩,
    ⟨some 31, .e (.set (.t 37)) [], none⟩] [0, 3, 4, 5, 31])
  (.cond (.t 31) (.seq (.ops [⟨some 38, .q (.mov (.t 0)), none⟩,
    ⟨some 39, .q (.mov (.t 3)), none⟩,
    ⟨some 40, .q (.mov (.t 5)), none⟩,
    ⟨some 41, .e (.call 75 [.t 38, .t 39, .t 40]) [], none⟩,
    ⟨some 2, .e (.set (.t 41)) [], none⟩] [2])
  (.ret)) (.skip))))))
  (.seq (.ops [⟨some 42, .q (.mov (.t 0)), none⟩,
    ⟨some 43, .e (.call 72 [.t 42, .v (.str [91])]) [], none⟩] [0, 3, 4, 5])
  (.seq (.ops [⟨some 44, .q (.mov (.t 0)), none⟩,
    ⟨some 45, .e (.call 73 [.t 44, .v (.int .i64 3)]) [], none⟩,
    ⟨some 46, .q (.field none 3 (.t 45)), none⟩,
    ⟨some 6, .e (.set (.t 46)) [], none⟩] [0, 3, 4, 5, 6])
  (.seq (.ops [⟨some 47, .q (.mov (.t 0)), none⟩,
    ⟨some 48, .e (.call 72 [.t 47, .v (.str [93])]) [], none⟩] [0, 3, 4, 5, 6])
  (.seq (.ops [⟨some 49, .q (.mov (.t 0)), none⟩,
    ⟨some 50, .e (.call 72 [.t 49, .v (.str [59])]) [], none⟩] [0, 3, 4, 5, 6])
  (.seq (.ops [⟨some 51, .q (.mov (.t 0)), none⟩,
    ⟨some 52, .q (.mov (.t 3)), none⟩,
    ⟨some 53, .q (.mov (.t 5)), none⟩,
    ⟨some 54, .q (.mov (.t 4)), none⟩,
    ⟨some 55, .q (.mov (.t 6)), none⟩,
    ⟨some 56, .q (.build [.int .i64 0, .int .i64 0, .str [], .int .i64 0, .int .i64 0, .nilslice] [(0, 1, .v (.int .i64 21)), (1, 1, .t 52), (2, 1, .t 53), (4, 1, .t 54), (3, 1, .t 55)]), none⟩,
    ⟨some 57, .e (.call 36 [.t 51, .t 56]) [], none⟩,
    ⟨some 2, .e (.set (.t 57)) [], none⟩] [2])
  (.ret))))))))))), [.slot 2]⟩
/-- '(*binnacle/front.reader).node' -/
def i36 : IFunc := ⟨.seq (.ops [⟨some 3, .e (.box 47 (.t 1)) [], none⟩,
    ⟨some 4, .e (.set (.v (.int .i64 0))) [], none⟩] [0, 3])
  (.seq (.seq (.ops [⟨some 5, .q (.mov (.t 0)), none⟩,
    ⟨some 6, .q (.nilc (.t 5)), none⟩,
    ⟨some 7, .q (.addr 6 (.t 6)), none⟩,
    ⟨some 8, .q (.load none (.t 7)), none⟩,
    ⟨some 9, .q (.len .slice (.t 8)), none⟩,
    ⟨some 10, .q (.bin .eql (.t 9) (.v (.int .i64 4096))), none⟩] [0, 3, 10])
  (.cond (.t 10) (.ops [⟨some 11, .q (.mov (.t 0)), none⟩,
    ⟨some 12, .q (.nilc (.t 11)), none⟩,
    ⟨some 13, .q (.addr 2 (.t 12)), none⟩,
    ⟨some 14, .q (.addr 1 (.t 13)), none⟩,
    ⟨some 15, .q (.load none (.t 14)), none⟩,
    ⟨some 16, .e (.call 66 [.v (.int .i64 15), .t 15]) [], none⟩] [0, 3]) (.skip)))
  (.seq (.ops [⟨some 17, .q (.mov (.t 0)), none⟩,
    ⟨some 18, .q (.mov (.t 0)), none⟩,
    ⟨some 19, .q (.nilc (.t 18)), none⟩,
    ⟨some 20, .q (.addr 6 (.t 19)), none⟩,
    ⟨some 21, .q (.load none (.t 20)), none⟩,
    ⟨some 22, .q (.load (some 6) (.t 3)), none⟩,
    ⟨some 23, .e (.bslice 47 6 1 [.int .i64 0, .int .i64 0, .str [], .int .i64 0, .int .i64 0, .nilslice] [(0, 6, .t 22)]) [], none⟩,
    ⟨some 24, .e (.append 47 6 72 (.t 21) (.t 23)) [], none⟩,
    ⟨some 25, .q (.nilc (.t 17)), none⟩,
    ⟨some 26, .q (.addr 6 (.t 25)), none⟩,
    ⟨none, .e (.store 1 (.t 26) (.t 24)) [], none⟩] [0])
  (.seq (.ops [⟨some 27, .q (.mov (.t 0)), none⟩,
    ⟨some 28, .q (.nilc (.t 27)), none⟩,
    ⟨some 29, .q (.addr 6 (.t 28)), none⟩,
    ⟨some 30, .q (.load none (.t 29)), none⟩,
    ⟨some 31, .q (.len .slice (.t 30)), none⟩,
    ⟨some 32, .q (.bin .sub (.t 31) (.v (.int .i64 1))), none⟩,
    ⟨some 4, .e (.set (.t 32)) [], none⟩] [4])
  (.ret)))), [.slot 4]⟩
/-- 'binnacle/front.shaped' -/
def i37 : IFunc := ⟨.seq (.ops [⟨some 2, .e (.set (.v (.bool false))) [], none⟩] [0])
  (.seq (.seq (.ops [⟨some 9, .q (.mov (.t 0)), none⟩,
    ⟨some 10, .q (.len .slice (.t 9)), none⟩,
    ⟨some 11, .q (.bin .eql (.t 10) (.v (.int .i64 0))), none⟩,
    ⟨some 12, .q (.mov (.t 11)), none⟩,
    ⟨some 13, .q (.mov (.t 0)), some (12, false)⟩,
    ⟨some 14, .q (.len .slice (.t 13)), some (12, false)⟩,
    ⟨some 15, .q (.bin .gtr (.t 14) (.v (.int .i64 4096))), some (12, false)⟩,
    ⟨some 16, .q (.pick (.t 12) (.v (.bool true)) (.t 15)), none⟩,
    ⟨some 17, .q (.mov (.t 16)), none⟩,
    ⟨some 18, .q (.mov (.t 0)), some (17, false)⟩,
    ⟨some 19, .q (.mov (.t 0)), some (17, false)⟩,
    ⟨some 20, .q (.len .slice (.t 19)), some (17, false)⟩,
    ⟨some 21, .q (.bin .sub (.t 20) (.v (.int .i64 1))), some (17, false)⟩,
    ⟨some 22, .q (.ixSl 6 (.t 18) (.t 21)), some (17, false)⟩,
    ⟨some 23, .q (.addr 0 (.t 22)), some (17, false)⟩,
    ⟨some 24, .q (.load none (.t 23)), some (17, false)⟩,
    ⟨some 25, .q (.bin .neq (.t 24) (.v (.int .i64 23))), some (17, false)⟩,
    ⟨some 26, .q (.pick (.t 17) (.v (.bool true)) (.t 25)), none⟩] [0, 26])
  (.cond (.t 26) (.seq (.ops [⟨some 2, .e (.set (.v (.bool false))) [], none⟩] [2])
  (.ret)) (.skip)))
  (.seq (.ops [⟨some 27, .q (.mov (.t 0)), none⟩,
    ⟨some 28, .q (.len .slice (.t 27)), none⟩,
    ⟨some 29, .e (.mkslice 3 1 [.int .i64 0] (.t 28)) [], none⟩,
    ⟨some 3, .e (.set (.t 29)) [], none⟩] [0, 3])
  (.seq (.seq (.ops [⟨some 30, .q (.mov (.t 0)), none⟩,
    ⟨some 31, .q (.len .slice (.t 30)), none⟩,
    ⟨some 32, .q (.mov (.v (.int .i64 0))), none⟩] [0, 3, 30, 31, 32])
  (.block 0 (.loop [0, 3, 30, 31, 32] (.seq (.ops [⟨some 33, .q (.bin .lss (.t 32) (.t 31)), none⟩] [0, 3, 30, 31, 32, 33])
  (.seq (.cond (.t 33) (.skip) (.exit 0))
  (.seq (.block 1 (.seq (.ops [⟨some 34, .q (.mov (.t 32)), none⟩,
    ⟨some 35, .q (.ixSl 6 (.t 30) (.t 32)), none⟩,
    ⟨some 36, .q (.load (some 6) (.t 35)), none⟩,
    ⟨some 5, .e (.alloc 47 [.int .i64 0, .int .i64 0, .str [], .int .i64 0, .int .i64 0, .nilslice]) [], none⟩,
    ⟨some 4, .e (.set (.t 34)) [], none⟩,
    ⟨none, .e (.store 6 (.t 5) (.t 36)) [], none⟩] [0, 3, 4, 5, 30, 31, 32])
  (.seq (.ops [⟨some 37, .q (.mov (.t 4)), none⟩,
    ⟨some 6, .e (.set (.t 37)) [], none⟩] [0, 3, 4, 5, 6, 30, 31, 32])
  (.seq (.seq (.ops [⟨some 38, .q (.addr 5 (.t 5)), none⟩,
    ⟨some 39, .q (.load none (.t 38)), none⟩,
    ⟨some 40, .q (.len .slice (.t 39)), none⟩,
    ⟨some 41, .q (.bin .sub (.t 40) (.v (.int .i64 1))), none⟩,
    ⟨some 7, .e (.set (.t 41)) [], none⟩] [0, 3, 4, 5, 6, 7, 30, 31, 32])
  (.block 2 (.loop [0, 3, 4, 5, 6, 7, 30, 31, 32] (.seq (.seq (.ops [⟨some 42, .q (.mov (.t 7)), none⟩,
    ⟨some 43, .q (.bin .geq (.t 42) (.v (.int .i64 0))), none⟩] [0, 3, 4, 5, 6, 7, 30, 31, 32, 43])
  (.cond (.t 43) (.skip) (.exit 2)))
  (.seq (.block 3 (.seq (.seq (.ops [⟨some 46, .q (.addr 5 (.t 5)), none⟩,
    ⟨some 47, .q (.load none (.t 46)), none⟩,
    ⟨some 48, .q (.mov (.t 7)), none⟩,
    ⟨some 49, .q (.ixSl 1 (.t 47) (.t 48)), none⟩,
    ⟨some 50, .q (.load none (.t 49)), none⟩,
    ⟨some 8, .e (.set (.t 50)) [], none⟩] [0, 3, 4, 5, 6, 7, 8, 30, 31, 32])
  (.seq (.ops [⟨some 51, .q (.mov (.t 8)), none⟩,
    ⟨some 52, .q (.mov (.t 6)), none⟩,
    ⟨some 53, .q (.bin .sub (.t 52) (.v (.int .i64 1))), none⟩,
    ⟨some 54, .q (.bin .neq (.t 51) (.t 53)), none⟩] [0, 3, 4, 5, 6, 7, 30, 31, 32, 54])
  (.cond (.t 54) (.seq (.ops [⟨some 2, .e (.set (.v (.bool false))) [], none⟩] [2])
  (.ret)) (.skip))))
  (.seq (.seq (.ops [⟨some 55, .q (.mov (.t 6)), none⟩,
    ⟨some 56, .q (.bin .eql (.t 55) (.v (.int .i64 0))), none⟩] [0, 3, 4, 5, 6, 7, 30, 31, 32, 56])
  (.cond (.t 56) (.seq (.ops [⟨some 2, .e (.set (.v (.bool false))) [], none⟩] [2])
  (.ret)) (.skip)))
  (.ops [⟨some 57, .q (.mov (.t 3)), none⟩,
    ⟨some 58, .q (.mov (.t 6)), none⟩,
    ⟨some 59, .q (.bin .sub (.t 58) (.v (.int .i64 1))), none⟩,
    ⟨some 60, .q (.ixSl 1 (.t 57) (.t 59)), none⟩,
    ⟨some 61, .q (.load none (.t 60)), none⟩,
    ⟨some 6, .e (.set (.t 61)) [], none⟩] [0, 3, 4, 5, 6, 7, 30, 31, 32]))))
  (.ops [⟨some 44, .q (.mov (.t 7)), none⟩,
    ⟨some 45, .q (.bin .sub (.t 44) (.v (.int .i64 1))), none⟩,
    ⟨some 7, .e (.set (.t 45)) [], none⟩] [0, 3, 4, 5, 6, 7, 30, 31, 32]))))))
  (.seq (.ops [⟨some 62, .q (.mov (.t 3)), none⟩,
    ⟨some 63, .q (.mov (.t 4)), none⟩,
    ⟨some 64, .q (.mov (.t 6)), none⟩,
    ⟨some 65, .q (.ixSl 1 (.t 62) (.t 63)), none⟩,
    ⟨none, .e (.store 1 (.t 65) (.t 64)) [], none⟩] [0, 3, 5, 30, 31, 32])
  (.seq (.ops [⟨some 66, .q (.mov (.t 0)), none⟩,
    ⟨some 67, .q (.load (some 6) (.t 5)), none⟩,
    ⟨some 68, .e (.call 76 [.t 66, .t 67]) [], none⟩,
    ⟨some 69, .q (.un .not (.t 68)), none⟩] [0, 3, 30, 31, 32, 69])
  (.cond (.t 69) (.seq (.ops [⟨some 2, .e (.set (.v (.bool false))) [], none⟩] [2])
  (.ret)) (.skip))))))))
  (.ops [⟨some 70, .q (.bin .add (.t 32) (.v (.int .i64 1))), none⟩,
    ⟨some 32, .q (.mov (.t 70)), none⟩] [0, 3, 30, 31, 32])))))))
  (.seq (.ops [⟨some 71, .q (.mov (.t 3)), none⟩,
    ⟨some 72, .q (.mov (.t 0)), none⟩,
    ⟨some 73, .q (.len .slice (.t 72)), none⟩,
    ⟨some 74, .q (.bin .sub (.t 73) (.v (.int .i64 1))), none⟩,
    ⟨some 75, .q (.ixSl 1 (.t 71) (.t 74)), none⟩,
    ⟨some 76, .q (.load none (.t 75)), none⟩,
    ⟨some 77, .q (.bin .eql (.t 76) (.v (.int .i64 0))), none⟩,
    ⟨some 2, .e (.set (.t 77)) [], none⟩] [2])
  (.ret))))), [.slot 2]⟩
/-- '(*binnacle/front.writer).declaration' -/
def i38 : IFunc := ⟨.seq (.ops [⟨some 5, .q (.mov (.t 0)), none⟩,
    ⟨some 6, .q (.nilc (.t 5)), none⟩,
    ⟨some 7, .q (.addr 0 (.t 6)), none⟩,
    ⟨some 8, .q (.load none (.t 7)), none⟩,
    ⟨some 9, .q (.mov (.t 1)), none⟩,
    ⟨some 10, .q (.ixSl 6 (.t 8) (.t 9)), none⟩,
    ⟨some 11, .q (.load (some 6) (.t 10)), none⟩,
    ⟨some 4, .e (.alloc 47 [.int .i64 0, .int .i64 0, .str [], .int .i64 0, .int .i64 0, .nilslice]) [], none⟩,
    ⟨none, .e (.store 6 (.t 4) (.t 11)) [], none⟩] [0, 4])
  (.seq (.ops [⟨some 12, .q (.addr 0 (.t 4)), none⟩,
    ⟨some 13, .q (.load none (.t 12)), none⟩] [0, 4, 13])
  (.block 0 (.seq (.ops [⟨some 15, .q (.bin .eql (.t 13) (.v (.int .i64 20))), none⟩,
    ⟨some 14, .e (.set (.t 15)) [], none⟩] [0, 4, 13, 14])
  (.cond (.t 14) (.ops [⟨some 16, .q (.mov (.t 0)), none⟩,
    ⟨some 17, .q (.addr 2 (.t 4)), none⟩,
    ⟨some 18, .q (.load none (.t 17)), none⟩,
    ⟨some 19, .e (.bslice 9 1 3 [.str []] [(0, 1, .v (.str [105, 110, 116])), (1, 1, .t 18), (2, 1, .v (.str [59]))]) [], none⟩,
    ⟨some 20, .e (.call 77 [.t 16, .t 19]) [], none⟩] []) (.seq (.ops [⟨some 22, .q (.bin .eql (.t 13) (.v (.int .i64 21))), none⟩,
    ⟨some 21, .e (.set (.t 22)) [], none⟩] [0, 4, 13, 21])
  (.cond (.t 21) (.ops [⟨some 23, .q (.mov (.t 0)), none⟩,
    ⟨some 26, .q (.addr 4 (.t 4)), none⟩,
    ⟨some 27, .q (.load none (.t 26)), none⟩,
    ⟨some 28, .q (.bin .eql (.t 27) (.v (.int .i64 2))), none⟩,
    ⟨some 30, .q (.addr 2 (.t 4)), none⟩,
    ⟨some 31, .q (.load none (.t 30)), none⟩,
    ⟨some 32, .q (.addr 3 (.t 4)), none⟩,
    ⟨some 33, .q (.load none (.t 32)), none⟩,
    ⟨some 34, .q (.fmt (.t 33)), none⟩,
    ⟨some 24, .e (.mkmap) [], none⟩,
    ⟨none, .e (.mapupd .bool (.t 24) (.v (.bool true)) (.v (.str [99, 104, 97, 114]))) [], none⟩,
    ⟨none, .e (.mapupd .bool (.t 24) (.v (.bool false)) (.v (.str [105, 110, 116]))) [], none⟩,
    ⟨some 25, .q (.mov (.t 24)), none⟩,
    ⟨some 29, .q (.lookup .bool (.str []) false (.t 25) (.t 28)), none⟩,
    ⟨some 35, .e (.bslice 9 1 6 [.str []] [(0, 1, .t 29), (1, 1, .t 31), (2, 1, .v (.str [91])), (3, 1, .t 34), (4, 1, .v (.str [93])), (5, 1, .v (.str [59]))]) [], none⟩,
    ⟨some 36, .e (.call 77 [.t 23, .t 35]) [], none⟩] []) (.seq (.ops [⟨some 38, .q (.bin .eql (.t 13) (.v (.int .i64 22))), none⟩,
    ⟨some 37, .e (.set (.t 38)) [], none⟩] [0, 4, 37])
  (.cond (.t 37) (.seq (.ops [⟨some 39, .q (.mov (.t 0)), none⟩,
    ⟨some 40, .q (.addr 2 (.t 4)), none⟩,
    ⟨some 41, .q (.load none (.t 40)), none⟩,
    ⟨some 42, .e (.bslice 9 1 3 [.str []] [(0, 1, .v (.str [105, 110, 116])), (1, 1, .t 41), (2, 1, .v (.str [40]))]) [], none⟩,
    ⟨some 43, .e (.call 77 [.t 39, .t 42]) [], none⟩] [0, 4])
  (.seq (.ops [⟨some 44, .q (.mov (.t 0)), none⟩,
    ⟨some 45, .q (.addr 5 (.t 4)), none⟩,
    ⟨some 46, .q (.load none (.t 45)), none⟩,
    ⟨some 47, .q (.addr 4 (.t 4)), none⟩,
    ⟨some 48, .q (.load none (.t 47)), none⟩,
    ⟨some 49, .q (.slList 1 (.t 46) none (some (.t 48))), none⟩,
    ⟨some 50, .q (.mov (.t 0)), none⟩,
    ⟨some 51, .q (.func (.func 80) [.t 50] []), none⟩,
    ⟨some 52, .e (.call 79 [.t 44, .t 49, .t 51]) [], none⟩] [0, 4])
  (.seq (.ops [⟨some 53, .q (.mov (.t 0)), none⟩,
    ⟨some 54, .e (.bslice 9 1 1 [.str []] [(0, 1, .v (.str [41]))]) [], none⟩,
    ⟨some 55, .e (.call 77 [.t 53, .t 54]) [], none⟩] [0, 4])
  (.ops [⟨some 56, .q (.mov (.t 0)), none⟩,
    ⟨some 57, .q (.addr 5 (.t 4)), none⟩,
    ⟨some 58, .q (.load none (.t 57)), none⟩,
    ⟨some 59, .q (.addr 4 (.t 4)), none⟩,
    ⟨some 60, .q (.load none (.t 59)), none⟩,
    ⟨some 61, .q (.ixSl 1 (.t 58) (.t 60)), none⟩,
    ⟨some 62, .q (.load none (.t 61)), none⟩,
    ⟨some 63, .e (.call 81 [.t 56, .t 62]) [], none⟩] [])))) (.skip))))))))), []⟩
/-- '(*strings.Builder).String' -/
def i39 : IFunc := ⟨.seq (.ops [⟨some 2, .e (.set (.v (.str []))) [], none⟩] [0])
  (.seq (.ops [⟨some 3, .q (.mov (.t 0)), none⟩,
    ⟨some 4, .q (.nilc (.t 3)), none⟩,
    ⟨some 5, .q (.addr 1 (.t 4)), none⟩,
    ⟨some 6, .q (.load none (.t 5)), none⟩,
    ⟨some 7, .q (.sdata (.t 6)), none⟩,
    ⟨some 8, .q (.mov (.t 0)), none⟩,
    ⟨some 9, .q (.nilc (.t 8)), none⟩,
    ⟨some 10, .q (.addr 1 (.t 9)), none⟩,
    ⟨some 11, .q (.load none (.t 10)), none⟩,
    ⟨some 12, .q (.len .slice (.t 11)), none⟩,
    ⟨some 13, .e (.ustr 5 (.t 7) (.t 12)) [], none⟩,
    ⟨some 2, .e (.set (.t 13)) [], none⟩] [2])
  (.ret)), [.slot 2]⟩
/-- '(*binnacle/front.reader).whole' -/
def i40 : IFunc := ⟨.seq (.ops [⟨some 2, .e (.alloc 24 [.nilslice]) [], none⟩,
    ⟨some 3, .e (.alloc 4 [.bool false]) [], none⟩] [0, 2, 3])
  (.seq (.seq (.ops [⟨some 5, .q (.func (.func 82) [] [.t 2, .t 3]), none⟩] [0, 2, 3, 5])
  (.defer (.t 5) []))
  (.seq (.ops [⟨some 6, .q (.mov (.t 0)), none⟩,
    ⟨some 7, .q (.mov (.t 0)), none⟩,
    ⟨some 8, .e (.call 34 [.t 7]) [], none⟩,
    ⟨some 9, .q (.nilc (.t 6)), none⟩,
    ⟨some 10, .q (.addr 2 (.t 9)), none⟩,
    ⟨none, .e (.store 4 (.t 10) (.t 8)) [], none⟩] [0, 2, 3])
  (.seq (.ops [⟨some 4, .e (.set (.v (.nilslice))) [], none⟩] [0, 2, 3, 4])
  (.seq (.block 0 (.loop [0, 2, 3, 4] (.seq (.seq (.ops [⟨some 11, .q (.mov (.t 0)), none⟩,
    ⟨some 12, .q (.nilc (.t 11)), none⟩,
    ⟨some 13, .q (.addr 2 (.t 12)), none⟩,
    ⟨some 14, .q (.addr 0 (.t 13)), none⟩,
    ⟨some 15, .q (.load none (.t 14)), none⟩,
    ⟨some 16, .q (.bin .neq (.t 15) (.v (.int .i64 0))), none⟩] [0, 2, 3, 4, 16])
  (.cond (.t 16) (.skip) (.exit 0)))
  (.block 1 (.ops [⟨some 17, .q (.mov (.t 4)), none⟩,
    ⟨some 18, .q (.mov (.t 0)), none⟩,
    ⟨some 19, .e (.call 35 [.t 18]) [], none⟩,
    ⟨some 20, .e (.bslice 3 1 1 [.int .i64 0] [(0, 1, .t 19)]) [], none⟩,
    ⟨some 21, .e (.append 3 1 8 (.t 17) (.t 20)) [], none⟩,
    ⟨some 4, .e (.set (.t 21)) [], none⟩] [0, 2, 3, 4])))))
  (.seq (.ops [⟨some 22, .q (.mov (.t 0)), none⟩,
    ⟨some 23, .q (.mov (.t 4)), none⟩,
    ⟨some 24, .q (.build [.int .i64 0, .int .i64 0, .str [], .int .i64 0, .int .i64 0, .nilslice] [(0, 1, .v (.int .i64 23)), (5, 1, .t 23)]), none⟩,
    ⟨some 25, .e (.call 36 [.t 22, .t 24]) [], none⟩] [0, 2, 3])
  (.seq (.ops [⟨some 26, .q (.mov (.t 0)), none⟩,
    ⟨some 27, .q (.nilc (.t 26)), none⟩,
    ⟨some 28, .q (.addr 6 (.t 27)), none⟩,
    ⟨some 29, .q (.load none (.t 28)), none⟩,
    ⟨none, .e (.store 1 (.t 2) (.t 29)) [], none⟩,
    ⟨none, .e (.store 1 (.t 3) (.v (.bool true))) [], none⟩] [2, 3])
  (.ret))))))), [.cell 2 none, .cell 3 none]⟩
/-- 'binnacle/front.same' -/
def i41 : IFunc := ⟨.seq (.ops [⟨some 4, .e (.set (.v (.bool false))) [], none⟩] [0, 1])
  (.seq (.seq (.ops [⟨some 9, .q (.mov (.t 0)), none⟩,
    ⟨some 10, .q (.len .slice (.t 9)), none⟩,
    ⟨some 11, .q (.mov (.t 1)), none⟩,
    ⟨some 12, .q (.len .slice (.t 11)), none⟩,
    ⟨some 13, .q (.bin .neq (.t 10) (.t 12)), none⟩] [0, 1, 13])
  (.cond (.t 13) (.seq (.ops [⟨some 4, .e (.set (.v (.bool false))) [], none⟩] [4])
  (.ret)) (.skip)))
  (.seq (.seq (.ops [⟨some 14, .q (.mov (.t 0)), none⟩,
    ⟨some 15, .q (.len .slice (.t 14)), none⟩,
    ⟨some 16, .q (.mov (.v (.int .i64 0))), none⟩] [0, 1, 15, 16])
  (.block 0 (.loop [0, 1, 15, 16] (.seq (.ops [⟨some 17, .q (.bin .lss (.t 16) (.t 15)), none⟩] [0, 1, 15, 16, 17])
  (.seq (.cond (.t 17) (.skip) (.exit 0))
  (.seq (.block 1 (.seq (.ops [⟨some 18, .q (.mov (.t 16)), none⟩,
    ⟨some 5, .e (.set (.t 18)) [], none⟩] [0, 1, 5, 15, 16])
  (.seq (.ops [⟨none, .e (.res 2) [], none⟩,
    ⟨some 19, .q (.mov (.t 0)), none⟩,
    ⟨some 20, .q (.mov (.t 5)), none⟩,
    ⟨some 21, .q (.ixSl 6 (.t 19) (.t 20)), none⟩,
    ⟨some 22, .q (.load (some 6) (.t 21)), none⟩,
    ⟨some 23, .q (.mov (.t 1)), none⟩,
    ⟨some 24, .q (.mov (.t 5)), none⟩,
    ⟨some 25, .q (.ixSl 6 (.t 23) (.t 24)), none⟩,
    ⟨some 26, .q (.load (some 6) (.t 25)), none⟩,
    ⟨some 6, .e (.fillA 2 47 [.int .i64 0, .int .i64 0, .str [], .int .i64 0, .int .i64 0, .nilslice]) [], none⟩,
    ⟨some 7, .e (.fillA 1 47 [.int .i64 0, .int .i64 0, .str [], .int .i64 0, .int .i64 0, .nilslice]) [], none⟩,
    ⟨none, .e (.store 6 (.t 6) (.t 22)) [(26, .load (some 6) (.t 25))], none⟩,
    ⟨none, .e (.store 6 (.t 7) (.t 26)) [], none⟩] [0, 1, 6, 7, 15, 16])
  (.seq (.seq (.ops [⟨some 27, .q (.addr 0 (.t 6)), none⟩,
    ⟨some 28, .q (.load none (.t 27)), none⟩,
    ⟨some 29, .q (.addr 0 (.t 7)), none⟩,
    ⟨some 30, .q (.load none (.t 29)), none⟩,
    ⟨some 31, .q (.bin .neq (.t 28) (.t 30)), none⟩,
    ⟨some 32, .q (.mov (.t 31)), none⟩,
    ⟨some 33, .q (.addr 2 (.t 6)), some (32, false)⟩,
    ⟨some 34, .q (.load none (.t 33)), some (32, false)⟩,
    ⟨some 35, .q (.addr 2 (.t 7)), some (32, false)⟩,
    ⟨some 36, .q (.load none (.t 35)), some (32, false)⟩,
    ⟨some 37, .q (.bin .neq (.t 34) (.t 36)), some (32, false)⟩,
    ⟨some 38, .q (.pick (.t 32) (.v (.bool true)) (.t 37)), none⟩,
    ⟨some 39, .q (.mov (.t 38)), none⟩,
    ⟨some 40, .q (.addr 3 (.t 6)), some (39, false)⟩,
    ⟨some 41, .q (.load none (.t 40)), some (39, false)⟩,
    ⟨some 42, .q (.addr 3 (.t 7)), some (39, false)⟩,
    ⟨some 43, .q (.load none (.t 42)), some (39, false)⟩,
    ⟨some 44, .q (.bin .neq (.t 41) (.t 43)), some (39, false)⟩,
    ⟨some 45, .q (.pick (.t 39) (.v (.bool true)) (.t 44)), none⟩,
    ⟨some 46, .q (.mov (.t 45)), none⟩,
    ⟨some 47, .q (.addr 4 (.t 6)), some (46, false)⟩,
    ⟨some 48, .q (.load none (.t 47)), some (46, false)⟩,
    ⟨some 49, .q (.addr 4 (.t 7)), some (46, false)⟩,
    ⟨some 50, .q (.load none (.t 49)), some (46, false)⟩,
    ⟨some 51, .q (.bin .neq (.t 48) (.t 50)), some (46, false)⟩,
    ⟨some 52, .q (.pick (.t 46) (.v (.bool true)) (.t 51)), none⟩,
    ⟨some 53, .q (.mov (.t 52)), none⟩,
    ⟨some 54, .q (.addr 5 (.t 6)), some (53, false)⟩,
    ⟨some 55, .q (.load none (.t 54)), some (53, false)⟩,
    ⟨some 56, .q (.len .slice (.t 55)), some (53, false)⟩,
    ⟨some 57, .q (.addr 5 (.t 7)), some (53, false)⟩,
    ⟨some 58, .q (.load none (.t 57)), some (53, false)⟩,
    ⟨some 59, .q (.len .slice (.t 58)), some (53, false)⟩,
    ⟨some 60, .q (.bin .neq (.t 56) (.t 59)), some (53, false)⟩,
    ⟨some 61, .q (.pick (.t 53) (.v (.bool true)) (.t 60)), none⟩] [0, 1, 6, 7, 15, 16, 61])
  (.cond (.t 61) (.seq (.ops [⟨some 4, .e (.set (.v (.bool false))) [], none⟩] [4])
  (.ret)) (.skip)))
  (.seq (.ops [⟨some 62, .q (.addr 5 (.t 6)), none⟩,
    ⟨some 63, .q (.load none (.t 62)), none⟩,
    ⟨some 64, .q (.len .slice (.t 63)), none⟩,
    ⟨some 65, .q (.mov (.v (.int .i64 0))), none⟩] [0, 1, 6, 7, 15, 16, 64, 65])
  (.block 2 (.loop [0, 1, 6, 7, 15, 16, 64, 65] (.seq (.ops [⟨some 66, .q (.bin .lss (.t 65) (.t 64)), none⟩] [0, 1, 6, 7, 15, 16, 64, 65, 66])
  (.seq (.cond (.t 66) (.skip) (.exit 2))
  (.seq (.block 3 (.seq (.ops [⟨some 67, .q (.mov (.t 65)), none⟩,
    ⟨some 8, .e (.set (.t 67)) [], none⟩] [0, 1, 6, 7, 8, 15, 16, 64, 65])
  (.seq (.ops [⟨some 68, .q (.addr 5 (.t 6)), none⟩,
    ⟨some 69, .q (.load none (.t 68)), none⟩,
    ⟨some 70, .q (.mov (.t 8)), none⟩,
    ⟨some 71, .q (.ixSl 1 (.t 69) (.t 70)), none⟩,
    ⟨some 72, .q (.load none (.t 71)), none⟩,
    ⟨some 73, .q (.addr 5 (.t 7)), none⟩,
    ⟨some 74, .q (.load none (.t 73)), none⟩,
    ⟨some 75, .q (.mov (.t 8)), none⟩,
    ⟨some 76, .q (.ixSl 1 (.t 74) (.t 75)), none⟩,
    ⟨some 77, .q (.load none (.t 76)), none⟩,
    ⟨some 78, .q (.bin .neq (.t 72) (.t 77)), none⟩] [0, 1, 6, 7, 15, 16, 64, 65, 78])
  (.cond (.t 78) (.seq (.ops [⟨some 4, .e (.set (.v (.bool false))) [], none⟩] [4])
  (.ret)) (.skip)))))
  (.ops [⟨some 79, .q (.bin .add (.t 65) (.v (.int .i64 1))), none⟩,
    ⟨some 65, .q (.mov (.t 79)), none⟩] [0, 1, 6, 7, 15, 16, 64, 65])))))))))))
  (.ops [⟨some 80, .q (.bin .add (.t 16) (.v (.int .i64 1))), none⟩,
    ⟨some 16, .q (.mov (.t 80)), none⟩] [0, 1, 15, 16])))))))
  (.seq (.ops [⟨some 4, .e (.set (.v (.bool true))) [], none⟩] [4])
  (.ret)))), [.slot 4]⟩
/-- 'binnacle/binnacleref17.read' -/
def i42 : IFunc := ⟨.seq (.ops [⟨some 2, .e (.set (.v (.nilslice))) [], none⟩,
    ⟨some 3, .e (.set (.v (.int .i64 0))) [], none⟩,
    ⟨some 4, .e (.set (.v (.int .i64 0))) [], none⟩] [0])
  (.seq (.ops [⟨some 7, .q (.mov (.t 0)), none⟩,
    ⟨some 8, .e (.call 25 [.t 7]) [], none⟩,
    ⟨some 9, .q (.build [.nilslice, .int .i64 0, .nilslice, .int .i64 0, .int .i64 0, .int .i64 0] [(0, 1, .t 8)]), none⟩,
    ⟨some 10, .e (.box 168 (.t 9)) [], none⟩,
    ⟨some 5, .e (.set (.t 10)) [], none⟩] [5])
  (.seq (.seq (.ops [⟨some 11, .q (.mov (.t 5)), none⟩,
    ⟨some 12, .q (.nilc (.t 11)), none⟩,
    ⟨some 13, .q (.addr 0 (.t 12)), none⟩,
    ⟨some 14, .q (.load none (.t 13)), none⟩,
    ⟨some 15, .q (.ixSl 4 (.t 14) (.v (.int .i64 0))), none⟩,
    ⟨some 16, .q (.addr 0 (.t 15)), none⟩,
    ⟨some 17, .q (.load none (.t 16)), none⟩,
    ⟨some 18, .q (.bin .eql (.t 17) (.v (.int .i64 6))), none⟩] [5, 18])
  (.cond (.t 18) (.ops [⟨some 19, .q (.mov (.t 5)), none⟩,
    ⟨some 20, .e (.call 83 [.t 19, .v (.int .i64 13)]) [], none⟩] [5]) (.skip)))
  (.seq (.ops [⟨some 6, .e (.set (.v (.nilslice))) [], none⟩] [5, 6])
  (.seq (.block 0 (.loop [5, 6] (.seq (.seq (.ops [⟨some 21, .q (.mov (.t 5)), none⟩,
    ⟨some 22, .q (.nilc (.t 21)), none⟩,
    ⟨some 23, .q (.addr 4 (.t 22)), none⟩,
    ⟨some 24, .q (.load none (.t 23)), none⟩,
    ⟨some 25, .q (.bin .eql (.t 24) (.v (.int .i64 0))), none⟩,
    ⟨some 26, .q (.mov (.t 25)), none⟩,
    ⟨some 27, .q (.mov (.t 5)), some (26, true)⟩,
    ⟨some 28, .q (.nilc (.t 27)), some (26, true)⟩,
    ⟨some 29, .q (.addr 0 (.t 28)), some (26, true)⟩,
    ⟨some 30, .q (.load none (.t 29)), some (26, true)⟩,
    ⟨some 31, .q (.mov (.t 5)), some (26, true)⟩,
    ⟨some 32, .q (.nilc (.t 31)), some (26, true)⟩,
    ⟨some 33, .q (.addr 1 (.t 32)), some (26, true)⟩,
    ⟨some 34, .q (.load none (.t 33)), some (26, true)⟩,
    ⟨some 35, .q (.ixSl 4 (.t 30) (.t 34)), some (26, true)⟩,
    ⟨some 36, .q (.addr 0 (.t 35)), some (26, true)⟩,
    ⟨some 37, .q (.load none (.t 36)), some (26, true)⟩,
    ⟨some 38, .q (.bin .neq (.t 37) (.v (.int .i64 0))), some (26, true)⟩,
    ⟨some 39, .q (.pick (.t 26) (.t 38) (.v (.bool false))), none⟩] [5, 6, 39])
  (.cond (.t 39) (.skip) (.exit 0)))
  (.block 1 (.ops [⟨some 40, .q (.mov (.t 6)), none⟩,
    ⟨some 41, .q (.mov (.t 5)), none⟩,
    ⟨some 42, .e (.call 84 [.t 41]) [], none⟩,
    ⟨some 43, .e (.bslice 3 1 1 [.int .i64 0] [(0, 1, .t 42)]) [], none⟩,
    ⟨some 44, .e (.append 3 1 8 (.t 40) (.t 43)) [], none⟩,
    ⟨some 6, .e (.set (.t 44)) [], none⟩] [5, 6])))))
  (.seq (.ops [⟨some 45, .q (.mov (.t 5)), none⟩,
    ⟨some 46, .q (.mov (.t 6)), none⟩,
    ⟨some 47, .q (.build [.int .i64 0, .int .i64 0, .str [], .int .i64 0, .int .i64 0, .nilslice] [(0, 1, .v (.int .i64 23)), (5, 1, .t 46)]), none⟩,
    ⟨some 48, .e (.call 85 [.t 45, .t 47]) [], none⟩] [5])
  (.seq (.seq (.ops [⟨some 49, .q (.mov (.t 5)), none⟩,
    ⟨some 50, .q (.nilc (.t 49)), none⟩,
    ⟨some 51, .q (.addr 4 (.t 50)), none⟩,
    ⟨some 52, .q (.load none (.t 51)), none⟩,
    ⟨some 53, .q (.bin .neq (.t 52) (.v (.int .i64 0))), none⟩] [5, 53])
  (.cond (.t 53) (.seq (.ops [⟨some 54, .q (.mov (.t 5)), none⟩,
    ⟨some 55, .q (.nilc (.t 54)), none⟩,
    ⟨some 56, .q (.addr 4 (.t 55)), none⟩,
    ⟨some 57, .q (.load none (.t 56)), none⟩,
    ⟨some 58, .q (.mov (.t 5)), none⟩,
    ⟨some 59, .q (.nilc (.t 58)), none⟩,
    ⟨some 60, .q (.addr 5 (.t 59)), none⟩,
    ⟨some 61, .q (.load none (.t 60)), none⟩,
    ⟨some 2, .e (.set (.v (.nilslice))) [], none⟩,
    ⟨some 3, .e (.set (.t 57)) [], none⟩,
    ⟨some 4, .e (.set (.t 61)) [], none⟩] [2, 3, 4])
  (.ret)) (.skip)))
  (.seq (.ops [⟨some 62, .q (.mov (.t 5)), none⟩,
    ⟨some 63, .q (.nilc (.t 62)), none⟩,
    ⟨some 64, .q (.addr 2 (.t 63)), none⟩,
    ⟨some 65, .q (.load none (.t 64)), none⟩,
    ⟨some 2, .e (.set (.t 65)) [], none⟩,
    ⟨some 3, .e (.set (.v (.int .i64 0))) [], none⟩,
    ⟨some 4, .e (.set (.v (.int .i64 0))) [], none⟩] [2, 3, 4])
  (.ret)))))))), [.slot 2, .slot 3, .slot 4]⟩
/-- '(*binnacle/sort.checker).around' -/
def i43 : IFunc := ⟨.seq (.ops [⟨some 11, .q (.mov (.t 0)), none⟩,
    ⟨some 12, .q (.nilc (.t 11)), none⟩,
    ⟨some 13, .q (.addr 0 (.t 12)), none⟩,
    ⟨some 14, .q (.load none (.t 13)), none⟩,
    ⟨some 15, .q (.mov (.t 1)), none⟩,
    ⟨some 16, .q (.ixSl 6 (.t 14) (.t 15)), none⟩,
    ⟨some 17, .q (.load (some 6) (.t 16)), none⟩,
    ⟨some 8, .e (.alloc 47 [.int .i64 0, .int .i64 0, .str [], .int .i64 0, .int .i64 0, .nilslice]) [], none⟩,
    ⟨none, .e (.store 6 (.t 8) (.t 17)) [], none⟩] [0, 1, 2, 3, 8])
  (.seq (.seq (.ops [⟨some 18, .q (.addr 0 (.t 8)), none⟩,
    ⟨some 19, .q (.load none (.t 18)), none⟩,
    ⟨some 20, .q (.bin .eql (.t 19) (.v (.int .i64 22))), none⟩] [0, 1, 2, 3, 8, 20])
  (.cond (.t 20) (.ops [⟨some 21, .q (.mov (.t 1)), none⟩,
    ⟨some 2, .e (.set (.t 21)) [], none⟩] [0, 1, 2, 3, 8]) (.skip)))
  (.seq (.ops [⟨some 22, .q (.mov (.t 0)), none⟩,
    ⟨some 23, .q (.nilc (.t 22)), none⟩,
    ⟨some 24, .q (.addr 4 (.t 23)), none⟩,
    ⟨some 25, .q (.load none (.t 24)), none⟩,
    ⟨some 26, .q (.mov (.t 1)), none⟩,
    ⟨some 27, .q (.mov (.t 0)), none⟩,
    ⟨some 28, .q (.nilc (.t 27)), none⟩,
    ⟨some 29, .q (.addr 5 (.t 28)), none⟩,
    ⟨some 30, .q (.load none (.t 29)), none⟩,
    ⟨some 31, .q (.mov (.t 1)), none⟩,
    ⟨some 32, .q (.mov (.t 2)), none⟩,
    ⟨some 33, .q (.mov (.t 3)), none⟩,
    ⟨some 34, .q (.ixSl 1 (.t 25) (.t 26)), none⟩,
    ⟨none, .e (.store 1 (.t 34) (.t 32)) [], none⟩,
    ⟨some 35, .q (.ixSl 1 (.t 30) (.t 31)), none⟩,
    ⟨none, .e (.store 1 (.t 35) (.t 33)) [], none⟩] [0, 2, 3, 8])
  (.seq (.ops [⟨some 36, .q (.addr 5 (.t 8)), none⟩,
    ⟨some 37, .q (.load none (.t 36)), none⟩,
    ⟨some 38, .q (.len .slice (.t 37)), none⟩,
    ⟨some 39, .q (.mov (.v (.int .i64 0))), none⟩] [0, 2, 3, 8, 37, 38, 39])
  (.block 0 (.loop [0, 2, 3, 8, 37, 38, 39] (.seq (.ops [⟨some 40, .q (.bin .lss (.t 39) (.t 38)), none⟩] [0, 2, 3, 8, 37, 38, 39, 40])
  (.seq (.cond (.t 40) (.skip) (.exit 0))
  (.seq (.block 1 (.seq (.ops [⟨some 41, .q (.mov (.t 39)), none⟩,
    ⟨some 42, .q (.ixSl 1 (.t 37) (.t 39)), none⟩,
    ⟨some 43, .q (.load none (.t 42)), none⟩,
    ⟨some 9, .e (.set (.t 41)) [], none⟩,
    ⟨some 10, .e (.set (.t 43)) [], none⟩] [0, 2, 3, 8, 9, 10, 37, 38, 39])
  (.ops [⟨some 44, .q (.mov (.t 0)), none⟩,
    ⟨some 45, .q (.mov (.t 10)), none⟩,
    ⟨some 46, .q (.mov (.t 2)), none⟩,
    ⟨some 47, .q (.mov (.t 3)), none⟩,
    ⟨some 48, .q (.mov (.t 47)), none⟩,
    ⟨some 49, .q (.addr 0 (.t 8)), some (48, false)⟩,
    ⟨some 50, .q (.load none (.t 49)), some (48, false)⟩,
    ⟨some 51, .q (.bin .eql (.t 50) (.v (.int .i64 13))), some (48, false)⟩,
    ⟨some 52, .q (.mov (.t 51)), some (48, false)⟩,
    ⟨some 53, .q (.mov (.t 9)), some (52, true)⟩,
    ⟨some 54, .q (.bin .eql (.t 53) (.v (.int .i64 1))), some (52, true)⟩,
    ⟨some 55, .q (.pick (.t 52) (.t 54) (.v (.bool false))), some (48, false)⟩,
    ⟨some 56, .q (.pick (.t 48) (.v (.bool true)) (.t 55)), none⟩,
    ⟨some 57, .e (.call 43 [.t 44, .t 45, .t 46, .t 56]) [], none⟩] [0, 2, 3, 8, 37, 38, 39])))
  (.ops [⟨some 58, .q (.bin .add (.t 39) (.v (.int .i64 1))), none⟩,
    ⟨some 39, .q (.mov (.t 58)), none⟩] [0, 2, 3, 8, 37, 38, 39]))))))))), []⟩
/-- '(*binnacle/sort.checker).declarations' -/
def i44 : IFunc := ⟨.seq (.ops [⟨some 2, .e (.set (.v (.int .i64 0))) [], none⟩,
    ⟨some 3, .e (.set (.v (.int .i64 0))) [], none⟩] [0])
  (.seq (.ops [⟨some 12, .q (.mov (.t 0)), none⟩,
    ⟨some 13, .e (.mkmap) [], none⟩,
    ⟨some 14, .q (.nilc (.t 12)), none⟩,
    ⟨some 15, .q (.addr 6 (.t 14)), none⟩,
    ⟨none, .e (.store 1 (.t 15) (.t 13)) [], none⟩] [0])
  (.seq (.seq (.ops [⟨some 16, .e (.call 86 []) [], none⟩,
    ⟨some 17, .q (.len .slice (.t 16)), none⟩,
    ⟨some 18, .q (.mov (.v (.int .i64 0))), none⟩] [0, 16, 17, 18])
  (.block 0 (.loop [0, 16, 17, 18] (.seq (.ops [⟨some 19, .q (.bin .lss (.t 18) (.t 17)), none⟩] [0, 16, 17, 18, 19])
  (.seq (.cond (.t 19) (.skip) (.exit 0))
  (.seq (.block 1 (.seq (.ops [⟨some 20, .q (.ixSl 5 (.t 16) (.t 18)), none⟩,
    ⟨some 21, .q (.load (some 5) (.t 20)), none⟩,
    ⟨some 5, .e (.alloc 49 [.int .i64 0, .int .i64 0, .int .i64 0, .int .i64 0, .str []]) [], none⟩,
    ⟨none, .e (.store 5 (.t 5) (.t 21)) [], none⟩] [0, 5, 16, 17, 18])
  (.ops [⟨some 22, .q (.mov (.t 0)), none⟩,
    ⟨some 23, .q (.nilc (.t 22)), none⟩,
    ⟨some 24, .q (.addr 6 (.t 23)), none⟩,
    ⟨some 25, .q (.load none (.t 24)), none⟩,
    ⟨some 26, .q (.addr 4 (.t 5)), none⟩,
    ⟨some 27, .q (.load none (.t 26)), none⟩,
    ⟨some 28, .q (.mov (.t 0)), none⟩,
    ⟨some 29, .q (.load (some 5) (.t 5)), none⟩,
    ⟨some 30, .e (.call 87 [.t 28, .t 29]) [(27, .load none (.t 26)), (25, .load none (.t 24))], none⟩,
    ⟨none, .e (.mapupd .str (.t 25) (.t 27) (.t 30)) [], none⟩] [0, 16, 17, 18])))
  (.ops [⟨some 31, .q (.bin .add (.t 18) (.v (.int .i64 1))), none⟩,
    ⟨some 18, .q (.mov (.t 31)), none⟩] [0, 16, 17, 18])))))))
  (.seq (.seq (.ops [⟨some 32, .q (.mov (.t 0)), none⟩,
    ⟨some 33, .q (.nilc (.t 32)), none⟩,
    ⟨some 34, .q (.addr 0 (.t 33)), none⟩,
    ⟨some 35, .q (.load none (.t 34)), none⟩,
    ⟨some 36, .q (.len .slice (.t 35)), none⟩,
    ⟨some 37, .q (.mov (.v (.int .i64 0))), none⟩] [0, 35, 36, 37])
  (.block 2 (.loop [0, 35, 36, 37] (.seq (.ops [⟨some 38, .q (.bin .lss (.t 37) (.t 36)), none⟩] [0, 35, 36, 37, 38])
  (.seq (.cond (.t 38) (.skip) (.exit 2))
  (.seq (.block 3 (.seq (.ops [⟨some 39, .q (.mov (.t 37)), none⟩,
    ⟨some 40, .q (.ixSl 6 (.t 35) (.t 37)), none⟩,
    ⟨some 41, .q (.load (some 6) (.t 40)), none⟩,
    ⟨some 7, .e (.alloc 47 [.int .i64 0, .int .i64 0, .str [], .int .i64 0, .int .i64 0, .nilslice]) [], none⟩,
    ⟨some 6, .e (.set (.t 39)) [], none⟩,
    ⟨none, .e (.store 6 (.t 7) (.t 41)) [], none⟩] [0, 6, 7, 35, 36, 37])
  (.seq (.ops [⟨some 43, .q (.load (some 6) (.t 7)), none⟩,
    ⟨some 44, .q (.mov (.t 6)), none⟩,
    ⟨some 45, .e (.call 88 [.t 43, .t 44]) [], none⟩,
    ⟨some 42, .q (.mov (.t 45)), none⟩,
    ⟨some 46, .q (.extr 0 (.t 42)), none⟩,
    ⟨some 47, .q (.extr 1 (.t 42)), none⟩,
    ⟨some 8, .e (.alloc 49 [.int .i64 0, .int .i64 0, .int .i64 0, .int .i64 0, .str []]) [], none⟩,
    ⟨none, .e (.store 5 (.t 8) (.t 46)) [], none⟩,
    ⟨some 9, .e (.set (.t 47)) [], none⟩] [0, 6, 7, 8, 9, 35, 36, 37])
  (.seq (.seq (.ops [⟨some 48, .q (.mov (.t 9)), none⟩,
    ⟨some 49, .q (.un .not (.t 48)), none⟩] [0, 6, 7, 8, 35, 36, 37, 49])
  (.cond (.t 49) (.exit 3) (.skip)))
  (.seq (.seq (.ops [⟨some 51, .q (.mov (.t 0)), none⟩,
    ⟨some 52, .q (.nilc (.t 51)), none⟩,
    ⟨some 53, .q (.addr 6 (.t 52)), none⟩,
    ⟨some 54, .q (.load none (.t 53)), none⟩,
    ⟨some 55, .q (.addr 2 (.t 7)), none⟩,
    ⟨some 56, .q (.load none (.t 55)), none⟩,
    ⟨some 57, .q (.lookup .str (.int .i64 0) true (.t 54) (.t 56)), none⟩,
    ⟨some 50, .q (.mov (.t 57)), none⟩,
    ⟨some 58, .q (.extr 0 (.t 50)), none⟩,
    ⟨some 59, .q (.extr 1 (.t 50)), none⟩,
    ⟨some 10, .e (.set (.t 58)) [], none⟩,
    ⟨some 11, .e (.set (.t 59)) [], none⟩] [0, 6, 7, 8, 11, 35, 36, 37])
  (.seq (.ops [⟨some 60, .q (.mov (.t 11)), none⟩] [0, 6, 7, 8, 35, 36, 37, 60])
  (.cond (.t 60) (.seq (.ops [⟨some 61, .q (.mov (.t 6)), none⟩,
    ⟨some 2, .e (.set (.v (.int .i64 9))) [], none⟩,
    ⟨some 3, .e (.set (.t 61)) [], none⟩] [2, 3])
  (.ret)) (.skip))))
  (.seq (.seq (.ops [⟨some 62, .q (.addr 0 (.t 7)), none⟩,
    ⟨some 63, .q (.load none (.t 62)), none⟩,
    ⟨some 64, .q (.bin .eql (.t 63) (.v (.int .i64 21))), none⟩,
    ⟨some 65, .q (.mov (.t 64)), none⟩,
    ⟨some 66, .q (.addr 3 (.t 7)), some (65, true)⟩,
    ⟨some 67, .q (.load none (.t 66)), some (65, true)⟩,
    ⟨some 68, .q (.bin .lss (.t 67) (.v (.int .i64 1))), some (65, true)⟩,
    ⟨some 69, .q (.mov (.t 68)), some (65, true)⟩,
    ⟨some 70, .q (.addr 3 (.t 7)), some (69, false)⟩,
    ⟨some 71, .q (.load none (.t 70)), some (69, false)⟩,
    ⟨some 72, .q (.bin .gtr (.t 71) (.v (.int .i64 512))), some (69, false)⟩,
    ⟨some 73, .q (.pick (.t 69) (.v (.bool true)) (.t 72)), some (65, true)⟩,
    ⟨some 74, .q (.pick (.t 65) (.t 73) (.v (.bool false))), none⟩,
    ⟨some 75, .q (.mov (.t 74)), none⟩,
    ⟨some 76, .q (.addr 0 (.t 7)), some (75, false)⟩,
    ⟨some 77, .q (.load none (.t 76)), some (75, false)⟩,
    ⟨some 78, .q (.bin .eql (.t 77) (.v (.int .i64 22))), some (75, false)⟩,
    ⟨some 79, .q (.mov (.t 78)), some (75, false)⟩,
    ⟨some 80, .q (.addr 4 (.t 7)), some (79, true)⟩,
    ⟨some 81, .q (.load none (.t 80)), some (79, true)⟩,
    ⟨some 82, .q (.bin .gtr (.t 81) (.v (.int .i64 6))), some (79, true)⟩,
    ⟨some 83, .q (.pick (.t 79) (.t 82) (.v (.bool false))), some (75, false)⟩,
    ⟨some 84, .q (.pick (.t 75) (.v (.bool true)) (.t 83)), none⟩] [0, 6, 7, 8, 35, 36, 37, 84])
  (.cond (.t 84) (.seq (.ops [⟨some 85, .q (.mov (.t 6)), none⟩,
    ⟨some 2, .e (.set (.v (.int .i64 15))) [], none⟩,
    ⟨some 3, .e (.set (.t 85)) [], none⟩] [2, 3])
  (.ret)) (.skip)))
  (.seq (.ops [⟨some 86, .q (.mov (.t 0)), none⟩,
    ⟨some 87, .q (.nilc (.t 86)), none⟩,
    ⟨some 88, .q (.addr 6 (.t 87)), none⟩,
    ⟨some 89, .q (.load none (.t 88)), none⟩,
    ⟨some 90, .q (.addr 2 (.t 7)), none⟩,
    ⟨some 91, .q (.load none (.t 90)), none⟩,
    ⟨some 92, .q (.mov (.t 0)), none⟩,
    ⟨some 93, .q (.load (some 5) (.t 8)), none⟩,
    ⟨some 94, .e (.call 87 [.t 92, .t 93]) [(91, .load none (.t 90)), (89, .load none (.t 88))], none⟩,
    ⟨none, .e (.mapupd .str (.t 89) (.t 91) (.t 94)) [], none⟩] [0, 6, 7, 35, 36, 37])
  (.ops [⟨some 95, .q (.mov (.t 0)), none⟩,
    ⟨some 96, .q (.nilc (.t 95)), none⟩,
    ⟨some 97, .q (.addr 1 (.t 96)), none⟩,
    ⟨some 98, .q (.addr 1 (.t 97)), none⟩,
    ⟨some 99, .q (.load none (.t 98)), none⟩,
    ⟨some 100, .q (.mov (.t 6)), none⟩,
    ⟨some 101, .q (.mov (.t 0)), none⟩,
    ⟨some 102, .q (.nilc (.t 101)), none⟩,
    ⟨some 103, .q (.addr 6 (.t 102)), none⟩,
    ⟨some 104, .q (.load none (.t 103)), none⟩,
    ⟨some 105, .q (.addr 2 (.t 7)), none⟩,
    ⟨some 106, .q (.load none (.t 105)), none⟩,
    ⟨some 107, .q (.lookup .str (.int .i64 0) false (.t 104) (.t 106)), none⟩,
    ⟨some 108, .q (.ixSl 1 (.t 99) (.t 100)), none⟩,
    ⟨none, .e (.store 1 (.t 108) (.t 107)) [], none⟩] [0, 35, 36, 37]))))))))
  (.ops [⟨some 109, .q (.bin .add (.t 37) (.v (.int .i64 1))), none⟩,
    ⟨some 37, .q (.mov (.t 109)), none⟩] [0, 35, 36, 37])))))))
  (.seq (.ops [⟨some 2, .e (.set (.v (.int .i64 0))) [], none⟩,
    ⟨some 3, .e (.set (.v (.int .i64 0))) [], none⟩] [2, 3])
  (.ret))))), [.slot 2, .slot 3]⟩
/-- 'binnacle/sort.asks' -/
def i45 : IFunc := ⟨.seq (.ops [⟨some 0, .e (.set (.v (.nilmap))) [], none⟩] [])
  (.seq (.ops [⟨some 1, .e (.mkmap) [], none⟩,
    ⟨none, .e (.mapupd .int (.t 1) (.v (.int .i64 1)) (.f 89)) [], none⟩,
    ⟨none, .e (.mapupd .int (.t 1) (.v (.int .i64 2)) (.f 90)) [], none⟩,
    ⟨none, .e (.mapupd .int (.t 1) (.v (.int .i64 3)) (.f 91)) [], none⟩,
    ⟨none, .e (.mapupd .int (.t 1) (.v (.int .i64 4)) (.f 92)) [], none⟩,
    ⟨none, .e (.mapupd .int (.t 1) (.v (.int .i64 5)) (.f 93)) [], none⟩,
    ⟨none, .e (.mapupd .int (.t 1) (.v (.int .i64 6)) (.f 94)) [], none⟩,
    ⟨none, .e (.mapupd .int (.t 1) (.v (.int .i64 7)) (.f 95)) [], none⟩,
    ⟨none, .e (.mapupd .int (.t 1) (.v (.int .i64 11)) (.f 96)) [], none⟩,
    ⟨none, .e (.mapupd .int (.t 1) (.v (.int .i64 12)) (.f 97)) [], none⟩,
    ⟨none, .e (.mapupd .int (.t 1) (.v (.int .i64 13)) (.f 97)) [], none⟩,
    ⟨none, .e (.mapupd .int (.t 1) (.v (.int .i64 14)) (.f 97)) [], none⟩,
    ⟨none, .e (.mapupd .int (.t 1) (.v (.int .i64 15)) (.f 98)) [], none⟩,
    ⟨none, .e (.mapupd .int (.t 1) (.v (.int .i64 16)) (.f 98)) [], none⟩,
    ⟨none, .e (.mapupd .int (.t 1) (.v (.int .i64 18)) (.f 99)) [], none⟩,
    ⟨none, .e (.mapupd .int (.t 1) (.v (.int .i64 23)) (.f 100)) [], none⟩,
    ⟨some 2, .q (.mov (.t 1)), none⟩,
    ⟨some 0, .e (.set (.t 2)) [], none⟩] [0])
  (.ret)), [.slot 0]⟩
/-- 'binnacle/binnacleref17.blank' -/
def i51 : IFunc := ⟨.seq (.ops [⟨some 4, .e (.set (.v (.int .i64 0))) [], none⟩] [0, 1])
  (.seq (.ops [⟨some 6, .q (.mov (.t 1)), none⟩,
    ⟨some 5, .e (.set (.t 6)) [], none⟩] [0, 1, 5])
  (.seq (.block 0 (.loop [0, 1, 5] (.seq (.seq (.ops [⟨some 7, .q (.mov (.t 5)), none⟩,
    ⟨some 8, .q (.mov (.t 0)), none⟩,
    ⟨some 9, .q (.len .str (.t 8)), none⟩,
    ⟨some 10, .q (.bin .lss (.t 7) (.t 9)), none⟩] [0, 1, 5, 10])
  (.cond (.t 10) (.skip) (.exit 0)))
  (.block 1 (.seq (.seq (.ops [⟨some 11, .q (.mov (.t 0)), none⟩,
    ⟨some 12, .q (.mov (.t 5)), none⟩,
    ⟨some 13, .q (.ixStr (.t 11) (.t 12)), none⟩,
    ⟨some 14, .q (.bin .eql (.t 13) (.v (.int .u8 32))), none⟩,
    ⟨some 15, .q (.mov (.t 14)), none⟩,
    ⟨some 16, .q (.mov (.t 0)), some (15, false)⟩,
    ⟨some 17, .q (.mov (.t 5)), some (15, false)⟩,
    ⟨some 18, .q (.ixStr (.t 16) (.t 17)), some (15, false)⟩,
    ⟨some 19, .q (.bin .eql (.t 18) (.v (.int .u8 9))), some (15, false)⟩,
    ⟨some 20, .q (.pick (.t 15) (.v (.bool true)) (.t 19)), none⟩,
    ⟨some 21, .q (.mov (.t 20)), none⟩,
    ⟨some 22, .q (.mov (.t 0)), some (21, false)⟩,
    ⟨some 23, .q (.mov (.t 5)), some (21, false)⟩,
    ⟨some 24, .q (.ixStr (.t 22) (.t 23)), some (21, false)⟩,
    ⟨some 25, .q (.bin .eql (.t 24) (.v (.int .u8 10))), some (21, false)⟩,
    ⟨some 26, .q (.pick (.t 21) (.v (.bool true)) (.t 25)), none⟩] [0, 1, 5, 26])
  (.cond (.t 26) (.seq (.ops [⟨some 27, .q (.mov (.t 5)), none⟩,
    ⟨some 28, .q (.bin .add (.t 27) (.v (.int .i64 1))), none⟩,
    ⟨some 5, .e (.set (.t 28)) [], none⟩] [0, 1, 5])
  (.exit 1)) (.skip)))
  (.seq (.seq (.ops [⟨some 29, .q (.mov (.t 0)), none⟩,
    ⟨some 30, .q (.mov (.t 5)), none⟩,
    ⟨some 31, .q (.ixStr (.t 29) (.t 30)), none⟩,
    ⟨some 32, .q (.bin .neq (.t 31) (.v (.int .u8 47))), none⟩,
    ⟨some 33, .q (.mov (.t 32)), none⟩,
    ⟨some 34, .q (.mov (.t 5)), some (33, false)⟩,
    ⟨some 35, .q (.bin .add (.t 34) (.v (.int .i64 1))), some (33, false)⟩,
    ⟨some 36, .q (.mov (.t 0)), some (33, false)⟩,
    ⟨some 37, .q (.len .str (.t 36)), some (33, false)⟩,
    ⟨some 38, .q (.bin .geq (.t 35) (.t 37)), some (33, false)⟩,
    ⟨some 39, .q (.pick (.t 33) (.v (.bool true)) (.t 38)), none⟩,
    ⟨some 40, .q (.mov (.t 39)), none⟩,
    ⟨some 41, .q (.mov (.t 0)), some (40, false)⟩,
    ⟨some 42, .q (.mov (.t 5)), some (40, false)⟩,
    ⟨some 43, .q (.bin .add (.t 42) (.v (.int .i64 1))), some (40, false)⟩,
    ⟨some 44, .q (.ixStr (.t 41) (.t 43)), some (40, false)⟩,
    ⟨some 45, .q (.bin .neq (.t 44) (.v (.int .u8 47))), some (40, false)⟩,
    ⟨some 46, .q (.pick (.t 40) (.v (.bool true)) (.t 45)), none⟩] [0, 1, 5, 46])
  (.cond (.t 46) (.exit 0) (.skip)))
  (.block 2 (.loop [0, 1, 5] (.seq (.seq (.ops [⟨some 47, .q (.mov (.t 5)), none⟩,
    ⟨some 48, .q (.mov (.t 0)), none⟩,
    ⟨some 49, .q (.len .str (.t 48)), none⟩,
    ⟨some 50, .q (.bin .lss (.t 47) (.t 49)), none⟩,
    ⟨some 51, .q (.mov (.t 50)), none⟩,
    ⟨some 52, .q (.mov (.t 0)), some (51, true)⟩,
    ⟨some 53, .q (.mov (.t 5)), some (51, true)⟩,
    ⟨some 54, .q (.ixStr (.t 52) (.t 53)), some (51, true)⟩,
    ⟨some 55, .q (.bin .neq (.t 54) (.v (.int .u8 10))), some (51, true)⟩,
    ⟨some 56, .q (.pick (.t 51) (.t 55) (.v (.bool false))), none⟩] [0, 1, 5, 56])
  (.cond (.t 56) (.skip) (.exit 2)))
  (.block 3 (.ops [⟨some 57, .q (.mov (.t 5)), none⟩,
    ⟨some 58, .q (.bin .add (.t 57) (.v (.int .i64 1))), none⟩,
    ⟨some 5, .e (.set (.t 58)) [], none⟩] [0, 1, 5])))))))))))
  (.seq (.ops [⟨some 59, .q (.mov (.t 5)), none⟩,
    ⟨some 60, .q (.mov (.t 1)), none⟩,
    ⟨some 61, .q (.bin .sub (.t 59) (.t 60)), none⟩,
    ⟨some 4, .e (.set (.t 61)) [], none⟩] [4])
  (.ret)))), [.slot 4]⟩
/-- 'binnacle/binnacleref17.One' -/
def i52 : IFunc := ⟨.seq (.ops [⟨some 4, .e (.alloc 56 [.int .i64 0, .int .i64 0, .str [], .int .i64 0]) [], none⟩,
    ⟨some 5, .e (.set (.v (.int .i64 0))) [], none⟩] [0, 1, 4])
  (.seq (.seq (.ops [⟨some 16, .q (.mov (.t 1)), none⟩,
    ⟨some 17, .q (.mov (.t 0)), none⟩,
    ⟨some 18, .q (.len .str (.t 17)), none⟩,
    ⟨some 19, .q (.bin .geq (.t 16) (.t 18)), none⟩] [0, 1, 4, 19])
  (.cond (.t 19) (.seq (.ops [⟨some 20, .q (.mov (.t 1)), none⟩,
    ⟨some 21, .q (.build [.int .i64 0, .int .i64 0, .str [], .int .i64 0] [(1, 1, .t 20)]), none⟩,
    ⟨some 22, .q (.mov (.t 1)), none⟩,
    ⟨none, .e (.store 4 (.t 4) (.t 21)) [], none⟩,
    ⟨some 5, .e (.set (.t 22)) [], none⟩] [4, 5])
  (.ret)) (.skip)))
  (.seq (.ops [⟨some 23, .q (.mov (.t 0)), none⟩,
    ⟨some 24, .q (.mov (.t 1)), none⟩,
    ⟨some 25, .q (.ixStr (.t 23) (.t 24)), none⟩,
    ⟨some 6, .e (.set (.t 25)) [], none⟩] [0, 1, 4, 6])
  (.seq (.ops [⟨some 26, .q (.mov (.t 1)), none⟩,
    ⟨some 7, .e (.set (.t 26)) [], none⟩] [0, 1, 4, 6, 7])
  (.seq (.ops [⟨some 27, .q (.mov (.t 6)), none⟩,
    ⟨some 28, .e (.call 110 [.t 27]) [], none⟩,
    ⟨some 8, .e (.set (.t 28)) [], none⟩] [0, 1, 4, 6, 7, 8])
  (.seq (.ops [⟨some 29, .q (.mov (.t 6)), none⟩,
    ⟨some 30, .e (.call 111 [.t 29]) [], none⟩,
    ⟨some 9, .e (.set (.t 30)) [], none⟩] [0, 1, 4, 6, 7, 8, 9])
  (.seq (.seq (.ops [⟨some 31, .q (.mov (.t 8)), none⟩] [0, 1, 4, 6, 7, 9, 31])
  (.cond (.t 31) (.seq (.block 0 (.loop [0, 1, 4, 7] (.seq (.seq (.ops [⟨some 32, .q (.mov (.t 7)), none⟩,
    ⟨some 33, .q (.mov (.t 0)), none⟩,
    ⟨some 34, .q (.len .str (.t 33)), none⟩,
    ⟨some 35, .q (.bin .lss (.t 32) (.t 34)), none⟩,
    ⟨some 36, .q (.mov (.t 35)), none⟩,
    ⟨some 37, .q (.mov (.t 0)), some (36, true)⟩,
    ⟨some 38, .q (.mov (.t 7)), some (36, true)⟩,
    ⟨some 39, .q (.ixStr (.t 37) (.t 38)), some (36, true)⟩,
    ⟨some 40, .e (.call 110 [.t 39]) [], some (36, true)⟩,
    ⟨some 41, .q (.mov (.t 40)), some (36, true)⟩,
    ⟨some 42, .q (.mov (.t 0)), some (41, false)⟩,
    ⟨some 43, .q (.mov (.t 7)), some (41, false)⟩,
    ⟨some 44, .q (.ixStr (.t 42) (.t 43)), some (41, false)⟩,
    ⟨some 45, .e (.call 111 [.t 44]) [], some (41, false)⟩,
    ⟨some 46, .q (.pick (.t 41) (.v (.bool true)) (.t 45)), some (36, true)⟩,
    ⟨some 47, .q (.pick (.t 36) (.t 46) (.v (.bool false))), none⟩] [0, 1, 4, 7, 47])
  (.cond (.t 47) (.skip) (.exit 0)))
  (.block 1 (.ops [⟨some 48, .q (.mov (.t 7)), none⟩,
    ⟨some 49, .q (.bin .add (.t 48) (.v (.int .i64 1))), none⟩,
    ⟨some 7, .e (.set (.t 49)) [], none⟩] [0, 1, 4, 7])))))
  (.seq (.ops [⟨some 51, .q (.mov (.t 0)), none⟩,
    ⟨some 52, .q (.mov (.t 1)), none⟩,
    ⟨some 53, .q (.mov (.t 7)), none⟩,
    ⟨some 54, .q (.slStr (.t 51) (some (.t 52)) (some (.t 53))), none⟩,
    ⟨some 50, .e (.call 113 []) [], none⟩,
    ⟨some 55, .e (.call 112 [.t 50, .t 54]) [], none⟩,
    ⟨some 10, .e (.set (.t 55)) [], none⟩] [0, 1, 4, 7, 10])
  (.seq (.seq (.ops [⟨some 56, .q (.mov (.t 10)), none⟩] [0, 1, 4, 7, 56])
  (.cond (.t 56) (.seq (.ops [⟨some 57, .q (.mov (.t 1)), none⟩,
    ⟨some 58, .q (.mov (.t 0)), none⟩,
    ⟨some 59, .q (.mov (.t 1)), none⟩,
    ⟨some 60, .q (.mov (.t 7)), none⟩,
    ⟨some 61, .q (.slStr (.t 58) (some (.t 59)) (some (.t 60))), none⟩,
    ⟨some 62, .q (.build [.int .i64 0, .int .i64 0, .str [], .int .i64 0] [(0, 1, .v (.int .i64 2)), (1, 1, .t 57), (2, 1, .t 61), (3, 1, .v (.int .i64 0))]), none⟩,
    ⟨some 63, .q (.mov (.t 7)), none⟩,
    ⟨none, .e (.store 4 (.t 4) (.t 62)) [], none⟩,
    ⟨some 5, .e (.set (.t 63)) [], none⟩] [4, 5])
  (.ret)) (.skip)))
  (.seq (.seq (.ops [⟨some 64, .q (.mov (.t 7)), none⟩,
    ⟨some 65, .q (.mov (.t 1)), none⟩,
    ⟨some 66, .q (.bin .sub (.t 64) (.t 65)), none⟩,
    ⟨some 67, .q (.bin .gtr (.t 66) (.v (.int .i64 14))), none⟩] [0, 1, 4, 7, 67])
  (.cond (.t 67) (.seq (.ops [⟨some 68, .q (.mov (.t 1)), none⟩,
    ⟨some 69, .q (.build [.int .i64 0, .int .i64 0, .str [], .int .i64 0] [(0, 1, .v (.int .i64 6)), (1, 1, .t 68)]), none⟩,
    ⟨some 70, .q (.mov (.t 7)), none⟩,
    ⟨none, .e (.store 4 (.t 4) (.t 69)) [], none⟩,
    ⟨some 5, .e (.set (.t 70)) [], none⟩] [4, 5])
  (.ret)) (.skip)))
  (.seq (.ops [⟨some 71, .q (.mov (.t 1)), none⟩,
    ⟨some 72, .q (.mov (.t 0)), none⟩,
    ⟨some 73, .q (.mov (.t 1)), none⟩,
    ⟨some 74, .q (.mov (.t 7)), none⟩,
    ⟨some 75, .q (.slStr (.t 72) (some (.t 73)) (some (.t 74))), none⟩,
    ⟨some 76, .q (.build [.int .i64 0, .int .i64 0, .str [], .int .i64 0] [(0, 1, .v (.int .i64 1)), (1, 1, .t 71), (2, 1, .t 75), (3, 1, .v (.int .i64 0))]), none⟩,
    ⟨some 77, .q (.mov (.t 7)), none⟩,
    ⟨none, .e (.store 4 (.t 4) (.t 76)) [], none⟩,
    ⟨some 5, .e (.set (.t 77)) [], none⟩] [4, 5])
  (.ret)))))) (.skip)))
  (.seq (.seq (.ops [⟨some 78, .q (.mov (.t 9)), none⟩] [0, 1, 4, 6, 7, 78])
  (.cond (.t 78) (.seq (.block 2 (.loop [0, 1, 4, 7] (.seq (.seq (.ops [⟨some 79, .q (.mov (.t 7)), none⟩,
    ⟨some 80, .q (.mov (.t 0)), none⟩,
    ⟨some 81, .q (.len .str (.t 80)), none⟩,
    ⟨some 82, .q (.bin .lss (.t 79) (.t 81)), none⟩,
    ⟨some 83, .q (.mov (.t 82)), none⟩,
    ⟨some 84, .q (.mov (.t 0)), some (83, true)⟩,
    ⟨some 85, .q (.mov (.t 7)), some (83, true)⟩,
    ⟨some 86, .q (.ixStr (.t 84) (.t 85)), some (83, true)⟩,
    ⟨some 87, .e (.call 111 [.t 86]) [], some (83, true)⟩,
    ⟨some 88, .q (.pick (.t 83) (.t 87) (.v (.bool false))), none⟩] [0, 1, 4, 7, 88])
  (.cond (.t 88) (.skip) (.exit 2)))
  (.block 3 (.ops [⟨some 89, .q (.mov (.t 7)), none⟩,
    ⟨some 90, .q (.bin .add (.t 89) (.v (.int .i64 1))), none⟩,
    ⟨some 7, .e (.set (.t 90)) [], none⟩] [0, 1, 4, 7])))))
  (.seq (.ops [⟨some 92, .q (.mov (.t 0)), none⟩,
    ⟨some 93, .q (.mov (.t 1)), none⟩,
    ⟨some 94, .q (.mov (.t 7)), none⟩,
    ⟨some 95, .q (.slStr (.t 92) (some (.t 93)) (some (.t 94))), none⟩,
    ⟨some 96, .e (.call 114 [.t 95]) [], none⟩,
    ⟨some 91, .q (.mov (.t 96)), none⟩,
    ⟨some 97, .q (.extr 0 (.t 91)), none⟩,
    ⟨some 98, .q (.extr 1 (.t 91)), none⟩,
    ⟨some 11, .e (.set (.t 97)) [], none⟩,
    ⟨some 12, .e (.set (.t 98)) [], none⟩] [1, 4, 7, 11, 12])
  (.seq (.seq (.ops [⟨some 99, .q (.mov (.t 12)), none⟩,
    ⟨some 100, .q (.un .not (.t 99)), none⟩] [1, 4, 7, 11, 100])
  (.cond (.t 100) (.seq (.ops [⟨some 101, .q (.mov (.t 1)), none⟩,
    ⟨some 102, .q (.build [.int .i64 0, .int .i64 0, .str [], .int .i64 0] [(0, 1, .v (.int .i64 6)), (1, 1, .t 101)]), none⟩,
    ⟨some 103, .q (.mov (.t 7)), none⟩,
    ⟨none, .e (.store 4 (.t 4) (.t 102)) [], none⟩,
    ⟨some 5, .e (.set (.t 103)) [], none⟩] [4, 5])
  (.ret)) (.skip)))
  (.seq (.ops [⟨some 104, .q (.mov (.t 1)), none⟩,
    ⟨some 105, .q (.mov (.t 11)), none⟩,
    ⟨some 106, .q (.build [.int .i64 0, .int .i64 0, .str [], .int .i64 0] [(0, 1, .v (.int .i64 3)), (1, 1, .t 104), (3, 1, .t 105)]), none⟩,
    ⟨some 107, .q (.mov (.t 7)), none⟩,
    ⟨none, .e (.store 4 (.t 4) (.t 106)) [], none⟩,
    ⟨some 5, .e (.set (.t 107)) [], none⟩] [4, 5])
  (.ret))))) (.skip)))
  (.seq (.seq (.ops [⟨some 108, .q (.mov (.t 6)), none⟩,
    ⟨some 109, .q (.bin .eql (.t 108) (.v (.int .u8 34))), none⟩,
    ⟨some 110, .q (.mov (.t 109)), none⟩,
    ⟨some 111, .q (.mov (.t 6)), some (110, false)⟩,
    ⟨some 112, .q (.bin .eql (.t 111) (.v (.int .u8 39))), some (110, false)⟩,
    ⟨some 113, .q (.pick (.t 110) (.v (.bool true)) (.t 112)), none⟩] [0, 1, 4, 113])
  (.cond (.t 113) (.seq (.ops [⟨some 114, .q (.mov (.t 0)), none⟩,
    ⟨some 115, .q (.mov (.t 1)), none⟩,
    ⟨some 116, .e (.call 115 [.t 114, .t 115]) [], none⟩,
    ⟨some 117, .q (.extr 0 (.t 116)), none⟩,
    ⟨some 118, .q (.extr 1 (.t 116)), none⟩,
    ⟨none, .e (.store 4 (.t 4) (.t 117)) [], none⟩,
    ⟨some 5, .e (.set (.t 118)) [], none⟩] [4, 5])
  (.ret)) (.skip)))
  (.seq (.ops [⟨some 119, .e (.call 116 []) [], none⟩,
    ⟨some 13, .e (.set (.t 119)) [], none⟩] [0, 1, 4, 13])
  (.seq (.seq (.ops [⟨some 14, .e (.set (.v (.int .i64 0))) [], none⟩] [0, 1, 4, 13, 14])
  (.block 4 (.loop [0, 1, 4, 13, 14] (.seq (.seq (.ops [⟨some 120, .q (.mov (.t 14)), none⟩,
    ⟨some 121, .q (.mov (.t 13)), none⟩,
    ⟨some 122, .q (.len .slice (.t 121)), none⟩,
    ⟨some 123, .q (.bin .lss (.t 120) (.t 122)), none⟩] [0, 1, 4, 13, 14, 123])
  (.cond (.t 123) (.skip) (.exit 4)))
  (.seq (.block 5 (.seq (.ops [⟨some 126, .q (.mov (.t 13)), none⟩,
    ⟨some 127, .q (.mov (.t 14)), none⟩,
    ⟨some 128, .q (.ixSl 1 (.t 126) (.t 127)), none⟩,
    ⟨some 129, .q (.load none (.t 128)), none⟩,
    ⟨some 130, .q (.len .str (.t 129)), none⟩,
    ⟨some 15, .e (.set (.t 130)) [], none⟩] [0, 1, 4, 13, 14, 15])
  (.seq (.ops [⟨some 131, .q (.mov (.t 1)), none⟩,
    ⟨some 132, .q (.mov (.t 15)), none⟩,
    ⟨some 133, .q (.bin .add (.t 131) (.t 132)), none⟩,
    ⟨some 134, .q (.mov (.t 0)), none⟩,
    ⟨some 135, .q (.len .str (.t 134)), none⟩,
    ⟨some 136, .q (.bin .leq (.t 133) (.t 135)), none⟩,
    ⟨some 137, .q (.mov (.t 136)), none⟩,
    ⟨some 138, .q (.mov (.t 0)), some (137, true)⟩,
    ⟨some 139, .q (.mov (.t 1)), some (137, true)⟩,
    ⟨some 140, .q (.mov (.t 1)), some (137, true)⟩,
    ⟨some 141, .q (.mov (.t 15)), some (137, true)⟩,
    ⟨some 142, .q (.bin .add (.t 140) (.t 141)), some (137, true)⟩,
    ⟨some 143, .q (.slStr (.t 138) (some (.t 139)) (some (.t 142))), some (137, true)⟩,
    ⟨some 144, .q (.mov (.t 13)), some (137, true)⟩,
    ⟨some 145, .q (.mov (.t 14)), some (137, true)⟩,
    ⟨some 146, .q (.ixSl 1 (.t 144) (.t 145)), some (137, true)⟩,
    ⟨some 147, .q (.load none (.t 146)), some (137, true)⟩,
    ⟨some 148, .q (.bin .eql (.t 143) (.t 147)), some (137, true)⟩,
    ⟨some 149, .q (.pick (.t 137) (.t 148) (.v (.bool false))), none⟩] [0, 1, 4, 13, 14, 15, 149])
  (.cond (.t 149) (.seq (.ops [⟨some 150, .q (.mov (.t 1)), none⟩,
    ⟨some 151, .q (.mov (.t 13)), none⟩,
    ⟨some 152, .q (.mov (.t 14)), none⟩,
    ⟨some 153, .q (.ixSl 1 (.t 151) (.t 152)), none⟩,
    ⟨some 154, .q (.load none (.t 153)), none⟩,
    ⟨some 155, .q (.build [.int .i64 0, .int .i64 0, .str [], .int .i64 0] [(0, 1, .v (.int .i64 5)), (1, 1, .t 150), (2, 1, .t 154), (3, 1, .v (.int .i64 0))]), none⟩,
    ⟨some 156, .q (.mov (.t 1)), none⟩,
    ⟨some 157, .q (.mov (.t 15)), none⟩,
    ⟨some 158, .q (.bin .add (.t 156) (.t 157)), none⟩,
    ⟨none, .e (.store 4 (.t 4) (.t 155)) [], none⟩,
    ⟨some 5, .e (.set (.t 158)) [], none⟩] [4, 5])
  (.ret)) (.skip)))))
  (.ops [⟨some 124, .q (.mov (.t 14)), none⟩,
    ⟨some 125, .q (.bin .add (.t 124) (.v (.int .i64 1))), none⟩,
    ⟨some 14, .e (.set (.t 125)) [], none⟩] [0, 1, 4, 13, 14]))))))
  (.seq (.ops [⟨some 159, .q (.mov (.t 1)), none⟩,
    ⟨some 160, .q (.build [.int .i64 0, .int .i64 0, .str [], .int .i64 0] [(0, 1, .v (.int .i64 6)), (1, 1, .t 159)]), none⟩,
    ⟨some 161, .q (.mov (.t 1)), none⟩,
    ⟨none, .e (.store 4 (.t 4) (.t 160)) [], none⟩,
    ⟨some 5, .e (.set (.t 161)) [], none⟩] [4, 5])
  (.ret)))))))))))), [.cell 4 (some 4), .slot 5]⟩
/-- 'binnacle/mean.may' -/
def i53 : IFunc := ⟨.seq (.ops [⟨some 2, .e (.set (.v (.bool false))) [], none⟩] [0])
  (.seq (.ops [⟨some 3, .e (.set (.v (.int .i64 0))) [], none⟩] [0, 3])
  (.seq (.seq (.ops [⟨some 6, .q (.mov (.t 0)), none⟩,
    ⟨some 7, .q (.len .slice (.t 6)), none⟩,
    ⟨some 8, .q (.mov (.v (.int .i64 0))), none⟩] [0, 3, 6, 7, 8])
  (.block 0 (.loop [0, 3, 6, 7, 8] (.seq (.ops [⟨some 9, .q (.bin .lss (.t 8) (.t 7)), none⟩] [0, 3, 6, 7, 8, 9])
  (.seq (.cond (.t 9) (.skip) (.exit 0))
  (.seq (.block 1 (.seq (.ops [⟨some 10, .q (.ixSl 1 (.t 6) (.t 8)), none⟩,
    ⟨some 11, .q (.load none (.t 10)), none⟩,
    ⟨some 5, .e (.set (.t 11)) [], none⟩] [0, 3, 5, 6, 7, 8])
  (.seq (.ops [⟨some 12, .q (.mov (.t 3)), none⟩,
    ⟨some 13, .q (.mov (.t 5)), none⟩,
    ⟨some 14, .q (.len .str (.t 13)), none⟩,
    ⟨some 15, .q (.bin .add (.t 14) (.v (.int .i64 1))), none⟩,
    ⟨some 16, .q (.bin .add (.t 12) (.t 15)), none⟩,
    ⟨some 3, .e (.set (.t 16)) [], none⟩] [0, 3, 5, 6, 7, 8])
  (.seq (.ops [⟨some 17, .q (.mov (.t 5)), none⟩,
    ⟨some 18, .e (.call 117 [.t 17, .v (.str [0])]) [], none⟩] [0, 3, 6, 7, 8, 18])
  (.cond (.t 18) (.seq (.ops [⟨some 2, .e (.set (.v (.bool false))) [], none⟩] [2])
  (.ret)) (.skip))))))
  (.ops [⟨some 19, .q (.bin .add (.t 8) (.v (.int .i64 1))), none⟩,
    ⟨some 8, .q (.mov (.t 19)), none⟩] [0, 3, 6, 7, 8])))))))
  (.seq (.ops [⟨some 20, .q (.mov (.t 0)), none⟩,
    ⟨some 21, .q (.len .slice (.t 20)), none⟩,
    ⟨some 22, .q (.bin .leq (.t 21) (.v (.int .i64 8))), none⟩,
    ⟨some 23, .q (.mov (.t 22)), none⟩,
    ⟨some 24, .q (.mov (.t 3)), some (23, true)⟩,
    ⟨some 25, .q (.bin .leq (.t 24) (.v (.int .i64 200))), some (23, true)⟩,
    ⟨some 26, .q (.pick (.t 23) (.t 25) (.v (.bool false))), none⟩,
    ⟨some 2, .e (.set (.t 26)) [], none⟩] [2])
  (.ret)))), [.slot 2]⟩
/-- 'binnacle/mean.made' -/
def i54 : IFunc := ⟨.seq (.ops [⟨some 6, .e (.box 37 (.t 1)) [], none⟩,
    ⟨some 10, .e (.set (.v (.nilptr))) [], none⟩] [0, 2, 3, 4, 6])
  (.seq (.ops [⟨some 18, .q (.mov (.t 0)), none⟩,
    ⟨some 19, .q (.load (some 3) (.t 6)), none⟩,
    ⟨some 20, .q (.mov (.t 3)), none⟩,
    ⟨some 21, .q (.mov (.t 4)), none⟩,
    ⟨some 22, .e (.mkmap) [], none⟩,
    ⟨some 23, .e (.mkmap) [], none⟩,
    ⟨some 24, .q (.mov (.t 2)), none⟩,
    ⟨some 25, .q (.len .slice (.t 24)), none⟩,
    ⟨some 26, .q (.build [.nilslice, .nilslice, .nilslice, .nilslice, .str [], .int .i64 0, .nilptr, .nilslice, .nilslice, .nilmap, .nilmap, .int .i64 0, .int .i64 0, .int .i64 0, .int .i64 0] [(0, 1, .t 18), (1, 3, .t 19), (4, 1, .t 20), (5, 1, .t 21), (9, 1, .t 22), (10, 1, .t 23), (12, 1, .t 25)]), none⟩,
    ⟨some 27, .e (.box 133 (.t 26)) [], none⟩,
    ⟨some 11, .e (.set (.t 27)) [], none⟩] [0, 2, 6, 11])
  (.seq (.seq (.ops [⟨some 28, .q (.addr 0 (.t 6)), none⟩,
    ⟨some 29, .q (.load none (.t 28)), none⟩,
    ⟨some 30, .q (.len .slice (.t 29)), none⟩,
    ⟨some 31, .q (.mov (.v (.int .i64 0))), none⟩] [0, 2, 11, 29, 30, 31])
  (.block 0 (.loop [0, 2, 11, 29, 30, 31] (.seq (.ops [⟨some 32, .q (.bin .lss (.t 31) (.t 30)), none⟩] [0, 2, 11, 29, 30, 31, 32])
  (.seq (.cond (.t 32) (.skip) (.exit 0))
  (.seq (.block 1 (.seq (.ops [⟨some 33, .q (.mov (.t 31)), none⟩,
    ⟨some 34, .q (.ixSl 5 (.t 29) (.t 31)), none⟩,
    ⟨some 35, .q (.load (some 5) (.t 34)), none⟩,
    ⟨some 13, .e (.alloc 49 [.int .i64 0, .int .i64 0, .int .i64 0, .int .i64 0, .str []]) [], none⟩,
    ⟨some 12, .e (.set (.t 33)) [], none⟩,
    ⟨none, .e (.store 5 (.t 13) (.t 35)) [], none⟩] [0, 2, 11, 12, 13, 29, 30, 31])
  (.seq (.ops [⟨some 36, .q (.addr 0 (.t 13)), none⟩,
    ⟨some 37, .q (.load none (.t 36)), none⟩] [0, 2, 11, 12, 13, 29, 30, 31, 37])
  (.block 2 (.seq (.ops [⟨some 39, .q (.bin .eql (.t 37) (.v (.int .i64 2))), none⟩,
    ⟨some 38, .e (.set (.t 39)) [], none⟩] [0, 2, 11, 12, 13, 29, 30, 31, 37, 38])
  (.cond (.t 38) (.ops [⟨some 40, .q (.mov (.t 11)), none⟩,
    ⟨some 41, .q (.nilc (.t 40)), none⟩,
    ⟨some 42, .q (.addr 9 (.t 41)), none⟩,
    ⟨some 43, .q (.load none (.t 42)), none⟩,
    ⟨some 44, .q (.mov (.t 12)), none⟩,
    ⟨some 45, .q (.mov (.t 11)), none⟩,
    ⟨some 46, .q (.addr 2 (.t 13)), none⟩,
    ⟨some 47, .q (.load none (.t 46)), none⟩,
    ⟨some 49, .q (.addr 1 (.t 13)), none⟩,
    ⟨some 50, .q (.load none (.t 49)), none⟩,
    ⟨some 51, .q (.bin .eql (.t 50) (.v (.int .i64 2))), none⟩,
    ⟨some 48, .e (.mkslice 2 1 [.int .i64 0] (.t 47)) [], none⟩,
    ⟨some 52, .q (.build [.nilslice, .bool false, .bool false] [(0, 1, .t 48), (1, 1, .t 51)]), none⟩,
    ⟨some 53, .e (.call 118 [.t 45, .t 52]) [(43, .load none (.t 42))], none⟩,
    ⟨none, .e (.mapupd .int (.t 43) (.t 44) (.t 53)) [], none⟩] [0, 2, 11, 29, 30, 31]) (.seq (.ops [⟨some 55, .q (.bin .eql (.t 37) (.v (.int .i64 1))), none⟩,
    ⟨some 54, .e (.set (.t 55)) [], none⟩] [0, 2, 11, 12, 29, 30, 31, 54])
  (.cond (.t 54) (.ops [⟨some 56, .q (.mov (.t 11)), none⟩,
    ⟨some 57, .q (.nilc (.t 56)), none⟩,
    ⟨some 58, .q (.addr 10 (.t 57)), none⟩,
    ⟨some 59, .q (.load none (.t 58)), none⟩,
    ⟨some 60, .q (.mov (.t 12)), none⟩,
    ⟨some 61, .e (.call 119 [.v (.int .i64 0)]) [(59, .load none (.t 58))], none⟩,
    ⟨none, .e (.mapupd .int (.t 59) (.t 60) (.t 61)) [], none⟩] [0, 2, 11, 29, 30, 31]) (.skip)))))))))
  (.ops [⟨some 62, .q (.bin .add (.t 31) (.v (.int .i64 1))), none⟩,
    ⟨some 31, .q (.mov (.t 62)), none⟩] [0, 2, 11, 29, 30, 31])))))))
  (.seq (.seq (.ops [⟨some 63, .q (.mov (.t 0)), none⟩,
    ⟨some 64, .q (.len .slice (.t 63)), none⟩,
    ⟨some 65, .q (.mov (.v (.int .i64 0))), none⟩] [2, 11, 63, 64, 65])
  (.block 3 (.loop [2, 11, 63, 64, 65] (.seq (.ops [⟨some 66, .q (.bin .lss (.t 65) (.t 64)), none⟩] [2, 11, 63, 64, 65, 66])
  (.seq (.cond (.t 66) (.skip) (.exit 3))
  (.seq (.block 4 (.seq (.ops [⟨some 67, .q (.mov (.t 65)), none⟩,
    ⟨some 68, .q (.ixSl 6 (.t 63) (.t 65)), none⟩,
    ⟨some 69, .q (.load (some 6) (.t 68)), none⟩,
    ⟨some 15, .e (.alloc 47 [.int .i64 0, .int .i64 0, .str [], .int .i64 0, .int .i64 0, .nilslice]) [], none⟩,
    ⟨some 14, .e (.set (.t 67)) [], none⟩,
    ⟨none, .e (.store 6 (.t 15) (.t 69)) [], none⟩] [2, 11, 14, 15, 63, 64, 65])
  (.seq (.ops [⟨some 70, .q (.addr 0 (.t 15)), none⟩,
    ⟨some 71, .q (.load none (.t 70)), none⟩,
    ⟨some 72, .q (.bin .eql (.t 71) (.v (.int .i64 2))), none⟩] [2, 11, 14, 15, 63, 64, 65, 72])
  (.cond (.t 72) (.ops [⟨some 73, .q (.mov (.t 11)), none⟩,
    ⟨some 74, .q (.nilc (.t 73)), none⟩,
    ⟨some 75, .q (.addr 9 (.t 74)), none⟩,
    ⟨some 76, .q (.load none (.t 75)), none⟩,
    ⟨some 77, .q (.mov (.t 14)), none⟩,
    ⟨some 78, .q (.bin .sub (.v (.int .i64 (-1))) (.t 77)), none⟩,
    ⟨some 79, .q (.mov (.t 11)), none⟩,
    ⟨some 80, .q (.addr 2 (.t 15)), none⟩,
    ⟨some 81, .q (.load none (.t 80)), none⟩,
    ⟨some 82, .e (.call 120 [.t 81]) [(76, .load none (.t 75))], none⟩,
    ⟨some 83, .e (.call 118 [.t 79, .t 82]) [(76, .load none (.t 75))], none⟩,
    ⟨none, .e (.mapupd .int (.t 76) (.t 78) (.t 83)) [], none⟩] [2, 11, 63, 64, 65]) (.skip)))))
  (.ops [⟨some 84, .q (.bin .add (.t 65) (.v (.int .i64 1))), none⟩,
    ⟨some 65, .q (.mov (.t 84)), none⟩] [2, 11, 63, 64, 65])))))))
  (.seq (.ops [⟨some 85, .q (.mov (.t 11)), none⟩,
    ⟨some 86, .q (.mov (.t 11)), none⟩,
    ⟨some 87, .q (.nilc (.t 86)), none⟩,
    ⟨some 88, .q (.addr 8 (.t 87)), none⟩,
    ⟨some 89, .q (.load none (.t 88)), none⟩,
    ⟨some 90, .q (.len .slice (.t 89)), none⟩,
    ⟨some 91, .q (.nilc (.t 85)), none⟩,
    ⟨some 92, .q (.addr 11 (.t 91)), none⟩,
    ⟨none, .e (.store 1 (.t 92) (.t 90)) [], none⟩] [2, 11])
  (.seq (.seq (.ops [⟨some 93, .q (.mov (.t 2)), none⟩,
    ⟨some 94, .q (.len .slice (.t 93)), none⟩,
    ⟨some 95, .q (.mov (.v (.int .i64 0))), none⟩] [11, 93, 94, 95])
  (.block 5 (.loop [11, 93, 94, 95] (.seq (.ops [⟨some 96, .q (.bin .lss (.t 95) (.t 94)), none⟩] [11, 93, 94, 95, 96])
  (.seq (.cond (.t 96) (.skip) (.exit 5))
  (.seq (.block 6 (.seq (.ops [⟨some 97, .q (.ixSl 1 (.t 93) (.t 95)), none⟩,
    ⟨some 98, .q (.load none (.t 97)), none⟩,
    ⟨some 17, .e (.set (.t 98)) [], none⟩] [11, 17, 93, 94, 95])
  (.ops [⟨some 99, .q (.mov (.t 11)), none⟩,
    ⟨some 100, .q (.mov (.t 17)), none⟩,
    ⟨some 101, .e (.call 120 [.t 100]) [], none⟩,
    ⟨some 102, .e (.call 118 [.t 99, .t 101]) [], none⟩] [11, 93, 94, 95])))
  (.ops [⟨some 103, .q (.bin .add (.t 95) (.v (.int .i64 1))), none⟩,
    ⟨some 95, .q (.mov (.t 103)), none⟩] [11, 93, 94, 95])))))))
  (.seq (.ops [⟨some 104, .q (.mov (.t 11)), none⟩,
    ⟨some 10, .e (.set (.t 104)) [], none⟩] [10])
  (.ret))))))), [.slot 10]⟩
/-- '(*binnacle/mean.run).whole' -/
def i55 : IFunc := ⟨.seq (.ops [⟨some 2, .e (.alloc 127 [.int .i64 0, .int .i64 0]) [], none⟩] [0, 2])
  (.seq (.seq (.ops [⟨some 5, .q (.func (.func 121) [] [.t 2]), none⟩] [0, 2, 5])
  (.defer (.t 5) []))
  (.seq (.seq (.ops [⟨some 6, .q (.mov (.t 0)), none⟩,
    ⟨some 7, .q (.nilc (.t 6)), none⟩,
    ⟨some 8, .q (.addr 1 (.t 7)), none⟩,
    ⟨some 9, .q (.addr 0 (.t 8)), none⟩,
    ⟨some 10, .q (.load none (.t 9)), none⟩,
    ⟨some 11, .q (.len .slice (.t 10)), none⟩,
    ⟨some 12, .q (.mov (.v (.int .i64 0))), none⟩] [0, 2, 10, 11, 12])
  (.block 0 (.loop [0, 2, 10, 11, 12] (.seq (.ops [⟨some 13, .q (.bin .lss (.t 12) (.t 11)), none⟩] [0, 2, 10, 11, 12, 13])
  (.seq (.cond (.t 13) (.skip) (.exit 0))
  (.seq (.block 1 (.seq (.ops [⟨some 14, .q (.ixSl 5 (.t 10) (.t 12)), none⟩,
    ⟨some 15, .q (.load (some 5) (.t 14)), none⟩,
    ⟨some 4, .e (.alloc 49 [.int .i64 0, .int .i64 0, .int .i64 0, .int .i64 0, .str []]) [], none⟩,
    ⟨none, .e (.store 5 (.t 4) (.t 15)) [], none⟩] [0, 2, 4, 10, 11, 12])
  (.seq (.ops [⟨some 16, .q (.addr 0 (.t 4)), none⟩,
    ⟨some 17, .q (.load none (.t 16)), none⟩,
    ⟨some 18, .q (.bin .eql (.t 17) (.v (.int .i64 3))), none⟩,
    ⟨some 19, .q (.mov (.t 18)), none⟩,
    ⟨some 20, .q (.addr 4 (.t 4)), some (19, true)⟩,
    ⟨some 21, .q (.load none (.t 20)), some (19, true)⟩,
    ⟨some 22, .q (.bin .eql (.t 21) (.v (.str [109, 97, 105, 110]))), some (19, true)⟩,
    ⟨some 23, .q (.pick (.t 19) (.t 22) (.v (.bool false))), none⟩] [0, 2, 4, 10, 11, 12, 23])
  (.cond (.t 23) (.seq (.ops [⟨some 24, .q (.mov (.t 0)), none⟩,
    ⟨some 25, .q (.addr 3 (.t 4)), none⟩,
    ⟨some 26, .q (.load none (.t 25)), none⟩,
    ⟨some 27, .e (.call 122 [.t 24, .t 26, .v (.nilslice)]) [], none⟩,
    ⟨some 28, .q (.field none 0 (.t 27)), none⟩,
    ⟨some 29, .q (.build [.int .i64 0, .int .i64 0] [(0, 1, .v (.int .i64 1)), (1, 1, .t 28)]), none⟩,
    ⟨none, .e (.store 2 (.t 2) (.t 29)) [], none⟩] [2])
  (.ret)) (.skip)))))
  (.ops [⟨some 30, .q (.bin .add (.t 12) (.v (.int .i64 1))), none⟩,
    ⟨some 12, .q (.mov (.t 30)), none⟩] [0, 2, 10, 11, 12])))))))
  (.seq (.ops [⟨some 31, .q (.build [.int .i64 0, .int .i64 0] [(0, 1, .v (.int .i64 4))]), none⟩,
    ⟨none, .e (.store 2 (.t 2) (.t 31)) [], none⟩] [2])
  (.ret)))), [.cell 2 (some 2)]⟩
/-- '(*binnacle/front.reader).blanks' -/
def i61 : IFunc := ⟨.block 0 (.loop [0] (.seq (.seq (.ops [⟨some 3, .q (.mov (.t 0)), none⟩,
    ⟨some 4, .q (.nilc (.t 3)), none⟩,
    ⟨some 5, .q (.addr 1 (.t 4)), none⟩,
    ⟨some 6, .q (.load none (.t 5)), none⟩,
    ⟨some 7, .q (.mov (.t 0)), none⟩,
    ⟨some 8, .q (.nilc (.t 7)), none⟩,
    ⟨some 9, .q (.addr 0 (.t 8)), none⟩,
    ⟨some 10, .q (.load none (.t 9)), none⟩,
    ⟨some 11, .q (.len .str (.t 10)), none⟩,
    ⟨some 12, .q (.bin .lss (.t 6) (.t 11)), none⟩] [0, 12])
  (.cond (.t 12) (.skip) (.exit 0)))
  (.block 1 (.seq (.ops [⟨some 13, .q (.mov (.t 0)), none⟩,
    ⟨some 14, .q (.nilc (.t 13)), none⟩,
    ⟨some 15, .q (.addr 0 (.t 14)), none⟩,
    ⟨some 16, .q (.load none (.t 15)), none⟩,
    ⟨some 17, .q (.mov (.t 0)), none⟩,
    ⟨some 18, .q (.nilc (.t 17)), none⟩,
    ⟨some 19, .q (.addr 1 (.t 18)), none⟩,
    ⟨some 20, .q (.load none (.t 19)), none⟩,
    ⟨some 21, .q (.ixStr (.t 16) (.t 20)), none⟩,
    ⟨some 2, .e (.set (.t 21)) [], none⟩] [0, 2])
  (.block 2 (.seq (.ops [⟨some 23, .q (.mov (.t 2)), none⟩,
    ⟨some 24, .q (.bin .eql (.t 23) (.v (.int .u8 32))), none⟩,
    ⟨some 25, .q (.mov (.t 24)), none⟩,
    ⟨some 26, .q (.mov (.t 2)), some (25, false)⟩,
    ⟨some 27, .q (.bin .eql (.t 26) (.v (.int .u8 9))), some (25, false)⟩,
    ⟨some 28, .q (.pick (.t 25) (.v (.bool true)) (.t 27)), none⟩,
    ⟨some 29, .q (.mov (.t 28)), none⟩,
    ⟨some 30, .q (.mov (.t 2)), some (29, false)⟩,
    ⟨some 31, .q (.bin .eql (.t 30) (.v (.int .u8 10))), some (29, false)⟩,
    ⟨some 32, .q (.pick (.t 29) (.v (.bool true)) (.t 31)), none⟩,
    ⟨some 22, .e (.set (.t 32)) [], none⟩] [0, 22])
  (.cond (.t 22) (.ops [⟨some 33, .q (.mov (.t 0)), none⟩,
    ⟨some 34, .q (.nilc (.t 33)), none⟩,
    ⟨some 35, .q (.addr 1 (.t 34)), none⟩,
    ⟨some 36, .q (.load none (.t 35)), none⟩,
    ⟨some 37, .q (.bin .add (.t 36) (.v (.int .i64 1))), none⟩,
    ⟨some 38, .q (.nilc (.t 33)), none⟩,
    ⟨some 39, .q (.addr 1 (.t 38)), none⟩,
    ⟨none, .e (.store 1 (.t 39) (.t 37)) [], none⟩] [0]) (.seq (.ops [⟨some 41, .q (.mov (.t 0)), none⟩,
    ⟨some 42, .q (.nilc (.t 41)), none⟩,
    ⟨some 43, .q (.addr 0 (.t 42)), none⟩,
    ⟨some 44, .q (.load none (.t 43)), none⟩,
    ⟨some 45, .q (.mov (.t 0)), none⟩,
    ⟨some 46, .q (.nilc (.t 45)), none⟩,
    ⟨some 47, .q (.addr 1 (.t 46)), none⟩,
    ⟨some 48, .q (.load none (.t 47)), none⟩,
    ⟨some 49, .q (.slStr (.t 44) (some (.t 48)) none), none⟩,
    ⟨some 50, .e (.call 70 [.t 49, .v (.str [47, 47])]) [], none⟩,
    ⟨some 40, .e (.set (.t 50)) [], none⟩] [0, 40])
  (.cond (.t 40) (.block 3 (.loop [0] (.seq (.seq (.ops [⟨some 51, .q (.mov (.t 0)), none⟩,
    ⟨some 52, .q (.nilc (.t 51)), none⟩,
    ⟨some 53, .q (.addr 1 (.t 52)), none⟩,
    ⟨some 54, .q (.load none (.t 53)), none⟩,
    ⟨some 55, .q (.mov (.t 0)), none⟩,
    ⟨some 56, .q (.nilc (.t 55)), none⟩,
    ⟨some 57, .q (.addr 0 (.t 56)), none⟩,
    ⟨some 58, .q (.load none (.t 57)), none⟩,
    ⟨some 59, .q (.len .str (.t 58)), none⟩,
    ⟨some 60, .q (.bin .lss (.t 54) (.t 59)), none⟩,
    ⟨some 61, .q (.mov (.t 60)), none⟩,
    ⟨some 62, .q (.mov (.t 0)), some (61, true)⟩,
    ⟨some 63, .q (.nilc (.t 62)), some (61, true)⟩,
    ⟨some 64, .q (.addr 0 (.t 63)), some (61, true)⟩,
    ⟨some 65, .q (.load none (.t 64)), some (61, true)⟩,
    ⟨some 66, .q (.mov (.t 0)), some (61, true)⟩,
    ⟨some 67, .q (.nilc (.t 66)), some (61, true)⟩,
    ⟨some 68, .q (.addr 1 (.t 67)), some (61, true)⟩,
    ⟨some 69, .q (.load none (.t 68)), some (61, true)⟩,
    ⟨some 70, .q (.ixStr (.t 65) (.t 69)), some (61, true)⟩,
    ⟨some 71, .q (.bin .neq (.t 70) (.v (.int .u8 10))), some (61, true)⟩,
    ⟨some 72, .q (.pick (.t 61) (.t 71) (.v (.bool false))), none⟩] [0, 72])
  (.cond (.t 72) (.skip) (.exit 3)))
  (.block 4 (.ops [⟨some 73, .q (.mov (.t 0)), none⟩,
    ⟨some 74, .q (.nilc (.t 73)), none⟩,
    ⟨some 75, .q (.addr 1 (.t 74)), none⟩,
    ⟨some 76, .q (.load none (.t 75)), none⟩,
    ⟨some 77, .q (.bin .add (.t 76) (.v (.int .i64 1))), none⟩,
    ⟨some 78, .q (.nilc (.t 73)), none⟩,
    ⟨some 79, .q (.addr 1 (.t 78)), none⟩,
    ⟨none, .e (.store 1 (.t 79) (.t 77)) [], none⟩] [0]))))) (.ret)))))))))), []⟩
/-- 'binnacle/front.letter' -/
def i62 : IFunc := ⟨.seq (.ops [⟨some 2, .e (.set (.v (.bool false))) [], none⟩] [0])
  (.seq (.ops [⟨some 3, .q (.mov (.t 0)), none⟩,
    ⟨some 4, .q (.bin .geq (.t 3) (.v (.int .u8 97))), none⟩,
    ⟨some 5, .q (.mov (.t 4)), none⟩,
    ⟨some 6, .q (.mov (.t 0)), some (5, true)⟩,
    ⟨some 7, .q (.bin .leq (.t 6) (.v (.int .u8 122))), some (5, true)⟩,
    ⟨some 8, .q (.pick (.t 5) (.t 7) (.v (.bool false))), none⟩,
    ⟨some 9, .q (.mov (.t 8)), none⟩,
    ⟨some 10, .q (.mov (.t 0)), some (9, false)⟩,
    ⟨some 11, .q (.bin .geq (.t 10) (.v (.int .u8 65))), some (9, false)⟩,
    ⟨some 12, .q (.mov (.t 11)), some (9, false)⟩,
    ⟨some 13, .q (.mov (.t 0)), some (12, true)⟩,
    ⟨some 14, .q (.bin .leq (.t 13) (.v (.int .u8 90))), some (12, true)⟩,
    ⟨some 15, .q (.pick (.t 12) (.t 14) (.v (.bool false))), some (9, false)⟩,
    ⟨some 16, .q (.pick (.t 9) (.v (.bool true)) (.t 15)), none⟩,
    ⟨some 17, .q (.mov (.t 16)), none⟩,
    ⟨some 18, .q (.mov (.t 0)), some (17, false)⟩,
    ⟨some 19, .q (.bin .eql (.t 18) (.v (.int .u8 95))), some (17, false)⟩,
    ⟨some 20, .q (.pick (.t 17) (.v (.bool true)) (.t 19)), none⟩,
    ⟨some 2, .e (.set (.t 20)) [], none⟩] [2])
  (.ret)), [.slot 2]⟩
/-- 'binnacle/front.digit' -/
def i63 : IFunc := ⟨.seq (.ops [⟨some 2, .e (.set (.v (.bool false))) [], none⟩] [0])
  (.seq (.ops [⟨some 3, .q (.mov (.t 0)), none⟩,
    ⟨some 4, .q (.bin .geq (.t 3) (.v (.int .u8 48))), none⟩,
    ⟨some 5, .q (.mov (.t 4)), none⟩,
    ⟨some 6, .q (.mov (.t 0)), some (5, true)⟩,
    ⟨some 7, .q (.bin .leq (.t 6) (.v (.int .u8 57))), some (5, true)⟩,
    ⟨some 8, .q (.pick (.t 5) (.t 7) (.v (.bool false))), none⟩,
    ⟨some 2, .e (.set (.t 8)) [], none⟩] [2])
  (.ret)), [.slot 2]⟩
/-- 'binnacle/front.among' -/
def i64 : IFunc := ⟨.seq (.ops [⟨some 4, .e (.set (.v (.bool false))) [], none⟩] [0, 1])
  (.seq (.seq (.ops [⟨some 7, .q (.mov (.t 0)), none⟩,
    ⟨some 8, .q (.len .slice (.t 7)), none⟩,
    ⟨some 9, .q (.mov (.v (.int .i64 0))), none⟩] [1, 7, 8, 9])
  (.block 0 (.loop [1, 7, 8, 9] (.seq (.ops [⟨some 10, .q (.bin .lss (.t 9) (.t 8)), none⟩] [1, 7, 8, 9, 10])
  (.seq (.cond (.t 10) (.skip) (.exit 0))
  (.seq (.block 1 (.seq (.ops [⟨some 11, .q (.ixSl 1 (.t 7) (.t 9)), none⟩,
    ⟨some 12, .q (.load none (.t 11)), none⟩,
    ⟨some 6, .e (.set (.t 12)) [], none⟩] [1, 6, 7, 8, 9])
  (.seq (.ops [⟨some 13, .q (.mov (.t 6)), none⟩,
    ⟨some 14, .q (.mov (.t 1)), none⟩,
    ⟨some 15, .q (.bin .eql (.t 13) (.t 14)), none⟩] [1, 7, 8, 9, 15])
  (.cond (.t 15) (.seq (.ops [⟨some 4, .e (.set (.v (.bool true))) [], none⟩] [4])
  (.ret)) (.skip)))))
  (.ops [⟨some 16, .q (.bin .add (.t 9) (.v (.int .i64 1))), none⟩,
    ⟨some 9, .q (.mov (.t 16)), none⟩] [1, 7, 8, 9])))))))
  (.seq (.ops [⟨some 4, .e (.set (.v (.bool false))) [], none⟩] [4])
  (.ret))), [.slot 4]⟩
/-- 'binnacle/front.words' -/
def i65 : IFunc := ⟨.seq (.ops [⟨some 0, .e (.set (.v (.nilslice))) [], none⟩] [])
  (.seq (.ops [⟨some 1, .e (.call 124 [.v (.str [105, 110, 116, 32, 99, 104, 97, 114, 32, 105, 102, 32, 101, 108, 115, 101, 32, 119, 104, 105, 108, 101, 32, 114, 101, 116, 117, 114, 110, 32, 98, 114, 101, 97, 107, 32, 99, 111, 110, 116, 105, 110, 117, 101])]) [], none⟩,
    ⟨some 0, .e (.set (.t 1)) [], none⟩] [0])
  (.ret)), [.slot 0]⟩
/-- 'binnacle/front.wrong' -/
def i66 : IFunc := ⟨.ops [⟨some 4, .q (.mov (.t 0)), none⟩,
    ⟨some 5, .q (.mov (.t 1)), none⟩,
    ⟨some 6, .q (.build [.int .i64 0, .int .i64 0] [(0, 1, .t 4), (1, 1, .t 5)]), none⟩,
    ⟨some 7, .q (.iface 76 (.t 6)), none⟩,
    ⟨none, .e (.panic (.t 7)) [], none⟩] [], []⟩
/-- '(*binnacle/front.reader).quoted' -/
def i68 : IFunc := ⟨.seq (.ops [⟨some 4, .e (.alloc 80 [.int .i64 0, .int .i64 0, .str [], .int .i64 0]) [], none⟩] [0, 1, 4])
  (.seq (.ops [⟨some 9, .q (.mov (.t 0)), none⟩,
    ⟨some 10, .q (.nilc (.t 9)), none⟩,
    ⟨some 11, .q (.addr 0 (.t 10)), none⟩,
    ⟨some 12, .q (.load none (.t 11)), none⟩,
    ⟨some 13, .q (.mov (.t 1)), none⟩,
    ⟨some 14, .q (.ixStr (.t 12) (.t 13)), none⟩,
    ⟨some 5, .e (.set (.t 14)) [], none⟩] [0, 1, 4, 5])
  (.seq (.ops [⟨some 15, .q (.mov (.t 0)), none⟩,
    ⟨some 16, .q (.mov (.t 1)), none⟩,
    ⟨some 17, .q (.bin .add (.t 16) (.v (.int .i64 1))), none⟩,
    ⟨some 18, .q (.nilc (.t 15)), none⟩,
    ⟨some 19, .q (.addr 1 (.t 18)), none⟩,
    ⟨none, .e (.store 1 (.t 19) (.t 17)) [], none⟩] [0, 1, 4, 5])
  (.seq (.ops [⟨some 6, .e (.alloc 90 [.nilptr, .nilslice]) [], none⟩] [0, 1, 4, 5, 6])
  (.seq (.block 0 (.loop [0, 1, 4, 5, 6] (.seq (.seq (.ops [⟨some 20, .q (.mov (.t 5)), none⟩,
    ⟨some 21, .q (.bin .eql (.t 20) (.v (.int .u8 39))), none⟩,
    ⟨some 22, .q (.mov (.t 21)), none⟩,
    ⟨some 23, .q (.mov (.t 0)), some (22, false)⟩,
    ⟨some 24, .q (.nilc (.t 23)), some (22, false)⟩,
    ⟨some 25, .q (.addr 1 (.t 24)), some (22, false)⟩,
    ⟨some 26, .q (.load none (.t 25)), some (22, false)⟩,
    ⟨some 27, .q (.mov (.t 0)), some (22, false)⟩,
    ⟨some 28, .q (.nilc (.t 27)), some (22, false)⟩,
    ⟨some 29, .q (.addr 0 (.t 28)), some (22, false)⟩,
    ⟨some 30, .q (.load none (.t 29)), some (22, false)⟩,
    ⟨some 31, .q (.len .str (.t 30)), some (22, false)⟩,
    ⟨some 32, .q (.bin .geq (.t 26) (.t 31)), some (22, false)⟩,
    ⟨some 33, .q (.pick (.t 22) (.v (.bool true)) (.t 32)), none⟩,
    ⟨some 34, .q (.mov (.t 33)), none⟩,
    ⟨some 35, .q (.mov (.t 0)), some (34, false)⟩,
    ⟨some 36, .q (.nilc (.t 35)), some (34, false)⟩,
    ⟨some 37, .q (.addr 0 (.t 36)), some (34, false)⟩,
    ⟨some 38, .q (.load none (.t 37)), some (34, false)⟩,
    ⟨some 39, .q (.mov (.t 0)), some (34, false)⟩,
    ⟨some 40, .q (.nilc (.t 39)), some (34, false)⟩,
    ⟨some 41, .q (.addr 1 (.t 40)), some (34, false)⟩,
    ⟨some 42, .q (.load none (.t 41)), some (34, false)⟩,
    ⟨some 43, .q (.ixStr (.t 38) (.t 42)), some (34, false)⟩,
    ⟨some 44, .q (.bin .neq (.t 43) (.v (.int .u8 34))), some (34, false)⟩,
    ⟨some 45, .q (.pick (.t 34) (.v (.bool true)) (.t 44)), none⟩] [0, 1, 4, 5, 6, 45])
  (.cond (.t 45) (.skip) (.exit 0)))
  (.block 1 (.seq (.ops [⟨some 47, .q (.mov (.t 0)), none⟩,
    ⟨some 48, .q (.mov (.t 5)), none⟩,
    ⟨some 49, .e (.call 127 [.t 47, .t 48]) [], none⟩,
    ⟨some 46, .q (.mov (.t 49)), none⟩,
    ⟨some 50, .q (.extr 0 (.t 46)), none⟩,
    ⟨some 51, .q (.extr 1 (.t 46)), none⟩,
    ⟨some 7, .e (.set (.t 50)) [], none⟩,
    ⟨some 8, .e (.set (.t 51)) [], none⟩] [0, 1, 4, 5, 6, 7, 8])
  (.seq (.seq (.ops [⟨some 52, .q (.mov (.t 8)), none⟩,
    ⟨some 53, .q (.un .not (.t 52)), none⟩,
    ⟨some 54, .q (.mov (.t 53)), none⟩,
    ⟨some 55, .q (.mov (.t 5)), some (54, false)⟩,
    ⟨some 56, .q (.bin .eql (.t 55) (.v (.int .u8 34))), some (54, false)⟩,
    ⟨some 57, .q (.mov (.t 56)), some (54, false)⟩,
    ⟨some 58, .q (.mov (.t 7)), some (57, true)⟩,
    ⟨some 59, .q (.bin .eql (.t 58) (.v (.int .u8 0))), some (57, true)⟩,
    ⟨some 60, .q (.mov (.t 59)), some (57, true)⟩,
    ⟨some 61, .e (.call 128 [.t 6]) [], some (60, false)⟩,
    ⟨some 62, .q (.bin .eql (.t 61) (.v (.int .i64 100))), some (60, false)⟩,
    ⟨some 63, .q (.pick (.t 60) (.v (.bool true)) (.t 62)), some (57, true)⟩,
    ⟨some 64, .q (.pick (.t 57) (.t 63) (.v (.bool false))), some (54, false)⟩,
    ⟨some 65, .q (.pick (.t 54) (.v (.bool true)) (.t 64)), none⟩] [0, 1, 4, 5, 6, 7, 65])
  (.cond (.t 65) (.ops [⟨some 66, .q (.mov (.t 1)), none⟩,
    ⟨some 67, .e (.call 66 [.v (.int .i64 13), .t 66]) [], none⟩] [0, 1, 4, 5, 6, 7]) (.skip)))
  (.seq (.ops [⟨some 68, .q (.mov (.t 7)), none⟩,
    ⟨some 69, .e (.call 129 [.t 6, .t 68]) [], none⟩] [0, 1, 4, 5, 6])
  (.seq (.ops [⟨some 70, .q (.mov (.t 5)), none⟩,
    ⟨some 71, .q (.bin .eql (.t 70) (.v (.int .u8 39))), none⟩] [0, 1, 4, 5, 6, 71])
  (.cond (.t 71) (.exit 0) (.skip))))))))))
  (.seq (.seq (.ops [⟨some 72, .q (.mov (.t 0)), none⟩,
    ⟨some 73, .q (.nilc (.t 72)), none⟩,
    ⟨some 74, .q (.addr 1 (.t 73)), none⟩,
    ⟨some 75, .q (.load none (.t 74)), none⟩,
    ⟨some 76, .q (.mov (.t 0)), none⟩,
    ⟨some 77, .q (.nilc (.t 76)), none⟩,
    ⟨some 78, .q (.addr 0 (.t 77)), none⟩,
    ⟨some 79, .q (.load none (.t 78)), none⟩,
    ⟨some 80, .q (.len .str (.t 79)), none⟩,
    ⟨some 81, .q (.bin .geq (.t 75) (.t 80)), none⟩,
    ⟨some 82, .q (.mov (.t 81)), none⟩,
    ⟨some 83, .q (.mov (.t 0)), some (82, false)⟩,
    ⟨some 84, .q (.nilc (.t 83)), some (82, false)⟩,
    ⟨some 85, .q (.addr 0 (.t 84)), some (82, false)⟩,
    ⟨some 86, .q (.load none (.t 85)), some (82, false)⟩,
    ⟨some 87, .q (.mov (.t 0)), some (82, false)⟩,
    ⟨some 88, .q (.nilc (.t 87)), some (82, false)⟩,
    ⟨some 89, .q (.addr 1 (.t 88)), some (82, false)⟩,
    ⟨some 90, .q (.load none (.t 89)), some (82, false)⟩,
    ⟨some 91, .q (.ixStr (.t 86) (.t 90)), some (82, false)⟩,
    ⟨some 92, .q (.mov (.t 5)), some (82, false)⟩,
    ⟨some 93, .q (.bin .neq (.t 91) (.t 92)), some (82, false)⟩,
    ⟨some 94, .q (.pick (.t 82) (.v (.bool true)) (.t 93)), none⟩] [0, 1, 4, 5, 6, 94])
  (.cond (.t 94) (.ops [⟨some 95, .q (.mov (.t 1)), none⟩,
    ⟨some 96, .e (.call 66 [.v (.int .i64 13), .t 95]) [], none⟩] [0, 1, 4, 5, 6]) (.skip)))
  (.seq (.ops [⟨some 97, .q (.mov (.t 0)), none⟩,
    ⟨some 98, .q (.nilc (.t 97)), none⟩,
    ⟨some 99, .q (.addr 1 (.t 98)), none⟩,
    ⟨some 100, .q (.load none (.t 99)), none⟩,
    ⟨some 101, .q (.bin .add (.t 100) (.v (.int .i64 1))), none⟩,
    ⟨some 102, .q (.nilc (.t 97)), none⟩,
    ⟨some 103, .q (.addr 1 (.t 102)), none⟩,
    ⟨none, .e (.store 1 (.t 103) (.t 101)) [], none⟩] [1, 4, 5, 6])
  (.seq (.seq (.ops [⟨some 104, .q (.mov (.t 5)), none⟩,
    ⟨some 105, .q (.bin .eql (.t 104) (.v (.int .u8 34))), none⟩] [1, 4, 6, 105])
  (.cond (.t 105) (.seq (.ops [⟨some 106, .q (.mov (.t 1)), none⟩,
    ⟨some 107, .e (.call 39 [.t 6]) [], none⟩,
    ⟨some 108, .q (.build [.int .i64 0, .int .i64 0, .str [], .int .i64 0] [(0, 1, .v (.int .i64 4)), (1, 1, .t 106), (2, 1, .t 107)]), none⟩,
    ⟨none, .e (.store 4 (.t 4) (.t 108)) [], none⟩] [4])
  (.ret)) (.skip)))
  (.seq (.ops [⟨some 109, .q (.mov (.t 1)), none⟩,
    ⟨some 110, .e (.call 39 [.t 6]) [], none⟩,
    ⟨some 111, .q (.ixStr (.t 110) (.v (.int .i64 0))), none⟩,
    ⟨some 112, .q (.conv .i64 (.t 111)), none⟩,
    ⟨some 113, .q (.build [.int .i64 0, .int .i64 0, .str [], .int .i64 0] [(0, 1, .v (.int .i64 3)), (1, 1, .t 109), (3, 1, .t 112)]), none⟩,
    ⟨none, .e (.store 4 (.t 4) (.t 113)) [], none⟩] [4])
  (.ret))))))))), [.cell 4 (some 4)]⟩
/-- 'binnacle/front.marks' -/
def i69 : IFunc := ⟨.seq (.ops [⟨some 0, .e (.set (.v (.nilslice))) [], none⟩] [])
  (.seq (.ops [⟨some 1, .e (.call 124 [.v (.str [60, 60, 32, 62, 62, 32, 60, 61, 32, 62, 61, 32, 61, 61, 32, 33, 61, 32, 38, 38, 32, 124, 124, 32, 40, 32, 41, 32, 123, 32, 125, 32, 91, 32, 93, 32, 59, 32, 44, 32, 42, 32, 47, 32, 37, 32, 43, 32, 45, 32, 60, 32, 62, 32, 38, 32, 94, 32, 124, 32, 61, 32, 33, 32, 126])]) [], none⟩,
    ⟨some 0, .e (.set (.t 1)) [], none⟩] [0])
  (.ret)), [.slot 0]⟩
/-- 'strings.HasPrefix' -/
def i70 : IFunc := ⟨.seq (.ops [⟨some 4, .e (.set (.v (.bool false))) [], none⟩] [0, 1])
  (.seq (.ops [⟨some 5, .q (.mov (.t 0)), none⟩,
    ⟨some 6, .q (.mov (.t 1)), none⟩,
    ⟨some 7, .e (.call 130 [.t 5, .t 6]) [], none⟩,
    ⟨some 4, .e (.set (.t 7)) [], none⟩] [4])
  (.ret)), [.slot 4]⟩
/-- '(*binnacle/front.reader).take' -/
def i71 : IFunc := ⟨.seq (.ops [⟨some 4, .e (.set (.v (.bool false))) [], none⟩] [0, 1])
  (.seq (.seq (.ops [⟨some 5, .q (.mov (.t 0)), none⟩,
    ⟨some 6, .q (.mov (.t 1)), none⟩,
    ⟨some 7, .e (.call 74 [.t 5, .t 6]) [], none⟩] [0, 7])
  (.cond (.t 7) (.seq (.ops [⟨some 8, .q (.mov (.t 0)), none⟩,
    ⟨some 9, .e (.call 131 [.t 8]) [], none⟩] [])
  (.seq (.ops [⟨some 4, .e (.set (.v (.bool true))) [], none⟩] [4])
  (.ret))) (.skip)))
  (.seq (.ops [⟨some 4, .e (.set (.v (.bool false))) [], none⟩] [4])
  (.ret))), [.slot 4]⟩
/-- '(*binnacle/front.reader).must' -/
def i72 : IFunc := ⟨.seq (.seq (.ops [⟨some 4, .q (.mov (.t 0)), none⟩,
    ⟨some 5, .q (.mov (.t 1)), none⟩,
    ⟨some 6, .e (.call 74 [.t 4, .t 5]) [], none⟩,
    ⟨some 7, .q (.un .not (.t 6)), none⟩] [0, 7])
  (.cond (.t 7) (.ops [⟨some 8, .q (.mov (.t 0)), none⟩,
    ⟨some 9, .q (.nilc (.t 8)), none⟩,
    ⟨some 10, .q (.addr 2 (.t 9)), none⟩,
    ⟨some 11, .q (.addr 1 (.t 10)), none⟩,
    ⟨some 12, .q (.load none (.t 11)), none⟩,
    ⟨some 13, .e (.call 66 [.v (.int .i64 13), .t 12]) [], none⟩] [0]) (.skip)))
  (.ops [⟨some 14, .q (.mov (.t 0)), none⟩,
    ⟨some 15, .e (.call 131 [.t 14]) [], none⟩] []), []⟩
/-- '(*binnacle/front.reader).mustKind' -/
def i73 : IFunc := ⟨.seq (.ops [⟨some 4, .e (.alloc 80 [.int .i64 0, .int .i64 0, .str [], .int .i64 0]) [], none⟩] [0, 1, 4])
  (.seq (.seq (.ops [⟨some 5, .q (.mov (.t 0)), none⟩,
    ⟨some 6, .q (.nilc (.t 5)), none⟩,
    ⟨some 7, .q (.addr 2 (.t 6)), none⟩,
    ⟨some 8, .q (.addr 0 (.t 7)), none⟩,
    ⟨some 9, .q (.load none (.t 8)), none⟩,
    ⟨some 10, .q (.mov (.t 1)), none⟩,
    ⟨some 11, .q (.bin .neq (.t 9) (.t 10)), none⟩] [0, 4, 11])
  (.cond (.t 11) (.ops [⟨some 12, .q (.mov (.t 0)), none⟩,
    ⟨some 13, .q (.nilc (.t 12)), none⟩,
    ⟨some 14, .q (.addr 2 (.t 13)), none⟩,
    ⟨some 15, .q (.addr 1 (.t 14)), none⟩,
    ⟨some 16, .q (.load none (.t 15)), none⟩,
    ⟨some 17, .e (.call 66 [.v (.int .i64 13), .t 16]) [], none⟩] [0, 4]) (.skip)))
  (.seq (.ops [⟨some 18, .q (.mov (.t 0)), none⟩,
    ⟨some 19, .e (.call 131 [.t 18]) [], none⟩,
    ⟨none, .e (.store 4 (.t 4) (.t 19)) [], none⟩] [4])
  (.ret))), [.cell 4 (some 4)]⟩
/-- '(*binnacle/front.reader).is' -/
def i74 : IFunc := ⟨.seq (.ops [⟨some 4, .e (.set (.v (.bool false))) [], none⟩] [0, 1])
  (.seq (.ops [⟨some 5, .q (.mov (.t 0)), none⟩,
    ⟨some 6, .q (.nilc (.t 5)), none⟩,
    ⟨some 7, .q (.addr 2 (.t 6)), none⟩,
    ⟨some 8, .q (.addr 0 (.t 7)), none⟩,
    ⟨some 9, .q (.load none (.t 8)), none⟩,
    ⟨some 10, .q (.bin .eql (.t 9) (.v (.int .i64 2))), none⟩,
    ⟨some 11, .q (.mov (.t 10)), none⟩,
    ⟨some 12, .q (.mov (.t 0)), some (11, false)⟩,
    ⟨some 13, .q (.nilc (.t 12)), some (11, false)⟩,
    ⟨some 14, .q (.addr 2 (.t 13)), some (11, false)⟩,
    ⟨some 15, .q (.addr 0 (.t 14)), some (11, false)⟩,
    ⟨some 16, .q (.load none (.t 15)), some (11, false)⟩,
    ⟨some 17, .q (.bin .eql (.t 16) (.v (.int .i64 5))), some (11, false)⟩,
    ⟨some 18, .q (.pick (.t 11) (.v (.bool true)) (.t 17)), none⟩,
    ⟨some 19, .q (.mov (.t 18)), none⟩,
    ⟨some 20, .q (.mov (.t 0)), some (19, true)⟩,
    ⟨some 21, .q (.nilc (.t 20)), some (19, true)⟩,
    ⟨some 22, .q (.addr 2 (.t 21)), some (19, true)⟩,
    ⟨some 23, .q (.addr 2 (.t 22)), some (19, true)⟩,
    ⟨some 24, .q (.load none (.t 23)), some (19, true)⟩,
    ⟨some 25, .q (.mov (.t 1)), some (19, true)⟩,
    ⟨some 26, .q (.bin .eql (.t 24) (.t 25)), some (19, true)⟩,
    ⟨some 27, .q (.pick (.t 19) (.t 26) (.v (.bool false))), none⟩,
    ⟨some 4, .e (.set (.t 27)) [], none⟩] [4])
  (.ret)), [.slot 4]⟩
/-- '(*binnacle/front.reader).function' -/
def i75 : IFunc := ⟨.seq (.ops [⟨some 6, .e (.set (.v (.int .i64 0))) [], none⟩] [0, 1, 2])
  (.seq (.ops [⟨some 9, .q (.mov (.t 0)), none⟩,
    ⟨some 10, .e (.call 131 [.t 9]) [], none⟩] [0, 1, 2])
  (.seq (.ops [⟨some 7, .e (.set (.v (.nilslice))) [], none⟩] [0, 1, 2, 7])
  (.seq (.seq (.ops [⟨some 11, .q (.mov (.t 0)), none⟩,
    ⟨some 12, .e (.call 71 [.t 11, .v (.str [41])]) [], none⟩,
    ⟨some 13, .q (.un .not (.t 12)), none⟩] [0, 1, 2, 7, 13])
  (.cond (.t 13) (.block 0 (.loop [0, 1, 2, 7] (.block 1 (.seq (.ops [⟨some 14, .q (.mov (.t 7)), none⟩,
    ⟨some 15, .q (.mov (.t 0)), none⟩,
    ⟨some 16, .q (.mov (.t 0)), none⟩,
    ⟨some 17, .e (.call 132 [.t 16]) [], none⟩,
    ⟨some 18, .e (.call 36 [.t 15, .t 17]) [], none⟩,
    ⟨some 19, .e (.bslice 3 1 1 [.int .i64 0] [(0, 1, .t 18)]) [], none⟩,
    ⟨some 20, .e (.append 3 1 8 (.t 14) (.t 19)) [], none⟩,
    ⟨some 7, .e (.set (.t 20)) [], none⟩] [0, 1, 2, 7])
  (.seq (.seq (.ops [⟨some 21, .q (.mov (.t 0)), none⟩,
    ⟨some 22, .e (.call 71 [.t 21, .v (.str [41])]) [], none⟩] [0, 1, 2, 7, 22])
  (.cond (.t 22) (.exit 0) (.skip)))
  (.ops [⟨some 23, .q (.mov (.t 0)), none⟩,
    ⟨some 24, .e (.call 72 [.t 23, .v (.str [44])]) [], none⟩] [0, 1, 2, 7])))))) (.skip)))
  (.seq (.ops [⟨some 25, .q (.mov (.t 7)), none⟩,
    ⟨some 26, .q (.len .slice (.t 25)), none⟩,
    ⟨some 8, .e (.set (.t 26)) [], none⟩] [0, 1, 2, 7, 8])
  (.seq (.ops [⟨some 27, .q (.mov (.t 7)), none⟩,
    ⟨some 28, .q (.mov (.t 0)), none⟩,
    ⟨some 29, .e (.call 133 [.t 28]) [], none⟩,
    ⟨some 30, .e (.bslice 3 1 1 [.int .i64 0] [(0, 1, .t 29)]) [], none⟩,
    ⟨some 31, .e (.append 3 1 8 (.t 27) (.t 30)) [], none⟩,
    ⟨some 7, .e (.set (.t 31)) [], none⟩] [0, 1, 2, 7, 8])
  (.seq (.ops [⟨some 32, .q (.mov (.t 0)), none⟩,
    ⟨some 33, .q (.mov (.t 1)), none⟩,
    ⟨some 34, .q (.mov (.t 2)), none⟩,
    ⟨some 35, .q (.mov (.t 8)), none⟩,
    ⟨some 36, .q (.mov (.t 7)), none⟩,
    ⟨some 37, .q (.build [.int .i64 0, .int .i64 0, .str [], .int .i64 0, .int .i64 0, .nilslice] [(0, 1, .v (.int .i64 22)), (1, 1, .t 33), (2, 1, .t 34), (4, 1, .t 35), (5, 1, .t 36)]), none⟩,
    ⟨some 38, .e (.call 36 [.t 32, .t 37]) [], none⟩,
    ⟨some 6, .e (.set (.t 38)) [], none⟩] [6])
  (.ret))))))), [.slot 6]⟩
/-- 'binnacle/front.kinds' -/
def i76 : IFunc := ⟨.seq (.ops [⟨some 3, .e (.box 47 (.t 1)) [], none⟩,
    ⟨some 4, .e (.set (.v (.bool false))) [], none⟩] [0, 3])
  (.seq (.ops [⟨some 11, .e (.mkmap) [], none⟩,
    ⟨none, .e (.mapupd .int (.t 11) (.v (.int .i64 1)) (.v (.str []))) [], none⟩,
    ⟨none, .e (.mapupd .int (.t 11) (.v (.int .i64 2)) (.v (.str []))) [], none⟩,
    ⟨none, .e (.mapupd .int (.t 11) (.v (.int .i64 3)) (.v (.str []))) [], none⟩,
    ⟨none, .e (.mapupd .int (.t 11) (.v (.int .i64 5)) (.v (.str [49, 49]))) [], none⟩,
    ⟨none, .e (.mapupd .int (.t 11) (.v (.int .i64 6)) (.v (.str [49]))) [], none⟩,
    ⟨none, .e (.mapupd .int (.t 11) (.v (.int .i64 7)) (.v (.str [49, 49]))) [], none⟩,
    ⟨none, .e (.mapupd .int (.t 11) (.v (.int .i64 10)) (.v (.str [49]))) [], none⟩,
    ⟨none, .e (.mapupd .int (.t 11) (.v (.int .i64 11)) (.v (.str [49, 49]))) [], none⟩,
    ⟨none, .e (.mapupd .int (.t 11) (.v (.int .i64 13)) (.v (.str [49, 50]))) [], none⟩,
    ⟨none, .e (.mapupd .int (.t 11) (.v (.int .i64 14)) (.v (.str [49]))) [], none⟩,
    ⟨none, .e (.mapupd .int (.t 11) (.v (.int .i64 15)) (.v (.str []))) [], none⟩,
    ⟨none, .e (.mapupd .int (.t 11) (.v (.int .i64 16)) (.v (.str []))) [], none⟩,
    ⟨none, .e (.mapupd .int (.t 11) (.v (.int .i64 20)) (.v (.str []))) [], none⟩,
    ⟨none, .e (.mapupd .int (.t 11) (.v (.int .i64 21)) (.v (.str []))) [], none⟩,
    ⟨some 12, .q (.mov (.t 11)), none⟩,
    ⟨some 5, .e (.set (.t 12)) [], none⟩] [0, 3, 5])
  (.seq (.ops [⟨some 6, .e (.set (.v (.str []))) [], none⟩] [0, 3, 5, 6])
  (.seq (.seq (.ops [⟨some 13, .q (.addr 5 (.t 3)), none⟩,
    ⟨some 14, .q (.load none (.t 13)), none⟩,
    ⟨some 15, .q (.len .slice (.t 14)), none⟩,
    ⟨some 16, .q (.mov (.v (.int .i64 0))), none⟩] [0, 3, 5, 6, 14, 15, 16])
  (.block 0 (.loop [0, 3, 5, 6, 14, 15, 16] (.seq (.ops [⟨some 17, .q (.bin .lss (.t 16) (.t 15)), none⟩] [0, 3, 5, 6, 14, 15, 16, 17])
  (.seq (.cond (.t 17) (.skip) (.exit 0))
  (.seq (.block 1 (.seq (.ops [⟨some 18, .q (.ixSl 1 (.t 14) (.t 16)), none⟩,
    ⟨some 19, .q (.load none (.t 18)), none⟩,
    ⟨some 8, .e (.set (.t 19)) [], none⟩] [0, 3, 5, 6, 8, 14, 15, 16])
  (.ops [⟨some 20, .q (.mov (.t 6)), none⟩,
    ⟨some 21, .q (.mov (.t 0)), none⟩,
    ⟨some 22, .q (.mov (.t 8)), none⟩,
    ⟨some 23, .q (.ixSl 6 (.t 21) (.t 22)), none⟩,
    ⟨some 24, .q (.addr 0 (.t 23)), none⟩,
    ⟨some 25, .q (.load none (.t 24)), none⟩,
    ⟨some 26, .e (.call 135 [.t 25]) [], none⟩,
    ⟨some 27, .e (.call 134 [.t 26]) [], none⟩,
    ⟨some 28, .q (.bin .add (.t 20) (.t 27)), none⟩,
    ⟨some 6, .e (.set (.t 28)) [], none⟩] [0, 3, 5, 6, 14, 15, 16])))
  (.ops [⟨some 29, .q (.bin .add (.t 16) (.v (.int .i64 1))), none⟩,
    ⟨some 16, .q (.mov (.t 29)), none⟩] [0, 3, 5, 6, 14, 15, 16])))))))
  (.seq (.ops [⟨some 31, .q (.mov (.t 5)), none⟩,
    ⟨some 32, .q (.addr 0 (.t 3)), none⟩,
    ⟨some 33, .q (.load none (.t 32)), none⟩,
    ⟨some 34, .q (.lookup .int (.str []) true (.t 31) (.t 33)), none⟩,
    ⟨some 30, .q (.mov (.t 34)), none⟩,
    ⟨some 35, .q (.extr 0 (.t 30)), none⟩,
    ⟨some 36, .q (.extr 1 (.t 30)), none⟩,
    ⟨some 9, .e (.set (.t 35)) [], none⟩,
    ⟨some 10, .e (.set (.t 36)) [], none⟩] [0, 3, 6, 9, 10])
  (.seq (.block 2 (.seq (.ops [⟨some 38, .q (.addr 0 (.t 3)), none⟩,
    ⟨some 39, .q (.load none (.t 38)), none⟩,
    ⟨some 40, .q (.bin .eql (.t 39) (.v (.int .i64 6))), none⟩,
    ⟨some 41, .q (.mov (.t 40)), none⟩,
    ⟨some 42, .q (.addr 3 (.t 3)), some (41, true)⟩,
    ⟨some 43, .q (.load none (.t 42)), some (41, true)⟩,
    ⟨some 44, .q (.bin .lss (.t 43) (.v (.int .i64 1))), some (41, true)⟩,
    ⟨some 45, .q (.mov (.t 44)), some (41, true)⟩,
    ⟨some 46, .q (.addr 3 (.t 3)), some (45, false)⟩,
    ⟨some 47, .q (.load none (.t 46)), some (45, false)⟩,
    ⟨some 48, .q (.bin .gtr (.t 47) (.v (.int .i64 3))), some (45, false)⟩,
    ⟨some 49, .q (.pick (.t 45) (.v (.bool true)) (.t 48)), some (41, true)⟩,
    ⟨some 50, .q (.pick (.t 41) (.t 49) (.v (.bool false))), none⟩,
    ⟨some 51, .q (.mov (.t 50)), none⟩,
    ⟨some 52, .q (.addr 0 (.t 3)), some (51, false)⟩,
    ⟨some 53, .q (.load none (.t 52)), some (51, false)⟩,
    ⟨some 54, .q (.bin .eql (.t 53) (.v (.int .i64 7))), some (51, false)⟩,
    ⟨some 55, .q (.mov (.t 54)), some (51, false)⟩,
    ⟨some 56, .q (.addr 3 (.t 3)), some (55, true)⟩,
    ⟨some 57, .q (.load none (.t 56)), some (55, true)⟩,
    ⟨some 58, .q (.bin .lss (.t 57) (.v (.int .i64 4))), some (55, true)⟩,
    ⟨some 59, .q (.mov (.t 58)), some (55, true)⟩,
    ⟨some 60, .q (.addr 3 (.t 3)), some (59, false)⟩,
    ⟨some 61, .q (.load none (.t 60)), some (59, false)⟩,
    ⟨some 62, .q (.bin .gtr (.t 61) (.v (.int .i64 21))), some (59, false)⟩,
    ⟨some 63, .q (.pick (.t 59) (.v (.bool true)) (.t 62)), some (55, true)⟩,
    ⟨some 64, .q (.pick (.t 55) (.t 63) (.v (.bool false))), some (51, false)⟩,
    ⟨some 65, .q (.pick (.t 51) (.v (.bool true)) (.t 64)), none⟩,
    ⟨some 37, .e (.set (.t 65)) [], none⟩] [0, 3, 6, 9, 10, 37])
  (.cond (.t 37) (.seq (.ops [⟨some 4, .e (.set (.v (.bool false))) [], none⟩] [4])
  (.ret)) (.seq (.ops [⟨some 67, .q (.mov (.t 10)), none⟩,
    ⟨some 66, .e (.set (.t 67)) [], none⟩] [0, 3, 6, 9, 66])
  (.cond (.t 66) (.seq (.ops [⟨some 68, .q (.mov (.t 6)), none⟩,
    ⟨some 69, .q (.mov (.t 9)), none⟩,
    ⟨some 70, .q (.bin .eql (.t 68) (.t 69)), none⟩,
    ⟨some 4, .e (.set (.t 70)) [], none⟩] [4])
  (.ret)) (.seq (.ops [⟨some 72, .q (.addr 0 (.t 3)), none⟩,
    ⟨some 73, .q (.load none (.t 72)), none⟩,
    ⟨some 74, .q (.bin .eql (.t 73) (.v (.int .i64 4))), none⟩,
    ⟨some 71, .e (.set (.t 74)) [], none⟩] [0, 3, 6, 71])
  (.cond (.t 71) (.seq (.ops [⟨some 75, .q (.mov (.t 6)), none⟩,
    ⟨some 76, .e (.call 136 [.t 75, .v (.str [49])]) [], none⟩,
    ⟨some 77, .q (.bin .eql (.t 76) (.v (.str []))), none⟩,
    ⟨some 4, .e (.set (.t 77)) [], none⟩] [4])
  (.ret)) (.seq (.ops [⟨some 79, .q (.addr 0 (.t 3)), none⟩,
    ⟨some 80, .q (.load none (.t 79)), none⟩,
    ⟨some 81, .q (.bin .eql (.t 80) (.v (.int .i64 12))), none⟩,
    ⟨some 78, .e (.set (.t 81)) [], none⟩] [0, 3, 6, 78])
  (.cond (.t 78) (.seq (.ops [⟨some 82, .q (.mov (.t 6)), none⟩,
    ⟨some 83, .q (.bin .eql (.t 82) (.v (.str [49, 50]))), none⟩,
    ⟨some 84, .q (.mov (.t 83)), none⟩,
    ⟨some 85, .q (.mov (.t 6)), some (84, false)⟩,
    ⟨some 86, .q (.bin .eql (.t 85) (.v (.str [49, 50, 50]))), some (84, false)⟩,
    ⟨some 87, .q (.pick (.t 84) (.v (.bool true)) (.t 86)), none⟩,
    ⟨some 4, .e (.set (.t 87)) [], none⟩] [4])
  (.ret)) (.seq (.ops [⟨some 89, .q (.addr 0 (.t 3)), none⟩,
    ⟨some 90, .q (.load none (.t 89)), none⟩,
    ⟨some 91, .q (.bin .eql (.t 90) (.v (.int .i64 17))), none⟩,
    ⟨some 88, .e (.set (.t 91)) [], none⟩] [0, 3, 6, 88])
  (.cond (.t 88) (.seq (.ops [⟨some 92, .q (.mov (.t 6)), none⟩,
    ⟨some 93, .e (.call 136 [.t 92, .v (.str [50])]) [], none⟩,
    ⟨some 94, .q (.bin .eql (.t 93) (.v (.str []))), none⟩,
    ⟨some 4, .e (.set (.t 94)) [], none⟩] [4])
  (.ret)) (.seq (.ops [⟨some 96, .q (.addr 0 (.t 3)), none⟩,
    ⟨some 97, .q (.load none (.t 96)), none⟩,
    ⟨some 98, .q (.bin .eql (.t 97) (.v (.int .i64 18))), none⟩,
    ⟨some 95, .e (.set (.t 98)) [], none⟩] [0, 3, 6, 95])
  (.cond (.t 95) (.seq (.ops [⟨some 99, .q (.mov (.t 6)), none⟩,
    ⟨some 100, .q (.bin .eql (.t 99) (.v (.str []))), none⟩,
    ⟨some 101, .q (.mov (.t 100)), none⟩,
    ⟨some 102, .q (.mov (.t 6)), some (101, false)⟩,
    ⟨some 103, .q (.bin .eql (.t 102) (.v (.str [49]))), some (101, false)⟩,
    ⟨some 104, .q (.pick (.t 101) (.v (.bool true)) (.t 103)), none⟩,
    ⟨some 4, .e (.set (.t 104)) [], none⟩] [4])
  (.ret)) (.seq (.ops [⟨some 106, .q (.addr 0 (.t 3)), none⟩,
    ⟨some 107, .q (.load none (.t 106)), none⟩,
    ⟨some 108, .q (.bin .eql (.t 107) (.v (.int .i64 22))), none⟩,
    ⟨some 105, .e (.set (.t 108)) [], none⟩] [0, 3, 6, 105])
  (.cond (.t 105) (.seq (.ops [⟨some 109, .q (.addr 4 (.t 3)), none⟩,
    ⟨some 110, .q (.load none (.t 109)), none⟩,
    ⟨some 111, .q (.bin .geq (.t 110) (.v (.int .i64 0))), none⟩,
    ⟨some 112, .q (.mov (.t 111)), none⟩,
    ⟨some 113, .q (.mov (.t 6)), some (112, true)⟩,
    ⟨some 114, .q (.len .str (.t 113)), some (112, true)⟩,
    ⟨some 115, .q (.addr 4 (.t 3)), some (112, true)⟩,
    ⟨some 116, .q (.load none (.t 115)), some (112, true)⟩,
    ⟨some 117, .q (.bin .add (.t 116) (.v (.int .i64 1))), some (112, true)⟩,
    ⟨some 118, .q (.bin .eql (.t 114) (.t 117)), some (112, true)⟩,
    ⟨some 119, .q (.pick (.t 112) (.t 118) (.v (.bool false))), none⟩,
    ⟨some 120, .q (.mov (.t 119)), none⟩,
    ⟨some 121, .q (.mov (.t 6)), some (120, true)⟩,
    ⟨some 122, .e (.call 136 [.t 121, .v (.str [50])]) [], some (120, true)⟩,
    ⟨some 123, .q (.bin .eql (.t 122) (.v (.str []))), some (120, true)⟩,
    ⟨some 124, .q (.pick (.t 120) (.t 123) (.v (.bool false))), none⟩,
    ⟨some 125, .q (.mov (.t 124)), none⟩,
    ⟨some 126, .q (.mov (.t 0)), some (125, true)⟩,
    ⟨some 127, .q (.addr 5 (.t 3)), some (125, true)⟩,
    ⟨some 128, .q (.load none (.t 127)), some (125, true)⟩,
    ⟨some 129, .q (.addr 4 (.t 3)), some (125, true)⟩,
    ⟨some 130, .q (.load none (.t 129)), some (125, true)⟩,
    ⟨some 131, .q (.ixSl 1 (.t 128) (.t 130)), some (125, true)⟩,
    ⟨some 132, .q (.load none (.t 131)), some (125, true)⟩,
    ⟨some 133, .q (.ixSl 6 (.t 126) (.t 132)), some (125, true)⟩,
    ⟨some 134, .q (.addr 0 (.t 133)), some (125, true)⟩,
    ⟨some 135, .q (.load none (.t 134)), some (125, true)⟩,
    ⟨some 136, .q (.bin .eql (.t 135) (.v (.int .i64 17))), some (125, true)⟩,
    ⟨some 137, .q (.pick (.t 125) (.t 136) (.v (.bool false))), none⟩,
    ⟨some 4, .e (.set (.t 137)) [], none⟩] [4])
  (.ret)) (.seq (.ops [⟨some 139, .q (.addr 0 (.t 3)), none⟩,
    ⟨some 140, .q (.load none (.t 139)), none⟩,
    ⟨some 141, .q (.bin .eql (.t 140) (.v (.int .i64 23))), none⟩,
    ⟨some 138, .e (.set (.t 141)) [], none⟩] [6, 138])
  (.cond (.t 138) (.seq (.ops [⟨some 142, .q (.mov (.t 6)), none⟩,
    ⟨some 143, .e (.call 136 [.t 142, .v (.str [51])]) [], none⟩,
    ⟨some 144, .q (.bin .eql (.t 143) (.v (.str []))), none⟩,
    ⟨some 4, .e (.set (.t 144)) [], none⟩] [4])
  (.ret)) (.skip))))))))))))))))))
  (.seq (.ops [⟨some 4, .e (.set (.v (.bool false))) [], none⟩] [4])
  (.ret))))))), [.slot 4]⟩
/-- '(*binnacle/front.writer).put' -/
def i77 : IFunc := ⟨.seq (.ops [⟨some 6, .q (.mov (.t 1)), none⟩,
    ⟨some 7, .q (.len .slice (.t 6)), none⟩,
    ⟨some 8, .q (.mov (.v (.int .i64 0))), none⟩] [0, 6, 7, 8])
  (.block 0 (.loop [0, 6, 7, 8] (.seq (.ops [⟨some 9, .q (.bin .lss (.t 8) (.t 7)), none⟩] [0, 6, 7, 8, 9])
  (.seq (.cond (.t 9) (.skip) (.exit 0))
  (.seq (.block 1 (.seq (.ops [⟨some 10, .q (.ixSl 1 (.t 6) (.t 8)), none⟩,
    ⟨some 11, .q (.load none (.t 10)), none⟩,
    ⟨some 5, .e (.set (.t 11)) [], none⟩] [0, 5, 6, 7, 8])
  (.seq (.ops [⟨some 12, .q (.mov (.t 0)), none⟩,
    ⟨some 13, .q (.nilc (.t 12)), none⟩,
    ⟨some 14, .q (.addr 1 (.t 13)), none⟩,
    ⟨some 15, .q (.mov (.t 5)), none⟩,
    ⟨some 16, .e (.call 137 [.t 14, .t 15]) [], none⟩] [0, 5, 6, 7, 8])
  (.seq (.ops [⟨some 17, .q (.mov (.t 5)), none⟩,
    ⟨some 18, .q (.bin .eql (.t 17) (.v (.str [59]))), none⟩,
    ⟨some 19, .q (.mov (.t 18)), none⟩,
    ⟨some 20, .q (.mov (.t 5)), some (19, false)⟩,
    ⟨some 21, .q (.bin .eql (.t 20) (.v (.str [123]))), some (19, false)⟩,
    ⟨some 22, .q (.pick (.t 19) (.v (.bool true)) (.t 21)), none⟩,
    ⟨some 23, .q (.mov (.t 22)), none⟩,
    ⟨some 24, .q (.mov (.t 5)), some (23, false)⟩,
    ⟨some 25, .q (.bin .eql (.t 24) (.v (.str [125]))), some (23, false)⟩,
    ⟨some 26, .q (.pick (.t 23) (.v (.bool true)) (.t 25)), none⟩] [0, 6, 7, 8, 26])
  (.cond (.t 26) (.ops [⟨some 27, .q (.mov (.t 0)), none⟩,
    ⟨some 28, .q (.nilc (.t 27)), none⟩,
    ⟨some 29, .q (.addr 1 (.t 28)), none⟩,
    ⟨some 30, .e (.call 129 [.t 29, .v (.int .u8 10)]) [], none⟩] [0, 6, 7, 8]) (.ops [⟨some 31, .q (.mov (.t 0)), none⟩,
    ⟨some 32, .q (.nilc (.t 31)), none⟩,
    ⟨some 33, .q (.addr 1 (.t 32)), none⟩,
    ⟨some 34, .e (.call 129 [.t 33, .v (.int .u8 32)]) [], none⟩] [0, 6, 7, 8]))))))
  (.ops [⟨some 35, .q (.bin .add (.t 8) (.v (.int .i64 1))), none⟩,
    ⟨some 8, .q (.mov (.t 35)), none⟩] [0, 6, 7, 8])))))), []⟩
/-- '(*binnacle/front.writer).commas' -/
def i79 : IFunc := ⟨.seq (.ops [⟨some 8, .q (.mov (.t 1)), none⟩,
    ⟨some 9, .q (.len .slice (.t 8)), none⟩,
    ⟨some 10, .q (.mov (.v (.int .i64 0))), none⟩] [0, 2, 8, 9, 10])
  (.block 0 (.loop [0, 2, 8, 9, 10] (.seq (.ops [⟨some 11, .q (.bin .lss (.t 10) (.t 9)), none⟩] [0, 2, 8, 9, 10, 11])
  (.seq (.cond (.t 11) (.skip) (.exit 0))
  (.seq (.block 1 (.seq (.ops [⟨some 12, .q (.mov (.t 10)), none⟩,
    ⟨some 13, .q (.ixSl 1 (.t 8) (.t 10)), none⟩,
    ⟨some 14, .q (.load none (.t 13)), none⟩,
    ⟨some 6, .e (.set (.t 12)) [], none⟩,
    ⟨some 7, .e (.set (.t 14)) [], none⟩] [0, 2, 6, 7, 8, 9, 10])
  (.seq (.seq (.ops [⟨some 15, .q (.mov (.t 6)), none⟩,
    ⟨some 16, .q (.bin .gtr (.t 15) (.v (.int .i64 0))), none⟩] [0, 2, 7, 8, 9, 10, 16])
  (.cond (.t 16) (.ops [⟨some 17, .q (.mov (.t 0)), none⟩,
    ⟨some 18, .e (.bslice 9 1 1 [.str []] [(0, 1, .v (.str [44]))]) [], none⟩,
    ⟨some 19, .e (.call 77 [.t 17, .t 18]) [], none⟩] [0, 2, 7, 8, 9, 10]) (.skip)))
  (.ops [⟨some 20, .q (.mov (.t 2)), none⟩,
    ⟨some 21, .q (.mov (.t 7)), none⟩,
    ⟨some 22, .e (.callv (.t 20) [.t 21]) [], none⟩] [0, 2, 8, 9, 10]))))
  (.ops [⟨some 23, .q (.bin .add (.t 10) (.v (.int .i64 1))), none⟩,
    ⟨some 10, .q (.mov (.t 23)), none⟩] [0, 2, 8, 9, 10])))))), []⟩
/-- '(*binnacle/front.writer).param' -/
def i80 : IFunc := ⟨.seq (.ops [⟨some 5, .q (.mov (.t 0)), none⟩,
    ⟨some 6, .q (.nilc (.t 5)), none⟩,
    ⟨some 7, .q (.addr 0 (.t 6)), none⟩,
    ⟨some 8, .q (.load none (.t 7)), none⟩,
    ⟨some 9, .q (.mov (.t 1)), none⟩,
    ⟨some 10, .q (.ixSl 6 (.t 8) (.t 9)), none⟩,
    ⟨some 11, .q (.load (some 6) (.t 10)), none⟩,
    ⟨some 4, .e (.alloc 47 [.int .i64 0, .int .i64 0, .str [], .int .i64 0, .int .i64 0, .nilslice]) [], none⟩,
    ⟨none, .e (.store 6 (.t 4) (.t 11)) [], none⟩] [0, 4])
  (.seq (.ops [⟨some 12, .q (.addr 4 (.t 4)), none⟩,
    ⟨some 13, .q (.load none (.t 12)), none⟩] [0, 4, 13])
  (.block 0 (.seq (.ops [⟨some 20, .q (.bin .eql (.t 13) (.v (.int .i64 1))), none⟩,
    ⟨some 19, .e (.set (.t 20)) [], none⟩] [0, 4, 13, 19])
  (.cond (.t 19) (.ops [⟨some 21, .q (.mov (.t 0)), none⟩,
    ⟨some 22, .q (.addr 2 (.t 4)), none⟩,
    ⟨some 23, .q (.load none (.t 22)), none⟩,
    ⟨some 24, .e (.bslice 9 1 2 [.str []] [(0, 1, .v (.str [105, 110, 116])), (1, 1, .t 23)]) [], none⟩,
    ⟨some 25, .e (.call 77 [.t 21, .t 24]) [], none⟩] []) (.seq (.ops [⟨some 27, .q (.bin .eql (.t 13) (.v (.int .i64 3))), none⟩,
    ⟨some 26, .e (.set (.t 27)) [], none⟩] [0, 4, 26])
  (.cond (.t 26) (.ops [⟨some 28, .q (.mov (.t 0)), none⟩,
    ⟨some 29, .q (.addr 2 (.t 4)), none⟩,
    ⟨some 30, .q (.load none (.t 29)), none⟩,
    ⟨some 31, .e (.bslice 9 1 3 [.str []] [(0, 1, .v (.str [105, 110, 116])), (1, 1, .v (.str [42])), (2, 1, .t 30)]) [], none⟩,
    ⟨some 32, .e (.call 77 [.t 28, .t 31]) [], none⟩] []) (.ops [⟨some 14, .q (.mov (.t 0)), none⟩,
    ⟨some 15, .q (.addr 2 (.t 4)), none⟩,
    ⟨some 16, .q (.load none (.t 15)), none⟩,
    ⟨some 17, .e (.bslice 9 1 3 [.str []] [(0, 1, .v (.str [99, 104, 97, 114])), (1, 1, .v (.str [42])), (2, 1, .t 16)]) [], none⟩,
    ⟨some 18, .e (.call 77 [.t 14, .t 17]) [], none⟩] []))))))), []⟩
end Go.Am

