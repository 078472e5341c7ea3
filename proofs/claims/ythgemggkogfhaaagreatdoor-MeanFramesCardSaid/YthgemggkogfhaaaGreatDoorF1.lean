/-
  Forms of functions (2). Conditions: none.
-/
import Derived.Test.YthgemggkogfhaaaGreatDoorB1
namespace Go.Am
open Go Go.RowKit
set_option maxRecDepth 100000
/-- '(*binnacle/front.writer).stmt' -/
def i81 : IFunc := ⟨.seq (.ops [⟨some 7, .q (.mov (.t 0)), none⟩,
    ⟨some 8, .q (.nilc (.t 7)), none⟩,
    ⟨some 9, .q (.addr 0 (.t 8)), none⟩,
    ⟨some 10, .q (.load none (.t 9)), none⟩,
    ⟨some 11, .q (.mov (.t 1)), none⟩,
    ⟨some 12, .q (.ixSl 6 (.t 10) (.t 11)), none⟩,
    ⟨some 13, .q (.load (some 6) (.t 12)), none⟩,
    ⟨some 4, .e (.alloc 47 [.int .i64 0, .int .i64 0, .str [], .int .i64 0, .int .i64 0, .nilslice]) [], none⟩,
    ⟨none, .e (.store 6 (.t 4) (.t 13)) [], none⟩] [0, 1, 4])
  (.seq (.ops [⟨some 14, .q (.addr 0 (.t 4)), none⟩,
    ⟨some 15, .q (.load none (.t 14)), none⟩] [0, 1, 4, 15])
  (.block 0 (.seq (.ops [⟨some 17, .q (.bin .eql (.t 15) (.v (.int .i64 17))), none⟩,
    ⟨some 16, .e (.set (.t 17)) [], none⟩] [0, 1, 4, 15, 16])
  (.cond (.t 16) (.seq (.ops [⟨some 18, .q (.mov (.t 0)), none⟩,
    ⟨some 19, .e (.bslice 9 1 1 [.str []] [(0, 1, .v (.str [123]))]) [], none⟩,
    ⟨some 20, .e (.call 77 [.t 18, .t 19]) [], none⟩] [0, 4])
  (.seq (.seq (.ops [⟨some 21, .q (.addr 5 (.t 4)), none⟩,
    ⟨some 22, .q (.load none (.t 21)), none⟩,
    ⟨some 23, .q (.len .slice (.t 22)), none⟩,
    ⟨some 24, .q (.mov (.v (.int .i64 0))), none⟩] [0, 22, 23, 24])
  (.block 1 (.loop [0, 22, 23, 24] (.seq (.ops [⟨some 25, .q (.bin .lss (.t 24) (.t 23)), none⟩] [0, 22, 23, 24, 25])
  (.seq (.cond (.t 25) (.skip) (.exit 1))
  (.seq (.block 2 (.seq (.ops [⟨some 26, .q (.ixSl 1 (.t 22) (.t 24)), none⟩,
    ⟨some 27, .q (.load none (.t 26)), none⟩,
    ⟨some 6, .e (.set (.t 27)) [], none⟩] [0, 6, 22, 23, 24])
  (.ops [⟨some 28, .q (.mov (.t 0)), none⟩,
    ⟨some 29, .q (.mov (.t 6)), none⟩,
    ⟨some 30, .e (.call 81 [.t 28, .t 29]) [], none⟩] [0, 22, 23, 24])))
  (.ops [⟨some 31, .q (.bin .add (.t 24) (.v (.int .i64 1))), none⟩,
    ⟨some 24, .q (.mov (.t 31)), none⟩] [0, 22, 23, 24])))))))
  (.ops [⟨some 32, .q (.mov (.t 0)), none⟩,
    ⟨some 33, .e (.bslice 9 1 1 [.str []] [(0, 1, .v (.str [125]))]) [], none⟩,
    ⟨some 34, .e (.call 77 [.t 32, .t 33]) [], none⟩] []))) (.seq (.seq (.ops [⟨some 36, .q (.bin .eql (.t 15) (.v (.int .i64 12))), none⟩,
    ⟨some 35, .e (.set (.t 36)) [], none⟩] [0, 1, 4, 15, 35])
  (.cond (.t 35) (.skip) (.ops [⟨some 37, .q (.bin .eql (.t 15) (.v (.int .i64 13))), none⟩,
    ⟨some 35, .e (.set (.t 37)) [], none⟩] [0, 1, 4, 15, 35])))
  (.cond (.t 35) (.seq (.ops [⟨some 38, .q (.mov (.t 0)), none⟩,
    ⟨some 39, .e (.mkmap) [], none⟩,
    ⟨none, .e (.mapupd .bool (.t 39) (.v (.bool true)) (.v (.str [105, 102]))) [], none⟩,
    ⟨none, .e (.mapupd .bool (.t 39) (.v (.bool false)) (.v (.str [119, 104, 105, 108, 101]))) [], none⟩,
    ⟨some 40, .q (.mov (.t 39)), none⟩,
    ⟨some 41, .q (.addr 0 (.t 4)), none⟩,
    ⟨some 42, .q (.load none (.t 41)), none⟩,
    ⟨some 43, .q (.bin .eql (.t 42) (.v (.int .i64 12))), none⟩,
    ⟨some 44, .q (.lookup .bool (.str []) false (.t 40) (.t 43)), none⟩,
    ⟨some 45, .e (.bslice 9 1 2 [.str []] [(0, 1, .t 44), (1, 1, .v (.str [40]))]) [], none⟩,
    ⟨some 46, .e (.call 77 [.t 38, .t 45]) [], none⟩] [0, 4])
  (.seq (.ops [⟨some 47, .q (.mov (.t 0)), none⟩,
    ⟨some 48, .q (.addr 5 (.t 4)), none⟩,
    ⟨some 49, .q (.load none (.t 48)), none⟩,
    ⟨some 50, .q (.ixSl 1 (.t 49) (.v (.int .i64 0))), none⟩,
    ⟨some 51, .q (.load none (.t 50)), none⟩,
    ⟨some 52, .e (.call 139 [.t 47, .t 51]) [], none⟩] [0, 4])
  (.seq (.ops [⟨some 53, .q (.mov (.t 0)), none⟩,
    ⟨some 54, .e (.bslice 9 1 1 [.str []] [(0, 1, .v (.str [41]))]) [], none⟩,
    ⟨some 55, .e (.call 77 [.t 53, .t 54]) [], none⟩] [0, 4])
  (.seq (.ops [⟨some 56, .q (.mov (.t 0)), none⟩,
    ⟨some 57, .q (.addr 5 (.t 4)), none⟩,
    ⟨some 58, .q (.load none (.t 57)), none⟩,
    ⟨some 59, .q (.ixSl 1 (.t 58) (.v (.int .i64 1))), none⟩,
    ⟨some 60, .q (.load none (.t 59)), none⟩,
    ⟨some 61, .e (.call 81 [.t 56, .t 60]) [], none⟩] [0, 4])
  (.seq (.ops [⟨some 62, .q (.addr 5 (.t 4)), none⟩,
    ⟨some 63, .q (.load none (.t 62)), none⟩,
    ⟨some 64, .q (.len .slice (.t 63)), none⟩,
    ⟨some 65, .q (.bin .gtr (.t 64) (.v (.int .i64 2))), none⟩] [0, 4, 65])
  (.cond (.t 65) (.seq (.ops [⟨some 66, .q (.mov (.t 0)), none⟩,
    ⟨some 67, .e (.bslice 9 1 1 [.str []] [(0, 1, .v (.str [101, 108, 115, 101]))]) [], none⟩,
    ⟨some 68, .e (.call 77 [.t 66, .t 67]) [], none⟩] [0, 4])
  (.ops [⟨some 69, .q (.mov (.t 0)), none⟩,
    ⟨some 70, .q (.addr 5 (.t 4)), none⟩,
    ⟨some 71, .q (.load none (.t 70)), none⟩,
    ⟨some 72, .q (.ixSl 1 (.t 71) (.v (.int .i64 2))), none⟩,
    ⟨some 73, .q (.load none (.t 72)), none⟩,
    ⟨some 74, .e (.call 81 [.t 69, .t 73]) [], none⟩] [])) (.skip))))))) (.seq (.ops [⟨some 76, .q (.bin .eql (.t 15) (.v (.int .i64 14))), none⟩,
    ⟨some 75, .e (.set (.t 76)) [], none⟩] [0, 1, 4, 15, 75])
  (.cond (.t 75) (.seq (.ops [⟨some 77, .q (.mov (.t 0)), none⟩,
    ⟨some 78, .e (.bslice 9 1 1 [.str []] [(0, 1, .v (.str [114, 101, 116, 117, 114, 110]))]) [], none⟩,
    ⟨some 79, .e (.call 77 [.t 77, .t 78]) [], none⟩] [0, 4])
  (.seq (.ops [⟨some 80, .q (.mov (.t 0)), none⟩,
    ⟨some 81, .q (.addr 5 (.t 4)), none⟩,
    ⟨some 82, .q (.load none (.t 81)), none⟩,
    ⟨some 83, .q (.ixSl 1 (.t 82) (.v (.int .i64 0))), none⟩,
    ⟨some 84, .q (.load none (.t 83)), none⟩,
    ⟨some 85, .e (.call 139 [.t 80, .t 84]) [], none⟩] [0])
  (.ops [⟨some 86, .q (.mov (.t 0)), none⟩,
    ⟨some 87, .e (.bslice 9 1 1 [.str []] [(0, 1, .v (.str [59]))]) [], none⟩,
    ⟨some 88, .e (.call 77 [.t 86, .t 87]) [], none⟩] []))) (.seq (.ops [⟨some 90, .q (.bin .eql (.t 15) (.v (.int .i64 15))), none⟩,
    ⟨some 89, .e (.set (.t 90)) [], none⟩] [0, 1, 4, 15, 89])
  (.cond (.t 89) (.ops [⟨some 91, .q (.mov (.t 0)), none⟩,
    ⟨some 92, .e (.bslice 9 1 2 [.str []] [(0, 1, .v (.str [98, 114, 101, 97, 107])), (1, 1, .v (.str [59]))]) [], none⟩,
    ⟨some 93, .e (.call 77 [.t 91, .t 92]) [], none⟩] []) (.seq (.ops [⟨some 95, .q (.bin .eql (.t 15) (.v (.int .i64 16))), none⟩,
    ⟨some 94, .e (.set (.t 95)) [], none⟩] [0, 1, 4, 15, 94])
  (.cond (.t 94) (.ops [⟨some 96, .q (.mov (.t 0)), none⟩,
    ⟨some 97, .e (.bslice 9 1 2 [.str []] [(0, 1, .v (.str [99, 111, 110, 116, 105, 110, 117, 101])), (1, 1, .v (.str [59]))]) [], none⟩,
    ⟨some 98, .e (.call 77 [.t 96, .t 97]) [], none⟩] []) (.seq (.ops [⟨some 100, .q (.bin .eql (.t 15) (.v (.int .i64 18))), none⟩,
    ⟨some 99, .e (.set (.t 100)) [], none⟩] [0, 1, 4, 15, 99])
  (.cond (.t 99) (.seq (.ops [⟨some 101, .q (.mov (.t 0)), none⟩,
    ⟨some 102, .q (.mov (.t 1)), none⟩,
    ⟨some 103, .e (.call 80 [.t 101, .t 102]) [], none⟩] [0, 4])
  (.seq (.seq (.ops [⟨some 104, .q (.addr 5 (.t 4)), none⟩,
    ⟨some 105, .q (.load none (.t 104)), none⟩,
    ⟨some 106, .q (.len .slice (.t 105)), none⟩,
    ⟨some 107, .q (.bin .gtr (.t 106) (.v (.int .i64 0))), none⟩] [0, 4, 107])
  (.cond (.t 107) (.seq (.ops [⟨some 108, .q (.mov (.t 0)), none⟩,
    ⟨some 109, .e (.bslice 9 1 1 [.str []] [(0, 1, .v (.str [61]))]) [], none⟩,
    ⟨some 110, .e (.call 77 [.t 108, .t 109]) [], none⟩] [0, 4])
  (.ops [⟨some 111, .q (.mov (.t 0)), none⟩,
    ⟨some 112, .q (.addr 5 (.t 4)), none⟩,
    ⟨some 113, .q (.load none (.t 112)), none⟩,
    ⟨some 114, .q (.ixSl 1 (.t 113) (.v (.int .i64 0))), none⟩,
    ⟨some 115, .q (.load none (.t 114)), none⟩,
    ⟨some 116, .e (.call 139 [.t 111, .t 115]) [], none⟩] [0])) (.skip)))
  (.ops [⟨some 117, .q (.mov (.t 0)), none⟩,
    ⟨some 118, .e (.bslice 9 1 1 [.str []] [(0, 1, .v (.str [59]))]) [], none⟩,
    ⟨some 119, .e (.call 77 [.t 117, .t 118]) [], none⟩] []))) (.seq (.ops [⟨some 121, .q (.bin .eql (.t 15) (.v (.int .i64 11))), none⟩,
    ⟨some 120, .e (.set (.t 121)) [], none⟩] [0, 4, 15, 120])
  (.cond (.t 120) (.seq (.ops [⟨some 122, .q (.mov (.t 0)), none⟩,
    ⟨some 123, .q (.addr 5 (.t 4)), none⟩,
    ⟨some 124, .q (.load none (.t 123)), none⟩,
    ⟨some 125, .q (.ixSl 1 (.t 124) (.v (.int .i64 0))), none⟩,
    ⟨some 126, .q (.load none (.t 125)), none⟩,
    ⟨some 127, .e (.call 139 [.t 122, .t 126]) [], none⟩] [0, 4])
  (.seq (.ops [⟨some 128, .q (.mov (.t 0)), none⟩,
    ⟨some 129, .e (.bslice 9 1 1 [.str []] [(0, 1, .v (.str [61]))]) [], none⟩,
    ⟨some 130, .e (.call 77 [.t 128, .t 129]) [], none⟩] [0, 4])
  (.seq (.ops [⟨some 131, .q (.mov (.t 0)), none⟩,
    ⟨some 132, .q (.addr 5 (.t 4)), none⟩,
    ⟨some 133, .q (.load none (.t 132)), none⟩,
    ⟨some 134, .q (.ixSl 1 (.t 133) (.v (.int .i64 1))), none⟩,
    ⟨some 135, .q (.load none (.t 134)), none⟩,
    ⟨some 136, .e (.call 139 [.t 131, .t 135]) [], none⟩] [0])
  (.ops [⟨some 137, .q (.mov (.t 0)), none⟩,
    ⟨some 138, .e (.bslice 9 1 1 [.str []] [(0, 1, .v (.str [59]))]) [], none⟩,
    ⟨some 139, .e (.call 77 [.t 137, .t 138]) [], none⟩] [])))) (.seq (.ops [⟨some 141, .q (.bin .eql (.t 15) (.v (.int .i64 10))), none⟩,
    ⟨some 140, .e (.set (.t 141)) [], none⟩] [0, 4, 140])
  (.cond (.t 140) (.seq (.ops [⟨some 142, .q (.mov (.t 0)), none⟩,
    ⟨some 143, .q (.addr 5 (.t 4)), none⟩,
    ⟨some 144, .q (.load none (.t 143)), none⟩,
    ⟨some 145, .q (.ixSl 1 (.t 144) (.v (.int .i64 0))), none⟩,
    ⟨some 146, .q (.load none (.t 145)), none⟩,
    ⟨some 147, .e (.call 139 [.t 142, .t 146]) [], none⟩] [0])
  (.ops [⟨some 148, .q (.mov (.t 0)), none⟩,
    ⟨some 149, .e (.bslice 9 1 1 [.str []] [(0, 1, .v (.str [59]))]) [], none⟩,
    ⟨some 150, .e (.call 77 [.t 148, .t 149]) [], none⟩] [])) (.skip))))))))))))))))))), []⟩
/-- '(*binnacle/front.reader).whole$1' -/
def i82 : RFunc := ⟨5, [⟨some 6, .q (.assert 76 (.agg [.int .i64 0, .int .i64 0]) (.t 5)), none⟩,
    ⟨some 4, .q (.mov (.t 6)), none⟩,
    ⟨some 7, .q (.extr 0 (.t 4)), none⟩,
    ⟨some 8, .q (.extr 1 (.t 4)), none⟩,
    ⟨some 2, .e (.alloc 76 [.int .i64 0, .int .i64 0]) [], none⟩,
    ⟨none, .e (.store 2 (.t 2) (.t 7)) [], none⟩,
    ⟨some 3, .e (.set (.t 8)) [], none⟩], [0, 1, 3],
  .seq (.ops [⟨some 9, .q (.mov (.t 3)), none⟩] [0, 1, 9])
  (.cond (.t 9) (.ops [⟨none, .e (.store 1 (.t 0) (.v (.nilslice))) [], none⟩,
    ⟨none, .e (.store 1 (.t 1) (.v (.bool false))) [], none⟩] []) (.skip)), []⟩
/-- '(*binnacle/binnacleref17.Reader).wrong' -/
def i83 : IFunc := ⟨.seq (.ops [⟨some 4, .q (.mov (.t 0)), none⟩,
    ⟨some 5, .q (.nilc (.t 4)), none⟩,
    ⟨some 6, .q (.addr 4 (.t 5)), none⟩,
    ⟨some 7, .q (.load none (.t 6)), none⟩,
    ⟨some 8, .q (.bin .eql (.t 7) (.v (.int .i64 0))), none⟩] [0, 1, 8])
  (.cond (.t 8) (.seq (.ops [⟨some 9, .q (.mov (.t 0)), none⟩,
    ⟨some 10, .q (.mov (.t 1)), none⟩,
    ⟨some 11, .q (.nilc (.t 9)), none⟩,
    ⟨some 12, .q (.addr 4 (.t 11)), none⟩,
    ⟨none, .e (.store 1 (.t 12) (.t 10)) [], none⟩] [0])
  (.ops [⟨some 13, .q (.mov (.t 0)), none⟩,
    ⟨some 14, .q (.mov (.t 0)), none⟩,
    ⟨some 15, .q (.nilc (.t 14)), none⟩,
    ⟨some 16, .q (.addr 0 (.t 15)), none⟩,
    ⟨some 17, .q (.load none (.t 16)), none⟩,
    ⟨some 18, .q (.mov (.t 0)), none⟩,
    ⟨some 19, .q (.nilc (.t 18)), none⟩,
    ⟨some 20, .q (.addr 1 (.t 19)), none⟩,
    ⟨some 21, .q (.load none (.t 20)), none⟩,
    ⟨some 22, .q (.ixSl 4 (.t 17) (.t 21)), none⟩,
    ⟨some 23, .q (.addr 1 (.t 22)), none⟩,
    ⟨some 24, .q (.load none (.t 23)), none⟩,
    ⟨some 25, .q (.nilc (.t 13)), none⟩,
    ⟨some 26, .q (.addr 5 (.t 25)), none⟩,
    ⟨none, .e (.store 1 (.t 26) (.t 24)) [], none⟩] [])) (.skip)), []⟩
/-- '(*binnacle/binnacleref17.Reader).declaration' -/
def i84 : IFunc := ⟨.seq (.ops [⟨some 2, .e (.set (.v (.int .i64 0))) [], none⟩] [0])
  (.seq (.ops [⟨some 9, .q (.mov (.t 0)), none⟩,
    ⟨some 10, .q (.nilc (.t 9)), none⟩,
    ⟨some 11, .q (.addr 0 (.t 10)), none⟩,
    ⟨some 12, .q (.load none (.t 11)), none⟩,
    ⟨some 13, .q (.mov (.t 0)), none⟩,
    ⟨some 14, .q (.nilc (.t 13)), none⟩,
    ⟨some 15, .q (.addr 1 (.t 14)), none⟩,
    ⟨some 16, .q (.load none (.t 15)), none⟩,
    ⟨some 17, .q (.ixSl 4 (.t 12) (.t 16)), none⟩,
    ⟨some 18, .q (.addr 1 (.t 17)), none⟩,
    ⟨some 19, .q (.load none (.t 18)), none⟩,
    ⟨some 20, .q (.build [.int .i64 0, .int .i64 0, .str [], .int .i64 0, .int .i64 0, .nilslice] [(0, 1, .v (.int .i64 21)), (1, 1, .t 19), (4, 1, .v (.int .i64 3))]), none⟩,
    ⟨some 3, .e (.alloc 47 [.int .i64 0, .int .i64 0, .str [], .int .i64 0, .int .i64 0, .nilslice]) [], none⟩,
    ⟨none, .e (.store 6 (.t 3) (.t 20)) [], none⟩] [0, 3])
  (.seq (.ops [⟨some 21, .q (.mov (.t 0)), none⟩,
    ⟨some 22, .e (.call 140 [.t 21, .v (.str [99, 104, 97, 114])]) [], none⟩,
    ⟨some 4, .e (.set (.t 22)) [], none⟩] [0, 3, 4])
  (.seq (.seq (.ops [⟨some 23, .q (.mov (.t 4)), none⟩] [0, 3, 4, 23])
  (.cond (.t 23) (.ops [⟨some 24, .q (.addr 4 (.t 3)), none⟩,
    ⟨none, .e (.store 1 (.t 24) (.v (.int .i64 2))) [], none⟩] [0, 3, 4]) (.ops [⟨some 25, .q (.mov (.t 0)), none⟩,
    ⟨some 26, .e (.call 141 [.t 25, .v (.str [105, 110, 116])]) [], none⟩] [0, 3, 4])))
  (.seq (.ops [⟨some 27, .q (.mov (.t 0)), none⟩,
    ⟨some 28, .e (.call 142 [.t 27, .v (.int .i64 1)]) [], none⟩,
    ⟨some 5, .e (.alloc 56 [.int .i64 0, .int .i64 0, .str [], .int .i64 0]) [], none⟩,
    ⟨none, .e (.store 4 (.t 5) (.t 28)) [], none⟩] [0, 3, 4, 5])
  (.seq (.ops [⟨some 29, .q (.addr 2 (.t 5)), none⟩,
    ⟨some 30, .q (.load none (.t 29)), none⟩,
    ⟨some 31, .q (.addr 2 (.t 3)), none⟩,
    ⟨none, .e (.store 1 (.t 31) (.t 30)) [], none⟩] [0, 3, 4])
  (.seq (.seq (.ops [⟨some 32, .q (.mov (.t 4)), none⟩,
    ⟨some 33, .q (.un .not (.t 32)), none⟩] [0, 3, 33])
  (.cond (.t 33) (.seq (.ops [⟨some 34, .q (.mov (.t 0)), none⟩,
    ⟨some 35, .e (.call 140 [.t 34, .v (.str [59])]) [], none⟩,
    ⟨some 6, .e (.set (.t 35)) [], none⟩] [0, 3, 6])
  (.seq (.seq (.ops [⟨some 36, .q (.mov (.t 6)), none⟩] [0, 3, 36])
  (.cond (.t 36) (.seq (.ops [⟨some 37, .q (.addr 0 (.t 3)), none⟩,
    ⟨none, .e (.store 1 (.t 37) (.v (.int .i64 20))) [], none⟩] [0, 3])
  (.seq (.ops [⟨some 38, .q (.addr 4 (.t 3)), none⟩,
    ⟨none, .e (.store 1 (.t 38) (.v (.int .i64 1))) [], none⟩] [0, 3])
  (.seq (.ops [⟨some 39, .q (.mov (.t 0)), none⟩,
    ⟨some 40, .q (.load (some 6) (.t 3)), none⟩,
    ⟨some 41, .e (.call 85 [.t 39, .t 40]) [], none⟩,
    ⟨some 2, .e (.set (.t 41)) [], none⟩] [2])
  (.ret)))) (.skip)))
  (.seq (.ops [⟨some 42, .q (.mov (.t 0)), none⟩,
    ⟨some 43, .e (.call 140 [.t 42, .v (.str [40])]) [], none⟩,
    ⟨some 7, .e (.set (.t 43)) [], none⟩] [0, 3, 7])
  (.seq (.ops [⟨some 44, .q (.mov (.t 7)), none⟩] [0, 3, 44])
  (.cond (.t 44) (.seq (.ops [⟨some 45, .q (.mov (.t 0)), none⟩,
    ⟨some 46, .q (.load (some 6) (.t 3)), none⟩,
    ⟨some 47, .e (.call 143 [.t 45, .t 46]) [], none⟩,
    ⟨some 2, .e (.set (.t 47)) [], none⟩] [2])
  (.ret)) (.skip)))))) (.skip)))
  (.seq (.ops [⟨some 48, .q (.mov (.t 0)), none⟩,
    ⟨some 49, .e (.call 141 [.t 48, .v (.str [91])]) [], none⟩] [0, 3])
  (.seq (.ops [⟨some 50, .q (.mov (.t 0)), none⟩,
    ⟨some 51, .e (.call 142 [.t 50, .v (.int .i64 3)]) [], none⟩,
    ⟨some 8, .e (.alloc 56 [.int .i64 0, .int .i64 0, .str [], .int .i64 0]) [], none⟩,
    ⟨none, .e (.store 4 (.t 8) (.t 51)) [], none⟩] [0, 3, 8])
  (.seq (.ops [⟨some 52, .q (.addr 3 (.t 8)), none⟩,
    ⟨some 53, .q (.load none (.t 52)), none⟩,
    ⟨some 54, .q (.addr 3 (.t 3)), none⟩,
    ⟨none, .e (.store 1 (.t 54) (.t 53)) [], none⟩] [0, 3])
  (.seq (.ops [⟨some 55, .q (.mov (.t 0)), none⟩,
    ⟨some 56, .e (.call 141 [.t 55, .v (.str [93])]) [], none⟩] [0, 3])
  (.seq (.ops [⟨some 57, .q (.mov (.t 0)), none⟩,
    ⟨some 58, .e (.call 141 [.t 57, .v (.str [59])]) [], none⟩] [0, 3])
  (.seq (.ops [⟨some 59, .q (.mov (.t 0)), none⟩,
    ⟨some 60, .q (.load (some 6) (.t 3)), none⟩,
    ⟨some 61, .e (.call 85 [.t 59, .t 60]) [], none⟩,
    ⟨some 2, .e (.set (.t 61)) [], none⟩] [2])
  (.ret))))))))))))), [.slot 2]⟩
/-- '(*binnacle/binnacleref17.Reader).node' -/
def i85 : IFunc := ⟨.seq (.ops [⟨some 3, .e (.box 47 (.t 1)) [], none⟩,
    ⟨some 4, .e (.set (.v (.int .i64 0))) [], none⟩] [0, 3])
  (.seq (.seq (.ops [⟨some 5, .q (.mov (.t 0)), none⟩,
    ⟨some 6, .q (.nilc (.t 5)), none⟩,
    ⟨some 7, .q (.addr 4 (.t 6)), none⟩,
    ⟨some 8, .q (.load none (.t 7)), none⟩,
    ⟨some 9, .q (.bin .neq (.t 8) (.v (.int .i64 0))), none⟩] [0, 3, 9])
  (.cond (.t 9) (.seq (.ops [⟨some 4, .e (.set (.v (.int .i64 0))) [], none⟩] [4])
  (.ret)) (.skip)))
  (.seq (.seq (.ops [⟨some 10, .q (.mov (.t 0)), none⟩,
    ⟨some 11, .q (.nilc (.t 10)), none⟩,
    ⟨some 12, .q (.addr 2 (.t 11)), none⟩,
    ⟨some 13, .q (.load none (.t 12)), none⟩,
    ⟨some 14, .q (.len .slice (.t 13)), none⟩,
    ⟨some 15, .q (.bin .geq (.t 14) (.v (.int .i64 4096))), none⟩] [0, 3, 15])
  (.cond (.t 15) (.seq (.ops [⟨some 16, .q (.mov (.t 0)), none⟩,
    ⟨some 17, .e (.call 83 [.t 16, .v (.int .i64 15)]) [], none⟩] [])
  (.seq (.ops [⟨some 4, .e (.set (.v (.int .i64 0))) [], none⟩] [4])
  (.ret))) (.skip)))
  (.seq (.ops [⟨some 18, .q (.mov (.t 0)), none⟩,
    ⟨some 19, .q (.mov (.t 0)), none⟩,
    ⟨some 20, .q (.nilc (.t 19)), none⟩,
    ⟨some 21, .q (.addr 2 (.t 20)), none⟩,
    ⟨some 22, .q (.load none (.t 21)), none⟩,
    ⟨some 23, .q (.load (some 6) (.t 3)), none⟩,
    ⟨some 24, .e (.bslice 47 6 1 [.int .i64 0, .int .i64 0, .str [], .int .i64 0, .int .i64 0, .nilslice] [(0, 6, .t 23)]) [], none⟩,
    ⟨some 25, .e (.append 47 6 72 (.t 22) (.t 24)) [], none⟩,
    ⟨some 26, .q (.nilc (.t 18)), none⟩,
    ⟨some 27, .q (.addr 2 (.t 26)), none⟩,
    ⟨none, .e (.store 1 (.t 27) (.t 25)) [], none⟩] [0])
  (.seq (.ops [⟨some 28, .q (.mov (.t 0)), none⟩,
    ⟨some 29, .q (.nilc (.t 28)), none⟩,
    ⟨some 30, .q (.addr 2 (.t 29)), none⟩,
    ⟨some 31, .q (.load none (.t 30)), none⟩,
    ⟨some 32, .q (.len .slice (.t 31)), none⟩,
    ⟨some 33, .q (.bin .sub (.t 32) (.v (.int .i64 1))), none⟩,
    ⟨some 4, .e (.set (.t 33)) [], none⟩] [4])
  (.ret))))), [.slot 4]⟩
/-- 'binnacle/sort.built' -/
def i86 : IFunc := ⟨.seq (.ops [⟨some 0, .e (.set (.v (.nilslice))) [], none⟩] [])
  (.seq (.ops [⟨some 1, .q (.build [.int .i64 0, .int .i64 0, .int .i64 0, .int .i64 0, .str []] [(0, 1, .v (.int .i64 5)), (4, 1, .v (.str [112, 117, 116])), (1, 1, .v (.int .i64 1)), (2, 1, .v (.int .i64 1)), (3, 1, .v (.int .i64 (-1)))]), none⟩,
    ⟨some 2, .q (.build [.int .i64 0, .int .i64 0, .int .i64 0, .int .i64 0, .str []] [(0, 1, .v (.int .i64 5)), (4, 1, .v (.str [103, 101, 116])), (1, 1, .v (.int .i64 1)), (3, 1, .v (.int .i64 (-1)))]), none⟩,
    ⟨some 3, .q (.build [.int .i64 0, .int .i64 0, .int .i64 0, .int .i64 0, .str []] [(0, 1, .v (.int .i64 5)), (4, 1, .v (.str [101, 120, 105, 116])), (1, 1, .v (.int .i64 1)), (2, 1, .v (.int .i64 1)), (3, 1, .v (.int .i64 (-1)))]), none⟩,
    ⟨some 4, .q (.build [.int .i64 0, .int .i64 0, .int .i64 0, .int .i64 0, .str []] [(0, 1, .v (.int .i64 5)), (4, 1, .v (.str [97, 114, 103, 115])), (1, 1, .v (.int .i64 1)), (3, 1, .v (.int .i64 (-1)))]), none⟩,
    ⟨some 5, .q (.build [.int .i64 0, .int .i64 0, .int .i64 0, .int .i64 0, .str []] [(0, 1, .v (.int .i64 5)), (4, 1, .v (.str [97, 114, 103])), (1, 1, .v (.int .i64 2)), (2, 1, .v (.int .i64 1)), (3, 1, .v (.int .i64 (-1)))]), none⟩,
    ⟨some 6, .q (.build [.int .i64 0, .int .i64 0, .int .i64 0, .int .i64 0, .str []] [(0, 1, .v (.int .i64 5)), (4, 1, .v (.str [115, 121, 115])), (1, 1, .v (.int .i64 1)), (2, 1, .v (.int .i64 4)), (3, 1, .v (.int .i64 (-1)))]), none⟩,
    ⟨some 7, .q (.build [.int .i64 0, .int .i64 0, .int .i64 0, .int .i64 0, .str []] [(0, 1, .v (.int .i64 5)), (4, 1, .v (.str [97, 100, 114])), (1, 1, .v (.int .i64 1)), (2, 1, .v (.int .i64 1)), (3, 1, .v (.int .i64 (-1)))]), none⟩,
    ⟨some 8, .e (.bslice 49 5 7 [.int .i64 0, .int .i64 0, .int .i64 0, .int .i64 0, .str []] [(0, 5, .t 1), (5, 5, .t 2), (10, 5, .t 3), (15, 5, .t 4), (20, 5, .t 5), (25, 5, .t 6), (30, 5, .t 7)]) [], none⟩,
    ⟨some 0, .e (.set (.t 8)) [], none⟩] [0])
  (.ret)), [.slot 0]⟩
/-- '(*binnacle/sort.checker).add' -/
def i87 : IFunc := ⟨.seq (.ops [⟨some 3, .e (.box 49 (.t 1)) [], none⟩,
    ⟨some 4, .e (.set (.v (.int .i64 0))) [], none⟩] [0, 3])
  (.seq (.ops [⟨some 5, .q (.mov (.t 0)), none⟩,
    ⟨some 6, .q (.mov (.t 0)), none⟩,
    ⟨some 7, .q (.nilc (.t 6)), none⟩,
    ⟨some 8, .q (.addr 1 (.t 7)), none⟩,
    ⟨some 9, .q (.addr 0 (.t 8)), none⟩,
    ⟨some 10, .q (.load none (.t 9)), none⟩,
    ⟨some 11, .q (.load (some 5) (.t 3)), none⟩,
    ⟨some 12, .e (.bslice 49 5 1 [.int .i64 0, .int .i64 0, .int .i64 0, .int .i64 0, .str []] [(0, 5, .t 11)]) [], none⟩,
    ⟨some 13, .e (.append 49 5 48 (.t 10) (.t 12)) [], none⟩,
    ⟨some 14, .q (.nilc (.t 5)), none⟩,
    ⟨some 15, .q (.addr 1 (.t 14)), none⟩,
    ⟨some 16, .q (.addr 0 (.t 15)), none⟩,
    ⟨none, .e (.store 1 (.t 16) (.t 13)) [], none⟩] [0])
  (.seq (.ops [⟨some 17, .q (.mov (.t 0)), none⟩,
    ⟨some 18, .q (.nilc (.t 17)), none⟩,
    ⟨some 19, .q (.addr 1 (.t 18)), none⟩,
    ⟨some 20, .q (.addr 0 (.t 19)), none⟩,
    ⟨some 21, .q (.load none (.t 20)), none⟩,
    ⟨some 22, .q (.len .slice (.t 21)), none⟩,
    ⟨some 23, .q (.bin .sub (.t 22) (.v (.int .i64 1))), none⟩,
    ⟨some 4, .e (.set (.t 23)) [], none⟩] [4])
  (.ret))), [.slot 4]⟩
/-- 'binnacle/sort.declared' -/
def i88 : IFunc := ⟨.seq (.ops [⟨some 2, .e (.box 47 (.t 0)) [], none⟩,
    ⟨some 4, .e (.alloc 49 [.int .i64 0, .int .i64 0, .int .i64 0, .int .i64 0, .str []]) [], none⟩,
    ⟨some 5, .e (.set (.v (.bool false))) [], none⟩] [1, 2, 4])
  (.seq (.ops [⟨some 7, .q (.addr 2 (.t 2)), none⟩,
    ⟨some 8, .q (.load none (.t 7)), none⟩,
    ⟨some 9, .q (.mov (.t 1)), none⟩,
    ⟨some 10, .q (.build [.int .i64 0, .int .i64 0, .int .i64 0, .int .i64 0, .str []] [(4, 1, .t 8), (3, 1, .t 9)]), none⟩,
    ⟨some 6, .e (.alloc 49 [.int .i64 0, .int .i64 0, .int .i64 0, .int .i64 0, .str []]) [], none⟩,
    ⟨none, .e (.store 5 (.t 6) (.t 10)) [], none⟩] [2, 4, 6])
  (.seq (.seq (.ops [⟨some 11, .q (.addr 0 (.t 2)), none⟩,
    ⟨some 12, .q (.load none (.t 11)), none⟩] [2, 4, 6, 12])
  (.block 0 (.seq (.ops [⟨some 15, .q (.bin .eql (.t 12) (.v (.int .i64 20))), none⟩,
    ⟨some 14, .e (.set (.t 15)) [], none⟩] [2, 4, 6, 12, 14])
  (.cond (.t 14) (.ops [⟨some 16, .q (.addr 0 (.t 6)), none⟩,
    ⟨none, .e (.store 1 (.t 16) (.v (.int .i64 1))) [], none⟩,
    ⟨some 17, .q (.addr 1 (.t 6)), none⟩,
    ⟨none, .e (.store 1 (.t 17) (.v (.int .i64 1))) [], none⟩] [4, 6]) (.seq (.ops [⟨some 19, .q (.bin .eql (.t 12) (.v (.int .i64 21))), none⟩,
    ⟨some 18, .e (.set (.t 19)) [], none⟩] [2, 4, 6, 12, 18])
  (.cond (.t 18) (.ops [⟨some 20, .q (.addr 4 (.t 2)), none⟩,
    ⟨some 21, .q (.load none (.t 20)), none⟩,
    ⟨some 22, .q (.addr 3 (.t 2)), none⟩,
    ⟨some 23, .q (.load none (.t 22)), none⟩,
    ⟨some 24, .q (.addr 0 (.t 6)), none⟩,
    ⟨none, .e (.store 1 (.t 24) (.v (.int .i64 2))) [(23, .load none (.t 22)), (21, .load none (.t 20))], none⟩,
    ⟨some 25, .q (.addr 1 (.t 6)), none⟩,
    ⟨none, .e (.store 1 (.t 25) (.t 21)) [(23, .load none (.t 22))], none⟩,
    ⟨some 26, .q (.addr 2 (.t 6)), none⟩,
    ⟨none, .e (.store 1 (.t 26) (.t 23)) [], none⟩] [4, 6]) (.seq (.ops [⟨some 28, .q (.bin .eql (.t 12) (.v (.int .i64 22))), none⟩,
    ⟨some 27, .e (.set (.t 28)) [], none⟩] [2, 4, 6, 27])
  (.cond (.t 27) (.ops [⟨some 29, .q (.addr 4 (.t 2)), none⟩,
    ⟨some 30, .q (.load none (.t 29)), none⟩,
    ⟨some 31, .q (.addr 0 (.t 6)), none⟩,
    ⟨none, .e (.store 1 (.t 31) (.v (.int .i64 3))) [(30, .load none (.t 29))], none⟩,
    ⟨some 32, .q (.addr 1 (.t 6)), none⟩,
    ⟨none, .e (.store 1 (.t 32) (.v (.int .i64 1))) [(30, .load none (.t 29))], none⟩,
    ⟨some 33, .q (.addr 2 (.t 6)), none⟩,
    ⟨none, .e (.store 1 (.t 33) (.t 30)) [], none⟩] [4, 6]) (.seq (.ops [⟨some 13, .q (.build [.int .i64 0, .int .i64 0, .int .i64 0, .int .i64 0, .str []] []), none⟩,
    ⟨none, .e (.store 5 (.t 4) (.t 13)) [], none⟩,
    ⟨some 5, .e (.set (.v (.bool false))) [], none⟩] [4, 5])
  (.ret))))))))))
  (.seq (.ops [⟨some 34, .q (.load (some 5) (.t 6)), none⟩,
    ⟨none, .e (.store 5 (.t 4) (.t 34)) [], none⟩,
    ⟨some 5, .e (.set (.v (.bool true))) [], none⟩] [4, 5])
  (.ret)))), [.cell 4 (some 5), .slot 5]⟩
/-- '(*binnacle/sort.checker).number' -/
def i89 : IFunc := ⟨.seq (.ops [⟨some 4, .e (.set (.v (.int .i64 0))) [], none⟩] [0, 1])
  (.seq (.ops [⟨some 5, .q (.mov (.t 0)), none⟩,
    ⟨some 6, .q (.nilc (.t 5)), none⟩,
    ⟨some 7, .q (.addr 1 (.t 6)), none⟩,
    ⟨some 8, .q (.addr 2 (.t 7)), none⟩,
    ⟨some 9, .q (.load none (.t 8)), none⟩,
    ⟨some 10, .q (.mov (.t 1)), none⟩,
    ⟨some 11, .q (.ixSl 1 (.t 9) (.t 10)), none⟩,
    ⟨none, .e (.store 1 (.t 11) (.v (.int .i64 1))) [], none⟩] [])
  (.seq (.ops [⟨some 4, .e (.set (.v (.int .i64 0))) [], none⟩] [4])
  (.ret))), [.slot 4]⟩
/-- '(*binnacle/sort.checker).text' -/
def i90 : IFunc := ⟨.seq (.ops [⟨some 4, .e (.set (.v (.int .i64 0))) [], none⟩] [0, 1])
  (.seq (.ops [⟨some 5, .q (.mov (.t 0)), none⟩,
    ⟨some 6, .q (.nilc (.t 5)), none⟩,
    ⟨some 7, .q (.addr 1 (.t 6)), none⟩,
    ⟨some 8, .q (.addr 2 (.t 7)), none⟩,
    ⟨some 9, .q (.load none (.t 8)), none⟩,
    ⟨some 10, .q (.mov (.t 1)), none⟩,
    ⟨some 11, .q (.ixSl 1 (.t 9) (.t 10)), none⟩,
    ⟨none, .e (.store 1 (.t 11) (.v (.int .i64 2))) [], none⟩] [])
  (.seq (.ops [⟨some 4, .e (.set (.v (.int .i64 0))) [], none⟩] [4])
  (.ret))), [.slot 4]⟩
/-- '(*binnacle/sort.checker).name' -/
def i91 : IFunc := ⟨.seq (.ops [⟨some 4, .e (.set (.v (.int .i64 0))) [], none⟩] [0, 1])
  (.seq (.ops [⟨some 7, .q (.mov (.t 0)), none⟩,
    ⟨some 8, .q (.mov (.t 1)), none⟩,
    ⟨some 9, .e (.call 144 [.t 7, .t 8]) [], none⟩,
    ⟨some 5, .e (.set (.t 9)) [], none⟩] [0, 1, 5])
  (.seq (.seq (.ops [⟨some 10, .q (.mov (.t 5)), none⟩,
    ⟨some 11, .q (.bin .lss (.t 10) (.v (.int .i64 0))), none⟩] [0, 1, 5, 11])
  (.cond (.t 11) (.seq (.ops [⟨some 4, .e (.set (.v (.int .i64 16))) [], none⟩] [4])
  (.ret)) (.skip)))
  (.seq (.ops [⟨some 12, .q (.mov (.t 0)), none⟩,
    ⟨some 13, .q (.nilc (.t 12)), none⟩,
    ⟨some 14, .q (.addr 1 (.t 13)), none⟩,
    ⟨some 15, .q (.addr 0 (.t 14)), none⟩,
    ⟨some 16, .q (.load none (.t 15)), none⟩,
    ⟨some 17, .q (.mov (.t 5)), none⟩,
    ⟨some 18, .q (.ixSl 5 (.t 16) (.t 17)), none⟩,
    ⟨some 19, .q (.load (some 5) (.t 18)), none⟩,
    ⟨some 6, .e (.alloc 49 [.int .i64 0, .int .i64 0, .int .i64 0, .int .i64 0, .str []]) [], none⟩,
    ⟨none, .e (.store 5 (.t 6) (.t 19)) [], none⟩] [0, 1, 5, 6])
  (.seq (.ops [⟨some 20, .q (.mov (.t 0)), none⟩,
    ⟨some 21, .q (.nilc (.t 20)), none⟩,
    ⟨some 22, .q (.addr 1 (.t 21)), none⟩,
    ⟨some 23, .q (.addr 1 (.t 22)), none⟩,
    ⟨some 24, .q (.load none (.t 23)), none⟩,
    ⟨some 25, .q (.mov (.t 1)), none⟩,
    ⟨some 26, .q (.mov (.t 0)), none⟩,
    ⟨some 27, .q (.nilc (.t 26)), none⟩,
    ⟨some 28, .q (.addr 1 (.t 27)), none⟩,
    ⟨some 29, .q (.addr 2 (.t 28)), none⟩,
    ⟨some 30, .q (.load none (.t 29)), none⟩,
    ⟨some 31, .q (.mov (.t 1)), none⟩,
    ⟨some 32, .q (.mov (.t 5)), none⟩,
    ⟨some 33, .q (.addr 1 (.t 6)), none⟩,
    ⟨some 34, .q (.load none (.t 33)), none⟩,
    ⟨some 35, .q (.ixSl 1 (.t 24) (.t 25)), none⟩,
    ⟨none, .e (.store 1 (.t 35) (.t 32)) [(34, .load none (.t 33))], none⟩,
    ⟨some 36, .q (.ixSl 1 (.t 30) (.t 31)), none⟩,
    ⟨none, .e (.store 1 (.t 36) (.t 34)) [], none⟩] [6])
  (.seq (.ops [⟨some 37, .q (.addr 0 (.t 6)), none⟩,
    ⟨some 38, .q (.load none (.t 37)), none⟩,
    ⟨some 39, .q (.bin .neq (.t 38) (.v (.int .i64 3))), none⟩,
    ⟨some 40, .q (.mov (.t 39)), none⟩,
    ⟨some 41, .q (.addr 0 (.t 6)), some (40, true)⟩,
    ⟨some 42, .q (.load none (.t 41)), some (40, true)⟩,
    ⟨some 43, .q (.bin .neq (.t 42) (.v (.int .i64 5))), some (40, true)⟩,
    ⟨some 44, .q (.pick (.t 40) (.t 43) (.v (.bool false))), none⟩,
    ⟨some 45, .e (.call 145 [.t 44]) [], none⟩,
    ⟨some 4, .e (.set (.t 45)) [], none⟩] [4])
  (.ret)))))), [.slot 4]⟩
/-- '(*binnacle/sort.checker).call' -/
def i92 : IFunc := ⟨.seq (.ops [⟨some 4, .e (.set (.v (.int .i64 0))) [], none⟩] [0, 1])
  (.seq (.ops [⟨some 9, .q (.mov (.t 0)), none⟩,
    ⟨some 10, .q (.mov (.t 1)), none⟩,
    ⟨some 11, .e (.call 144 [.t 9, .t 10]) [], none⟩,
    ⟨some 5, .e (.set (.t 11)) [], none⟩] [0, 1, 5])
  (.seq (.seq (.ops [⟨some 12, .q (.mov (.t 5)), none⟩,
    ⟨some 13, .q (.bin .lss (.t 12) (.v (.int .i64 0))), none⟩] [0, 1, 5, 13])
  (.cond (.t 13) (.seq (.ops [⟨some 4, .e (.set (.v (.int .i64 16))) [], none⟩] [4])
  (.ret)) (.skip)))
  (.seq (.ops [⟨some 14, .q (.mov (.t 0)), none⟩,
    ⟨some 15, .q (.nilc (.t 14)), none⟩,
    ⟨some 16, .q (.addr 1 (.t 15)), none⟩,
    ⟨some 17, .q (.addr 0 (.t 16)), none⟩,
    ⟨some 18, .q (.load none (.t 17)), none⟩,
    ⟨some 19, .q (.mov (.t 5)), none⟩,
    ⟨some 20, .q (.ixSl 5 (.t 18) (.t 19)), none⟩,
    ⟨some 21, .q (.load (some 5) (.t 20)), none⟩,
    ⟨some 6, .e (.alloc 49 [.int .i64 0, .int .i64 0, .int .i64 0, .int .i64 0, .str []]) [], none⟩,
    ⟨none, .e (.store 5 (.t 6) (.t 21)) [], none⟩] [0, 1, 5, 6])
  (.seq (.ops [⟨some 22, .q (.mov (.t 0)), none⟩,
    ⟨some 23, .q (.nilc (.t 22)), none⟩,
    ⟨some 24, .q (.addr 1 (.t 23)), none⟩,
    ⟨some 25, .q (.addr 1 (.t 24)), none⟩,
    ⟨some 26, .q (.load none (.t 25)), none⟩,
    ⟨some 27, .q (.mov (.t 1)), none⟩,
    ⟨some 28, .q (.mov (.t 0)), none⟩,
    ⟨some 29, .q (.nilc (.t 28)), none⟩,
    ⟨some 30, .q (.addr 1 (.t 29)), none⟩,
    ⟨some 31, .q (.addr 2 (.t 30)), none⟩,
    ⟨some 32, .q (.load none (.t 31)), none⟩,
    ⟨some 33, .q (.mov (.t 1)), none⟩,
    ⟨some 34, .q (.mov (.t 5)), none⟩,
    ⟨some 35, .q (.addr 1 (.t 6)), none⟩,
    ⟨some 36, .q (.load none (.t 35)), none⟩,
    ⟨some 37, .q (.ixSl 1 (.t 26) (.t 27)), none⟩,
    ⟨none, .e (.store 1 (.t 37) (.t 34)) [(36, .load none (.t 35))], none⟩,
    ⟨some 38, .q (.ixSl 1 (.t 32) (.t 33)), none⟩,
    ⟨none, .e (.store 1 (.t 38) (.t 36)) [], none⟩] [0, 1, 6])
  (.seq (.seq (.ops [⟨some 39, .q (.addr 0 (.t 6)), none⟩,
    ⟨some 40, .q (.load none (.t 39)), none⟩,
    ⟨some 41, .q (.bin .neq (.t 40) (.v (.int .i64 3))), none⟩,
    ⟨some 42, .q (.mov (.t 41)), none⟩,
    ⟨some 43, .q (.addr 0 (.t 6)), some (42, true)⟩,
    ⟨some 44, .q (.load none (.t 43)), some (42, true)⟩,
    ⟨some 45, .q (.bin .neq (.t 44) (.v (.int .i64 5))), some (42, true)⟩,
    ⟨some 46, .q (.pick (.t 42) (.t 45) (.v (.bool false))), none⟩,
    ⟨some 47, .q (.mov (.t 46)), none⟩,
    ⟨some 48, .q (.mov (.t 0)), some (47, false)⟩,
    ⟨some 49, .q (.nilc (.t 48)), some (47, false)⟩,
    ⟨some 50, .q (.addr 0 (.t 49)), some (47, false)⟩,
    ⟨some 51, .q (.load none (.t 50)), some (47, false)⟩,
    ⟨some 52, .q (.mov (.t 1)), some (47, false)⟩,
    ⟨some 53, .q (.ixSl 6 (.t 51) (.t 52)), some (47, false)⟩,
    ⟨some 54, .q (.addr 5 (.t 53)), some (47, false)⟩,
    ⟨some 55, .q (.load none (.t 54)), some (47, false)⟩,
    ⟨some 56, .q (.len .slice (.t 55)), some (47, false)⟩,
    ⟨some 57, .q (.addr 2 (.t 6)), some (47, false)⟩,
    ⟨some 58, .q (.load none (.t 57)), some (47, false)⟩,
    ⟨some 59, .q (.bin .neq (.t 56) (.t 58)), some (47, false)⟩,
    ⟨some 60, .q (.pick (.t 47) (.v (.bool true)) (.t 59)), none⟩] [0, 1, 6, 60])
  (.cond (.t 60) (.seq (.ops [⟨some 4, .e (.set (.v (.int .i64 14))) [], none⟩] [4])
  (.ret)) (.skip)))
  (.seq (.seq (.ops [⟨some 61, .q (.mov (.t 0)), none⟩,
    ⟨some 62, .q (.nilc (.t 61)), none⟩,
    ⟨some 63, .q (.addr 0 (.t 62)), none⟩,
    ⟨some 64, .q (.load none (.t 63)), none⟩,
    ⟨some 65, .q (.mov (.t 1)), none⟩,
    ⟨some 66, .q (.ixSl 6 (.t 64) (.t 65)), none⟩,
    ⟨some 67, .q (.addr 5 (.t 66)), none⟩,
    ⟨some 68, .q (.load none (.t 67)), none⟩,
    ⟨some 69, .q (.len .slice (.t 68)), none⟩,
    ⟨some 70, .q (.mov (.v (.int .i64 0))), none⟩] [0, 1, 6, 69, 70])
  (.block 0 (.loop [0, 1, 6, 69, 70] (.seq (.ops [⟨some 71, .q (.bin .lss (.t 70) (.t 69)), none⟩] [0, 1, 6, 69, 70, 71])
  (.seq (.cond (.t 71) (.skip) (.exit 0))
  (.seq (.block 1 (.seq (.ops [⟨some 72, .q (.mov (.t 70)), none⟩,
    ⟨some 7, .e (.set (.t 72)) [], none⟩] [0, 1, 6, 7, 69, 70])
  (.seq (.ops [⟨some 73, .q (.mov (.t 0)), none⟩,
    ⟨some 74, .q (.load (some 5) (.t 6)), none⟩,
    ⟨some 75, .q (.mov (.t 7)), none⟩,
    ⟨some 76, .e (.call 146 [.t 73, .t 74, .t 75]) [], none⟩,
    ⟨some 8, .e (.set (.t 76)) [], none⟩] [0, 1, 6, 7, 8, 69, 70])
  (.seq (.ops [⟨some 77, .q (.mov (.t 8)), none⟩,
    ⟨some 78, .q (.bin .neq (.t 77) (.v (.int .i64 0))), none⟩,
    ⟨some 79, .q (.mov (.t 78)), none⟩,
    ⟨some 80, .q (.mov (.t 8)), some (79, true)⟩,
    ⟨some 81, .q (.mov (.t 0)), some (79, true)⟩,
    ⟨some 82, .q (.mov (.t 1)), some (79, true)⟩,
    ⟨some 83, .q (.mov (.t 7)), some (79, true)⟩,
    ⟨some 84, .e (.call 147 [.t 81, .t 82, .t 83]) [], some (79, true)⟩,
    ⟨some 85, .q (.bin .neq (.t 80) (.t 84)), some (79, true)⟩,
    ⟨some 86, .q (.pick (.t 79) (.t 85) (.v (.bool false))), none⟩] [0, 1, 6, 69, 70, 86])
  (.cond (.t 86) (.seq (.ops [⟨some 4, .e (.set (.v (.int .i64 14))) [], none⟩] [4])
  (.ret)) (.skip))))))
  (.ops [⟨some 87, .q (.bin .add (.t 70) (.v (.int .i64 1))), none⟩,
    ⟨some 70, .q (.mov (.t 87)), none⟩] [0, 1, 6, 69, 70])))))))
  (.seq (.ops [⟨some 4, .e (.set (.v (.int .i64 0))) [], none⟩] [4])
  (.ret)))))))), [.slot 4]⟩
/-- '(*binnacle/sort.checker).index' -/
def i93 : IFunc := ⟨.seq (.ops [⟨some 4, .e (.set (.v (.int .i64 0))) [], none⟩] [0, 1])
  (.seq (.ops [⟨some 5, .q (.mov (.t 0)), none⟩,
    ⟨some 6, .q (.nilc (.t 5)), none⟩,
    ⟨some 7, .q (.addr 1 (.t 6)), none⟩,
    ⟨some 8, .q (.addr 2 (.t 7)), none⟩,
    ⟨some 9, .q (.load none (.t 8)), none⟩,
    ⟨some 10, .q (.mov (.t 1)), none⟩,
    ⟨some 11, .q (.ixSl 1 (.t 9) (.t 10)), none⟩,
    ⟨none, .e (.store 1 (.t 11) (.v (.int .i64 1))) [], none⟩] [0, 1])
  (.seq (.ops [⟨some 12, .q (.mov (.t 0)), none⟩,
    ⟨some 13, .q (.mov (.t 1)), none⟩,
    ⟨some 14, .e (.call 147 [.t 12, .t 13, .v (.int .i64 0)]) [], none⟩,
    ⟨some 15, .e (.call 148 [.t 14]) [], none⟩,
    ⟨some 16, .q (.mov (.t 15)), none⟩,
    ⟨some 17, .q (.mov (.t 0)), some (16, true)⟩,
    ⟨some 18, .q (.mov (.t 1)), some (16, true)⟩,
    ⟨some 19, .e (.call 147 [.t 17, .t 18, .v (.int .i64 1)]) [], some (16, true)⟩,
    ⟨some 20, .q (.bin .eql (.t 19) (.v (.int .i64 1))), some (16, true)⟩,
    ⟨some 21, .q (.pick (.t 16) (.t 20) (.v (.bool false))), none⟩,
    ⟨some 22, .e (.call 145 [.t 21]) [], none⟩,
    ⟨some 4, .e (.set (.t 22)) [], none⟩] [4])
  (.ret))), [.slot 4]⟩
/-- '(*binnacle/sort.checker).unary' -/
def i94 : IFunc := ⟨.seq (.ops [⟨some 4, .e (.set (.v (.int .i64 0))) [], none⟩] [0, 1])
  (.seq (.ops [⟨some 5, .q (.mov (.t 0)), none⟩,
    ⟨some 6, .q (.nilc (.t 5)), none⟩,
    ⟨some 7, .q (.addr 1 (.t 6)), none⟩,
    ⟨some 8, .q (.addr 2 (.t 7)), none⟩,
    ⟨some 9, .q (.load none (.t 8)), none⟩,
    ⟨some 10, .q (.mov (.t 1)), none⟩,
    ⟨some 11, .q (.ixSl 1 (.t 9) (.t 10)), none⟩,
    ⟨none, .e (.store 1 (.t 11) (.v (.int .i64 1))) [], none⟩] [0, 1])
  (.seq (.ops [⟨some 12, .q (.mov (.t 0)), none⟩,
    ⟨some 13, .q (.mov (.t 1)), none⟩,
    ⟨some 14, .e (.call 147 [.t 12, .t 13, .v (.int .i64 0)]) [], none⟩,
    ⟨some 15, .q (.bin .eql (.t 14) (.v (.int .i64 1))), none⟩,
    ⟨some 16, .e (.call 145 [.t 15]) [], none⟩,
    ⟨some 4, .e (.set (.t 16)) [], none⟩] [4])
  (.ret))), [.slot 4]⟩
/-- '(*binnacle/sort.checker).binary' -/
def i95 : IFunc := ⟨.seq (.ops [⟨some 4, .e (.set (.v (.int .i64 0))) [], none⟩] [0, 1])
  (.seq (.ops [⟨some 6, .q (.mov (.t 0)), none⟩,
    ⟨some 7, .q (.nilc (.t 6)), none⟩,
    ⟨some 8, .q (.addr 1 (.t 7)), none⟩,
    ⟨some 9, .q (.addr 2 (.t 8)), none⟩,
    ⟨some 10, .q (.load none (.t 9)), none⟩,
    ⟨some 11, .q (.mov (.t 1)), none⟩,
    ⟨some 12, .q (.ixSl 1 (.t 10) (.t 11)), none⟩,
    ⟨none, .e (.store 1 (.t 12) (.v (.int .i64 1))) [], none⟩] [0, 1])
  (.seq (.ops [⟨some 13, .q (.mov (.t 0)), none⟩,
    ⟨some 14, .q (.mov (.t 1)), none⟩,
    ⟨some 15, .e (.call 147 [.t 13, .t 14, .v (.int .i64 0)]) [], none⟩,
    ⟨some 5, .e (.set (.t 15)) [], none⟩] [0, 1, 5])
  (.seq (.seq (.ops [⟨some 16, .q (.mov (.t 0)), none⟩,
    ⟨some 17, .q (.nilc (.t 16)), none⟩,
    ⟨some 18, .q (.addr 0 (.t 17)), none⟩,
    ⟨some 19, .q (.load none (.t 18)), none⟩,
    ⟨some 20, .q (.mov (.t 1)), none⟩,
    ⟨some 21, .q (.ixSl 6 (.t 19) (.t 20)), none⟩,
    ⟨some 22, .q (.addr 3 (.t 21)), none⟩,
    ⟨some 23, .q (.load none (.t 22)), none⟩,
    ⟨some 24, .q (.bin .eql (.t 23) (.v (.int .i64 7))), none⟩,
    ⟨some 25, .q (.mov (.t 24)), none⟩,
    ⟨some 26, .q (.mov (.t 5)), some (25, true)⟩,
    ⟨some 27, .e (.call 148 [.t 26]) [], some (25, true)⟩,
    ⟨some 28, .q (.pick (.t 25) (.t 27) (.v (.bool false))), none⟩] [0, 1, 5, 28])
  (.cond (.t 28) (.seq (.ops [⟨some 29, .q (.mov (.t 0)), none⟩,
    ⟨some 30, .q (.nilc (.t 29)), none⟩,
    ⟨some 31, .q (.addr 1 (.t 30)), none⟩,
    ⟨some 32, .q (.addr 2 (.t 31)), none⟩,
    ⟨some 33, .q (.load none (.t 32)), none⟩,
    ⟨some 34, .q (.mov (.t 1)), none⟩,
    ⟨some 35, .q (.mov (.t 5)), none⟩,
    ⟨some 36, .q (.ixSl 1 (.t 33) (.t 34)), none⟩,
    ⟨none, .e (.store 1 (.t 36) (.t 35)) [], none⟩] [0, 1])
  (.ops [⟨some 5, .e (.set (.v (.int .i64 1))) [], none⟩] [0, 1, 5])) (.skip)))
  (.seq (.ops [⟨some 37, .q (.mov (.t 5)), none⟩,
    ⟨some 38, .q (.bin .eql (.t 37) (.v (.int .i64 1))), none⟩,
    ⟨some 39, .q (.mov (.t 38)), none⟩,
    ⟨some 40, .q (.mov (.t 0)), some (39, true)⟩,
    ⟨some 41, .q (.mov (.t 1)), some (39, true)⟩,
    ⟨some 42, .e (.call 147 [.t 40, .t 41, .v (.int .i64 1)]) [], some (39, true)⟩,
    ⟨some 43, .q (.bin .eql (.t 42) (.v (.int .i64 1))), some (39, true)⟩,
    ⟨some 44, .q (.pick (.t 39) (.t 43) (.v (.bool false))), none⟩,
    ⟨some 45, .e (.call 145 [.t 44]) [], none⟩,
    ⟨some 4, .e (.set (.t 45)) [], none⟩] [4])
  (.ret))))), [.slot 4]⟩
/-- '(*binnacle/sort.checker).set' -/
def i96 : IFunc := ⟨.seq (.ops [⟨some 4, .e (.set (.v (.int .i64 0))) [], none⟩] [0, 1])
  (.seq (.ops [⟨some 7, .q (.mov (.t 0)), none⟩,
    ⟨some 8, .q (.nilc (.t 7)), none⟩,
    ⟨some 9, .q (.addr 0 (.t 8)), none⟩,
    ⟨some 10, .q (.load none (.t 9)), none⟩,
    ⟨some 11, .q (.mov (.t 1)), none⟩,
    ⟨some 12, .q (.ixSl 6 (.t 10) (.t 11)), none⟩,
    ⟨some 13, .q (.addr 5 (.t 12)), none⟩,
    ⟨some 14, .q (.load none (.t 13)), none⟩,
    ⟨some 15, .q (.ixSl 1 (.t 14) (.v (.int .i64 0))), none⟩,
    ⟨some 16, .q (.load none (.t 15)), none⟩,
    ⟨some 5, .e (.set (.t 16)) [], none⟩] [0, 1, 5])
  (.seq (.ops [⟨some 17, .q (.mov (.t 0)), none⟩,
    ⟨some 18, .q (.nilc (.t 17)), none⟩,
    ⟨some 19, .q (.addr 0 (.t 18)), none⟩,
    ⟨some 20, .q (.load none (.t 19)), none⟩,
    ⟨some 21, .q (.mov (.t 5)), none⟩,
    ⟨some 22, .q (.ixSl 6 (.t 20) (.t 21)), none⟩,
    ⟨some 23, .q (.addr 0 (.t 22)), none⟩,
    ⟨some 24, .q (.load none (.t 23)), none⟩,
    ⟨some 25, .q (.bin .eql (.t 24) (.v (.int .i64 3))), none⟩,
    ⟨some 26, .q (.mov (.t 25)), none⟩,
    ⟨some 27, .q (.mov (.t 0)), some (26, true)⟩,
    ⟨some 28, .q (.nilc (.t 27)), some (26, true)⟩,
    ⟨some 29, .q (.addr 1 (.t 28)), some (26, true)⟩,
    ⟨some 30, .q (.addr 0 (.t 29)), some (26, true)⟩,
    ⟨some 31, .q (.load none (.t 30)), some (26, true)⟩,
    ⟨some 32, .q (.mov (.t 0)), some (26, true)⟩,
    ⟨some 33, .q (.nilc (.t 32)), some (26, true)⟩,
    ⟨some 34, .q (.addr 1 (.t 33)), some (26, true)⟩,
    ⟨some 35, .q (.addr 1 (.t 34)), some (26, true)⟩,
    ⟨some 36, .q (.load none (.t 35)), some (26, true)⟩,
    ⟨some 37, .q (.mov (.t 5)), some (26, true)⟩,
    ⟨some 38, .q (.ixSl 1 (.t 36) (.t 37)), some (26, true)⟩,
    ⟨some 39, .q (.load none (.t 38)), some (26, true)⟩,
    ⟨some 40, .q (.ixSl 5 (.t 31) (.t 39)), some (26, true)⟩,
    ⟨some 41, .q (.addr 0 (.t 40)), some (26, true)⟩,
    ⟨some 42, .q (.load none (.t 41)), some (26, true)⟩,
    ⟨some 43, .q (.bin .eql (.t 42) (.v (.int .i64 2))), some (26, true)⟩,
    ⟨some 44, .q (.pick (.t 26) (.t 43) (.v (.bool false))), none⟩,
    ⟨some 6, .e (.set (.t 44)) [], none⟩] [0, 1, 6])
  (.seq (.ops [⟨some 45, .q (.mov (.t 6)), none⟩,
    ⟨some 46, .q (.un .not (.t 45)), none⟩,
    ⟨some 47, .q (.mov (.t 46)), none⟩,
    ⟨some 48, .q (.mov (.t 0)), some (47, true)⟩,
    ⟨some 49, .q (.mov (.t 1)), some (47, true)⟩,
    ⟨some 50, .e (.call 147 [.t 48, .t 49, .v (.int .i64 0)]) [], some (47, true)⟩,
    ⟨some 51, .q (.mov (.t 0)), some (47, true)⟩,
    ⟨some 52, .q (.mov (.t 1)), some (47, true)⟩,
    ⟨some 53, .e (.call 147 [.t 51, .t 52, .v (.int .i64 1)]) [], some (47, true)⟩,
    ⟨some 54, .q (.bin .eql (.t 50) (.t 53)), some (47, true)⟩,
    ⟨some 55, .q (.pick (.t 47) (.t 54) (.v (.bool false))), none⟩,
    ⟨some 56, .e (.call 145 [.t 55]) [], none⟩,
    ⟨some 4, .e (.set (.t 56)) [], none⟩] [4])
  (.ret)))), [.slot 4]⟩
/-- '(*binnacle/sort.checker).condition' -/
def i97 : IFunc := ⟨.seq (.ops [⟨some 4, .e (.set (.v (.int .i64 0))) [], none⟩] [0, 1])
  (.seq (.ops [⟨some 5, .q (.mov (.t 0)), none⟩,
    ⟨some 6, .q (.mov (.t 1)), none⟩,
    ⟨some 7, .e (.call 147 [.t 5, .t 6, .v (.int .i64 0)]) [], none⟩,
    ⟨some 8, .q (.bin .eql (.t 7) (.v (.int .i64 1))), none⟩,
    ⟨some 9, .e (.call 145 [.t 8]) [], none⟩,
    ⟨some 4, .e (.set (.t 9)) [], none⟩] [4])
  (.ret)), [.slot 4]⟩
/-- '(*binnacle/sort.checker).leaves' -/
def i98 : IFunc := ⟨.seq (.ops [⟨some 4, .e (.set (.v (.int .i64 0))) [], none⟩] [0, 1])
  (.seq (.seq (.ops [⟨some 5, .q (.mov (.t 0)), none⟩,
    ⟨some 6, .q (.nilc (.t 5)), none⟩,
    ⟨some 7, .q (.addr 5 (.t 6)), none⟩,
    ⟨some 8, .q (.load none (.t 7)), none⟩,
    ⟨some 9, .q (.mov (.t 1)), none⟩,
    ⟨some 10, .q (.ixSl 1 (.t 8) (.t 9)), none⟩,
    ⟨some 11, .q (.load none (.t 10)), none⟩,
    ⟨some 12, .q (.un .not (.t 11)), none⟩] [12])
  (.cond (.t 12) (.seq (.ops [⟨some 4, .e (.set (.v (.int .i64 13))) [], none⟩] [4])
  (.ret)) (.skip)))
  (.seq (.ops [⟨some 4, .e (.set (.v (.int .i64 0))) [], none⟩] [4])
  (.ret))), [.slot 4]⟩
/-- '(*binnacle/sort.checker).local' -/
def i99 : IFunc := ⟨.seq (.ops [⟨some 4, .e (.set (.v (.int .i64 0))) [], none⟩] [0, 1])
  (.seq (.ops [⟨some 12, .q (.mov (.t 0)), none⟩,
    ⟨some 13, .q (.nilc (.t 12)), none⟩,
    ⟨some 14, .q (.addr 0 (.t 13)), none⟩,
    ⟨some 15, .q (.load none (.t 14)), none⟩,
    ⟨some 16, .q (.mov (.t 1)), none⟩,
    ⟨some 17, .q (.ixSl 6 (.t 15) (.t 16)), none⟩,
    ⟨some 18, .q (.load (some 6) (.t 17)), none⟩,
    ⟨some 5, .e (.alloc 47 [.int .i64 0, .int .i64 0, .str [], .int .i64 0, .int .i64 0, .nilslice]) [], none⟩,
    ⟨none, .e (.store 6 (.t 5) (.t 18)) [], none⟩] [0, 1, 5])
  (.seq (.ops [⟨some 19, .q (.mov (.t 0)), none⟩,
    ⟨some 20, .q (.nilc (.t 19)), none⟩,
    ⟨some 21, .q (.addr 4 (.t 20)), none⟩,
    ⟨some 22, .q (.load none (.t 21)), none⟩,
    ⟨some 23, .q (.mov (.t 1)), none⟩,
    ⟨some 24, .q (.ixSl 1 (.t 22) (.t 23)), none⟩,
    ⟨some 25, .q (.load none (.t 24)), none⟩,
    ⟨some 26, .q (.iface 3 (.t 25)), none⟩,
    ⟨some 27, .q (.addr 2 (.t 5)), none⟩,
    ⟨some 28, .q (.load none (.t 27)), none⟩,
    ⟨some 29, .q (.iface 9 (.t 28)), none⟩,
    ⟨some 30, .q (.build [.nilIface, .nilIface] [(0, 1, .t 26), (1, 1, .t 29)]), none⟩,
    ⟨some 6, .e (.alloc 208 [.nilIface, .nilIface]) [], none⟩,
    ⟨none, .e (.store 2 (.t 6) (.t 30)) [], none⟩] [0, 1, 5, 6])
  (.seq (.seq (.ops [⟨some 32, .q (.mov (.t 0)), none⟩,
    ⟨some 33, .q (.nilc (.t 32)), none⟩,
    ⟨some 34, .q (.addr 7 (.t 33)), none⟩,
    ⟨some 35, .q (.load none (.t 34)), none⟩,
    ⟨some 36, .q (.load (some 2) (.t 6)), none⟩,
    ⟨some 37, .q (.lookup .pair (.int .i64 0) true (.t 35) (.t 36)), none⟩,
    ⟨some 31, .q (.mov (.t 37)), none⟩,
    ⟨some 38, .q (.extr 0 (.t 31)), none⟩,
    ⟨some 39, .q (.extr 1 (.t 31)), none⟩,
    ⟨some 7, .e (.set (.t 38)) [], none⟩,
    ⟨some 8, .e (.set (.t 39)) [], none⟩] [0, 1, 5, 6, 8])
  (.seq (.ops [⟨some 40, .q (.mov (.t 8)), none⟩] [0, 1, 5, 6, 40])
  (.cond (.t 40) (.seq (.ops [⟨some 4, .e (.set (.v (.int .i64 9))) [], none⟩] [4])
  (.ret)) (.skip))))
  (.seq (.ops [⟨some 9, .e (.set (.v (.int .i64 0))) [], none⟩] [0, 1, 5, 6, 9])
  (.seq (.seq (.ops [⟨some 41, .q (.mov (.t 0)), none⟩,
    ⟨some 42, .q (.nilc (.t 41)), none⟩,
    ⟨some 43, .q (.addr 1 (.t 42)), none⟩,
    ⟨some 44, .q (.addr 0 (.t 43)), none⟩,
    ⟨some 45, .q (.load none (.t 44)), none⟩,
    ⟨some 46, .q (.len .slice (.t 45)), none⟩,
    ⟨some 47, .q (.mov (.v (.int .i64 0))), none⟩] [0, 1, 5, 6, 9, 45, 46, 47])
  (.block 0 (.loop [0, 1, 5, 6, 9, 45, 46, 47] (.seq (.ops [⟨some 48, .q (.bin .lss (.t 47) (.t 46)), none⟩] [0, 1, 5, 6, 9, 45, 46, 47, 48])
  (.seq (.cond (.t 48) (.skip) (.exit 0))
  (.seq (.block 1 (.seq (.ops [⟨some 49, .q (.ixSl 5 (.t 45) (.t 47)), none⟩,
    ⟨some 50, .q (.load (some 5) (.t 49)), none⟩,
    ⟨some 11, .e (.alloc 49 [.int .i64 0, .int .i64 0, .int .i64 0, .int .i64 0, .str []]) [], none⟩,
    ⟨none, .e (.store 5 (.t 11) (.t 50)) [], none⟩] [0, 1, 5, 6, 9, 11, 45, 46, 47])
  (.seq (.ops [⟨some 51, .q (.addr 0 (.t 11)), none⟩,
    ⟨some 52, .q (.load none (.t 51)), none⟩,
    ⟨some 53, .q (.bin .eql (.t 52) (.v (.int .i64 4))), none⟩,
    ⟨some 54, .q (.mov (.t 53)), none⟩,
    ⟨some 55, .q (.mov (.t 0)), some (54, true)⟩,
    ⟨some 56, .q (.nilc (.t 55)), some (54, true)⟩,
    ⟨some 57, .q (.addr 4 (.t 56)), some (54, true)⟩,
    ⟨some 58, .q (.load none (.t 57)), some (54, true)⟩,
    ⟨some 59, .q (.addr 3 (.t 11)), some (54, true)⟩,
    ⟨some 60, .q (.load none (.t 59)), some (54, true)⟩,
    ⟨some 61, .q (.ixSl 1 (.t 58) (.t 60)), some (54, true)⟩,
    ⟨some 62, .q (.load none (.t 61)), some (54, true)⟩,
    ⟨some 63, .q (.mov (.t 0)), some (54, true)⟩,
    ⟨some 64, .q (.nilc (.t 63)), some (54, true)⟩,
    ⟨some 65, .q (.addr 4 (.t 64)), some (54, true)⟩,
    ⟨some 66, .q (.load none (.t 65)), some (54, true)⟩,
    ⟨some 67, .q (.mov (.t 1)), some (54, true)⟩,
    ⟨some 68, .q (.ixSl 1 (.t 66) (.t 67)), some (54, true)⟩,
    ⟨some 69, .q (.load none (.t 68)), some (54, true)⟩,
    ⟨some 70, .q (.bin .eql (.t 62) (.t 69)), some (54, true)⟩,
    ⟨some 71, .q (.pick (.t 54) (.t 70) (.v (.bool false))), none⟩] [0, 1, 5, 6, 9, 45, 46, 47, 71])
  (.cond (.t 71) (.ops [⟨some 72, .q (.mov (.t 9)), none⟩,
    ⟨some 73, .q (.bin .add (.t 72) (.v (.int .i64 1))), none⟩,
    ⟨some 9, .e (.set (.t 73)) [], none⟩] [0, 1, 5, 6, 9, 45, 46, 47]) (.skip)))))
  (.ops [⟨some 74, .q (.bin .add (.t 47) (.v (.int .i64 1))), none⟩,
    ⟨some 47, .q (.mov (.t 74)), none⟩] [0, 1, 5, 6, 9, 45, 46, 47])))))))
  (.seq (.seq (.ops [⟨some 75, .q (.mov (.t 9)), none⟩,
    ⟨some 76, .q (.bin .eql (.t 75) (.v (.int .i64 24))), none⟩] [0, 1, 5, 6, 9, 76])
  (.cond (.t 76) (.seq (.ops [⟨some 4, .e (.set (.v (.int .i64 15))) [], none⟩] [4])
  (.ret)) (.skip)))
  (.seq (.ops [⟨some 77, .q (.mov (.t 0)), none⟩,
    ⟨some 78, .q (.nilc (.t 77)), none⟩,
    ⟨some 79, .q (.addr 7 (.t 78)), none⟩,
    ⟨some 80, .q (.load none (.t 79)), none⟩,
    ⟨some 81, .q (.load (some 2) (.t 6)), none⟩,
    ⟨some 82, .q (.mov (.t 0)), none⟩,
    ⟨some 83, .q (.addr 4 (.t 5)), none⟩,
    ⟨some 84, .q (.load none (.t 83)), none⟩,
    ⟨some 85, .q (.mov (.t 9)), none⟩,
    ⟨some 86, .q (.mov (.t 1)), none⟩,
    ⟨some 87, .q (.addr 2 (.t 5)), none⟩,
    ⟨some 88, .q (.load none (.t 87)), none⟩,
    ⟨some 89, .q (.build [.int .i64 0, .int .i64 0, .int .i64 0, .int .i64 0, .str []] [(0, 1, .v (.int .i64 4)), (1, 1, .t 84), (2, 1, .t 85), (3, 1, .t 86), (4, 1, .t 88)]), none⟩,
    ⟨some 90, .e (.call 87 [.t 82, .t 89]) [(81, .load (some 2) (.t 6)), (80, .load none (.t 79))], none⟩,
    ⟨none, .e (.mapupd .pair (.t 80) (.t 81) (.t 90)) [], none⟩] [0, 1, 5, 6])
  (.seq (.ops [⟨some 91, .q (.mov (.t 0)), none⟩,
    ⟨some 92, .q (.nilc (.t 91)), none⟩,
    ⟨some 93, .q (.addr 1 (.t 92)), none⟩,
    ⟨some 94, .q (.addr 1 (.t 93)), none⟩,
    ⟨some 95, .q (.load none (.t 94)), none⟩,
    ⟨some 96, .q (.mov (.t 1)), none⟩,
    ⟨some 97, .q (.mov (.t 0)), none⟩,
    ⟨some 98, .q (.nilc (.t 97)), none⟩,
    ⟨some 99, .q (.addr 7 (.t 98)), none⟩,
    ⟨some 100, .q (.load none (.t 99)), none⟩,
    ⟨some 101, .q (.load (some 2) (.t 6)), none⟩,
    ⟨some 102, .q (.lookup .pair (.int .i64 0) false (.t 100) (.t 101)), none⟩,
    ⟨some 103, .q (.ixSl 1 (.t 95) (.t 96)), none⟩,
    ⟨none, .e (.store 1 (.t 103) (.t 102)) [], none⟩] [0, 1, 5])
  (.seq (.ops [⟨some 104, .q (.addr 5 (.t 5)), none⟩,
    ⟨some 105, .q (.load none (.t 104)), none⟩,
    ⟨some 106, .q (.len .slice (.t 105)), none⟩,
    ⟨some 107, .q (.bin .eql (.t 106) (.v (.int .i64 0))), none⟩,
    ⟨some 108, .q (.mov (.t 107)), none⟩,
    ⟨some 109, .q (.mov (.t 0)), some (108, false)⟩,
    ⟨some 110, .q (.mov (.t 1)), some (108, false)⟩,
    ⟨some 112, .q (.addr 4 (.t 5)), some (108, false)⟩,
    ⟨some 113, .q (.load none (.t 112)), some (108, false)⟩,
    ⟨some 111, .e (.call 147 [.t 109, .t 110, .v (.int .i64 0)]) [(113, .load none (.t 112))], some (108, false)⟩,
    ⟨some 114, .q (.bin .eql (.t 111) (.t 113)), some (108, false)⟩,
    ⟨some 115, .q (.pick (.t 108) (.v (.bool true)) (.t 114)), none⟩,
    ⟨some 116, .e (.call 145 [.t 115]) [], none⟩,
    ⟨some 4, .e (.set (.t 116)) [], none⟩] [4])
  (.ret)))))))))), [.slot 4]⟩
/-- '(*binnacle/sort.checker).all' -/
def i100 : IFunc := ⟨.seq (.ops [⟨some 4, .e (.set (.v (.int .i64 0))) [], none⟩] [0])
  (.seq (.ops [⟨some 8, .q (.mov (.t 0)), none⟩,
    ⟨some 9, .q (.nilc (.t 8)), none⟩,
    ⟨some 10, .q (.addr 6 (.t 9)), none⟩,
    ⟨some 11, .q (.load none (.t 10)), none⟩,
    ⟨some 12, .q (.lookup .str (.int .i64 0) true (.t 11) (.v (.str [109, 97, 105, 110]))), none⟩,
    ⟨some 7, .q (.mov (.t 12)), none⟩,
    ⟨some 13, .q (.extr 0 (.t 7)), none⟩,
    ⟨some 14, .q (.extr 1 (.t 7)), none⟩,
    ⟨some 5, .e (.set (.t 13)) [], none⟩,
    ⟨some 6, .e (.set (.t 14)) [], none⟩] [0, 5, 6])
  (.seq (.seq (.ops [⟨some 15, .q (.mov (.t 6)), none⟩,
    ⟨some 16, .q (.un .not (.t 15)), none⟩,
    ⟨some 17, .q (.mov (.t 16)), none⟩,
    ⟨some 18, .q (.mov (.t 0)), some (17, false)⟩,
    ⟨some 19, .q (.nilc (.t 18)), some (17, false)⟩,
    ⟨some 20, .q (.addr 1 (.t 19)), some (17, false)⟩,
    ⟨some 21, .q (.addr 0 (.t 20)), some (17, false)⟩,
    ⟨some 22, .q (.load none (.t 21)), some (17, false)⟩,
    ⟨some 23, .q (.mov (.t 5)), some (17, false)⟩,
    ⟨some 24, .q (.ixSl 5 (.t 22) (.t 23)), some (17, false)⟩,
    ⟨some 25, .q (.addr 0 (.t 24)), some (17, false)⟩,
    ⟨some 26, .q (.load none (.t 25)), some (17, false)⟩,
    ⟨some 27, .q (.bin .neq (.t 26) (.v (.int .i64 3))), some (17, false)⟩,
    ⟨some 28, .q (.pick (.t 17) (.v (.bool true)) (.t 27)), none⟩,
    ⟨some 29, .q (.mov (.t 28)), none⟩,
    ⟨some 30, .q (.mov (.t 0)), some (29, false)⟩,
    ⟨some 31, .q (.nilc (.t 30)), some (29, false)⟩,
    ⟨some 32, .q (.addr 1 (.t 31)), some (29, false)⟩,
    ⟨some 33, .q (.addr 0 (.t 32)), some (29, false)⟩,
    ⟨some 34, .q (.load none (.t 33)), some (29, false)⟩,
    ⟨some 35, .q (.mov (.t 5)), some (29, false)⟩,
    ⟨some 36, .q (.ixSl 5 (.t 34) (.t 35)), some (29, false)⟩,
    ⟨some 37, .q (.addr 2 (.t 36)), some (29, false)⟩,
    ⟨some 38, .q (.load none (.t 37)), some (29, false)⟩,
    ⟨some 39, .q (.bin .neq (.t 38) (.v (.int .i64 0))), some (29, false)⟩,
    ⟨some 40, .q (.pick (.t 29) (.v (.bool true)) (.t 39)), none⟩] [40])
  (.cond (.t 40) (.seq (.ops [⟨some 4, .e (.set (.v (.int .i64 16))) [], none⟩] [4])
  (.ret)) (.skip)))
  (.seq (.ops [⟨some 4, .e (.set (.v (.int .i64 0))) [], none⟩] [4])
  (.ret)))), [.slot 4]⟩
/-- 'binnacle/binnacleref17.letter' -/
def i110 : IFunc := ⟨.seq (.ops [⟨some 2, .e (.set (.v (.bool false))) [], none⟩] [0])
  (.seq (.ops [⟨some 3, .q (.mov (.t 0)), none⟩,
    ⟨some 4, .q (.bin .geq (.t 3) (.v (.int .u8 97))), none⟩,
    ⟨some 5, .q (.mov (.t 4)), none⟩,
    ⟨some 6, .q (.mov (.t 0)), some (5, true)⟩,
    ⟨some 7, .q (.bin .leq (.t 6) (.v (.int .u8 122))), some (5, true)⟩,
    ⟨some 8, .q (.pick (.t 5) (.t 7) (.v (.bool false))), none⟩,
    ⟨some 9, .q (.mov (.t 8)), none⟩,
    ⟨some 10, .q (.mov (.t 0)), some (9, false)⟩,
    ⟨some 11, .q (.bin .geq (.t 10) (.v (.int .u8 65))), some (9, false)⟩,
    ⟨some 12, .q (.mov (.t 11)), some (9, false)⟩,
    ⟨some 13, .q (.mov (.t 0)), some (12, true)⟩,
    ⟨some 14, .q (.bin .leq (.t 13) (.v (.int .u8 90))), some (12, true)⟩,
    ⟨some 15, .q (.pick (.t 12) (.t 14) (.v (.bool false))), some (9, false)⟩,
    ⟨some 16, .q (.pick (.t 9) (.v (.bool true)) (.t 15)), none⟩,
    ⟨some 17, .q (.mov (.t 16)), none⟩,
    ⟨some 18, .q (.mov (.t 0)), some (17, false)⟩,
    ⟨some 19, .q (.bin .eql (.t 18) (.v (.int .u8 95))), some (17, false)⟩,
    ⟨some 20, .q (.pick (.t 17) (.v (.bool true)) (.t 19)), none⟩,
    ⟨some 2, .e (.set (.t 20)) [], none⟩] [2])
  (.ret)), [.slot 2]⟩
/-- 'binnacle/binnacleref17.digit' -/
def i111 : IFunc := ⟨.seq (.ops [⟨some 2, .e (.set (.v (.bool false))) [], none⟩] [0])
  (.seq (.ops [⟨some 3, .q (.mov (.t 0)), none⟩,
    ⟨some 4, .q (.bin .geq (.t 3) (.v (.int .u8 48))), none⟩,
    ⟨some 5, .q (.mov (.t 4)), none⟩,
    ⟨some 6, .q (.mov (.t 0)), some (5, true)⟩,
    ⟨some 7, .q (.bin .leq (.t 6) (.v (.int .u8 57))), some (5, true)⟩,
    ⟨some 8, .q (.pick (.t 5) (.t 7) (.v (.bool false))), none⟩,
    ⟨some 2, .e (.set (.t 8)) [], none⟩] [2])
  (.ret)), [.slot 2]⟩
/-- 'binnacle/binnacleref17.in' -/
def i112 : IFunc := ⟨.seq (.ops [⟨some 4, .e (.set (.v (.bool false))) [], none⟩] [0, 1])
  (.seq (.seq (.ops [⟨some 5, .e (.set (.v (.int .i64 0))) [], none⟩] [0, 1, 5])
  (.block 0 (.loop [0, 1, 5] (.seq (.seq (.ops [⟨some 6, .q (.mov (.t 5)), none⟩,
    ⟨some 7, .q (.mov (.t 0)), none⟩,
    ⟨some 8, .q (.len .slice (.t 7)), none⟩,
    ⟨some 9, .q (.bin .lss (.t 6) (.t 8)), none⟩] [0, 1, 5, 9])
  (.cond (.t 9) (.skip) (.exit 0)))
  (.seq (.block 1 (.seq (.ops [⟨some 12, .q (.mov (.t 0)), none⟩,
    ⟨some 13, .q (.mov (.t 5)), none⟩,
    ⟨some 14, .q (.ixSl 1 (.t 12) (.t 13)), none⟩,
    ⟨some 15, .q (.load none (.t 14)), none⟩,
    ⟨some 16, .q (.mov (.t 1)), none⟩,
    ⟨some 17, .q (.bin .eql (.t 15) (.t 16)), none⟩] [0, 1, 5, 17])
  (.cond (.t 17) (.seq (.ops [⟨some 4, .e (.set (.v (.bool true))) [], none⟩] [4])
  (.ret)) (.skip))))
  (.ops [⟨some 10, .q (.mov (.t 5)), none⟩,
    ⟨some 11, .q (.bin .add (.t 10) (.v (.int .i64 1))), none⟩,
    ⟨some 5, .e (.set (.t 11)) [], none⟩] [0, 1, 5]))))))
  (.seq (.ops [⟨some 4, .e (.set (.v (.bool false))) [], none⟩] [4])
  (.ret))), [.slot 4]⟩
/-- 'binnacle/binnacleref17.Words' -/
def i113 : IFunc := ⟨.seq (.ops [⟨some 0, .e (.set (.v (.nilslice))) [], none⟩] [])
  (.seq (.ops [⟨some 1, .e (.bslice 9 1 8 [.str []] [(0, 1, .v (.str [105, 110, 116])), (1, 1, .v (.str [99, 104, 97, 114])), (2, 1, .v (.str [105, 102])), (3, 1, .v (.str [101, 108, 115, 101])), (4, 1, .v (.str [119, 104, 105, 108, 101])), (5, 1, .v (.str [114, 101, 116, 117, 114, 110])), (6, 1, .v (.str [98, 114, 101, 97, 107])), (7, 1, .v (.str [99, 111, 110, 116, 105, 110, 117, 101]))]) [], none⟩,
    ⟨some 0, .e (.set (.t 1)) [], none⟩] [0])
  (.ret)), [.slot 0]⟩
/-- 'binnacle/binnacleref17.number' -/
def i114 : IFunc := ⟨.seq (.ops [⟨some 2, .e (.set (.v (.int .i64 0))) [], none⟩,
    ⟨some 3, .e (.set (.v (.bool false))) [], none⟩] [0])
  (.seq (.seq (.ops [⟨some 6, .q (.mov (.t 0)), none⟩,
    ⟨some 7, .q (.len .str (.t 6)), none⟩,
    ⟨some 8, .q (.bin .gtr (.t 7) (.v (.int .i64 19))), none⟩,
    ⟨some 9, .q (.mov (.t 8)), none⟩,
    ⟨some 10, .q (.mov (.t 0)), some (9, false)⟩,
    ⟨some 11, .q (.len .str (.t 10)), some (9, false)⟩,
    ⟨some 12, .q (.bin .gtr (.t 11) (.v (.int .i64 1))), some (9, false)⟩,
    ⟨some 13, .q (.mov (.t 12)), some (9, false)⟩,
    ⟨some 14, .q (.mov (.t 0)), some (13, true)⟩,
    ⟨some 15, .q (.ixStr (.t 14) (.v (.int .i64 0))), some (13, true)⟩,
    ⟨some 16, .q (.bin .eql (.t 15) (.v (.int .u8 48))), some (13, true)⟩,
    ⟨some 17, .q (.pick (.t 13) (.t 16) (.v (.bool false))), some (9, false)⟩,
    ⟨some 18, .q (.pick (.t 9) (.v (.bool true)) (.t 17)), none⟩] [0, 18])
  (.cond (.t 18) (.seq (.ops [⟨some 2, .e (.set (.v (.int .i64 0))) [], none⟩,
    ⟨some 3, .e (.set (.v (.bool false))) [], none⟩] [2, 3])
  (.ret)) (.skip)))
  (.seq (.ops [⟨some 4, .e (.set (.v (.int .u64 0))) [], none⟩] [0, 4])
  (.seq (.seq (.ops [⟨some 5, .e (.set (.v (.int .i64 0))) [], none⟩] [0, 4, 5])
  (.block 0 (.loop [0, 4, 5] (.seq (.seq (.ops [⟨some 19, .q (.mov (.t 5)), none⟩,
    ⟨some 20, .q (.mov (.t 0)), none⟩,
    ⟨some 21, .q (.len .str (.t 20)), none⟩,
    ⟨some 22, .q (.bin .lss (.t 19) (.t 21)), none⟩] [0, 4, 5, 22])
  (.cond (.t 22) (.skip) (.exit 0)))
  (.seq (.block 1 (.ops [⟨some 25, .q (.mov (.t 4)), none⟩,
    ⟨some 26, .q (.bin .mul (.t 25) (.v (.int .u64 10))), none⟩,
    ⟨some 27, .q (.mov (.t 0)), none⟩,
    ⟨some 28, .q (.mov (.t 5)), none⟩,
    ⟨some 29, .q (.ixStr (.t 27) (.t 28)), none⟩,
    ⟨some 30, .q (.bin .sub (.t 29) (.v (.int .u8 48))), none⟩,
    ⟨some 31, .q (.conv .u64 (.t 30)), none⟩,
    ⟨some 32, .q (.bin .add (.t 26) (.t 31)), none⟩,
    ⟨some 4, .e (.set (.t 32)) [], none⟩] [0, 4, 5]))
  (.ops [⟨some 23, .q (.mov (.t 5)), none⟩,
    ⟨some 24, .q (.bin .add (.t 23) (.v (.int .i64 1))), none⟩,
    ⟨some 5, .e (.set (.t 24)) [], none⟩] [0, 4, 5]))))))
  (.seq (.ops [⟨some 33, .q (.mov (.t 4)), none⟩,
    ⟨some 34, .q (.conv .i64 (.t 33)), none⟩,
    ⟨some 35, .q (.mov (.t 4)), none⟩,
    ⟨some 36, .q (.bin .leq (.t 35) (.v (.int .u64 9223372036854775807))), none⟩,
    ⟨some 2, .e (.set (.t 34)) [], none⟩,
    ⟨some 3, .e (.set (.t 36)) [], none⟩] [2, 3])
  (.ret))))), [.slot 2, .slot 3]⟩
/-- 'binnacle/binnacleref17.quoted' -/
def i115 : IFunc := ⟨.seq (.ops [⟨some 4, .e (.alloc 56 [.int .i64 0, .int .i64 0, .str [], .int .i64 0]) [], none⟩,
    ⟨some 5, .e (.set (.v (.int .i64 0))) [], none⟩] [0, 1, 4])
  (.seq (.ops [⟨some 11, .q (.mov (.t 0)), none⟩,
    ⟨some 12, .q (.mov (.t 1)), none⟩,
    ⟨some 13, .q (.ixStr (.t 11) (.t 12)), none⟩,
    ⟨some 6, .e (.set (.t 13)) [], none⟩] [0, 1, 4, 6])
  (.seq (.ops [⟨some 7, .e (.set (.v (.nilslice))) [], none⟩] [0, 1, 4, 6, 7])
  (.seq (.ops [⟨some 14, .q (.mov (.t 1)), none⟩,
    ⟨some 15, .q (.bin .add (.t 14) (.v (.int .i64 1))), none⟩,
    ⟨some 8, .e (.set (.t 15)) [], none⟩] [0, 1, 4, 6, 7, 8])
  (.seq (.block 0 (.loop [0, 1, 4, 6, 7, 8] (.seq (.seq (.ops [⟨some 16, .q (.mov (.t 8)), none⟩,
    ⟨some 17, .q (.mov (.t 0)), none⟩,
    ⟨some 18, .q (.len .str (.t 17)), none⟩,
    ⟨some 19, .q (.bin .lss (.t 16) (.t 18)), none⟩,
    ⟨some 20, .q (.mov (.t 19)), none⟩,
    ⟨some 21, .q (.mov (.t 0)), some (20, true)⟩,
    ⟨some 22, .q (.mov (.t 8)), some (20, true)⟩,
    ⟨some 23, .q (.ixStr (.t 21) (.t 22)), some (20, true)⟩,
    ⟨some 24, .q (.mov (.t 6)), some (20, true)⟩,
    ⟨some 25, .q (.bin .neq (.t 23) (.t 24)), some (20, true)⟩,
    ⟨some 26, .q (.pick (.t 20) (.t 25) (.v (.bool false))), none⟩] [0, 1, 4, 6, 7, 8, 26])
  (.cond (.t 26) (.skip) (.exit 0)))
  (.block 1 (.seq (.ops [⟨some 28, .q (.mov (.t 0)), none⟩,
    ⟨some 29, .q (.mov (.t 8)), none⟩,
    ⟨some 30, .q (.mov (.t 6)), none⟩,
    ⟨some 31, .e (.call 152 [.t 28, .t 29, .t 30]) [], none⟩,
    ⟨some 27, .q (.mov (.t 31)), none⟩,
    ⟨some 32, .q (.extr 0 (.t 27)), none⟩,
    ⟨some 33, .q (.extr 1 (.t 27)), none⟩,
    ⟨some 9, .e (.set (.t 32)) [], none⟩,
    ⟨some 10, .e (.set (.t 33)) [], none⟩] [0, 1, 4, 6, 7, 8, 9, 10])
  (.seq (.seq (.ops [⟨some 34, .q (.mov (.t 10)), none⟩,
    ⟨some 35, .q (.bin .eql (.t 34) (.v (.int .i64 0))), none⟩,
    ⟨some 36, .q (.mov (.t 35)), none⟩,
    ⟨some 37, .q (.mov (.t 6)), some (36, false)⟩,
    ⟨some 38, .q (.bin .eql (.t 37) (.v (.int .u8 34))), some (36, false)⟩,
    ⟨some 39, .q (.mov (.t 38)), some (36, false)⟩,
    ⟨some 40, .q (.mov (.t 9)), some (39, true)⟩,
    ⟨some 41, .q (.bin .eql (.t 40) (.v (.int .u8 0))), some (39, true)⟩,
    ⟨some 42, .q (.pick (.t 39) (.t 41) (.v (.bool false))), some (36, false)⟩,
    ⟨some 43, .q (.pick (.t 36) (.v (.bool true)) (.t 42)), none⟩] [0, 1, 4, 6, 7, 8, 9, 10, 43])
  (.cond (.t 43) (.seq (.ops [⟨some 44, .q (.mov (.t 1)), none⟩,
    ⟨some 45, .q (.build [.int .i64 0, .int .i64 0, .str [], .int .i64 0] [(0, 1, .v (.int .i64 6)), (1, 1, .t 44)]), none⟩,
    ⟨some 46, .q (.mov (.t 8)), none⟩,
    ⟨none, .e (.store 4 (.t 4) (.t 45)) [], none⟩,
    ⟨some 5, .e (.set (.t 46)) [], none⟩] [4, 5])
  (.ret)) (.skip)))
  (.seq (.ops [⟨some 47, .q (.mov (.t 7)), none⟩,
    ⟨some 48, .q (.mov (.t 9)), none⟩,
    ⟨some 49, .e (.bslice 5 1 1 [.int .u8 0] [(0, 1, .t 48)]) [], none⟩,
    ⟨some 50, .e (.append 5 1 1 (.t 47) (.t 49)) [], none⟩,
    ⟨some 7, .e (.set (.t 50)) [], none⟩] [0, 1, 4, 6, 7, 8, 10])
  (.ops [⟨some 51, .q (.mov (.t 8)), none⟩,
    ⟨some 52, .q (.mov (.t 10)), none⟩,
    ⟨some 53, .q (.bin .add (.t 51) (.t 52)), none⟩,
    ⟨some 8, .e (.set (.t 53)) [], none⟩] [0, 1, 4, 6, 7, 8]))))))))
  (.seq (.seq (.ops [⟨some 54, .q (.mov (.t 8)), none⟩,
    ⟨some 55, .q (.mov (.t 0)), none⟩,
    ⟨some 56, .q (.len .str (.t 55)), none⟩,
    ⟨some 57, .q (.bin .geq (.t 54) (.t 56)), none⟩,
    ⟨some 58, .q (.mov (.t 57)), none⟩,
    ⟨some 59, .q (.mov (.t 6)), some (58, false)⟩,
    ⟨some 60, .q (.bin .eql (.t 59) (.v (.int .u8 34))), some (58, false)⟩,
    ⟨some 61, .q (.mov (.t 60)), some (58, false)⟩,
    ⟨some 62, .q (.mov (.t 7)), some (61, true)⟩,
    ⟨some 63, .q (.len .slice (.t 62)), some (61, true)⟩,
    ⟨some 64, .q (.bin .gtr (.t 63) (.v (.int .i64 100))), some (61, true)⟩,
    ⟨some 65, .q (.pick (.t 61) (.t 64) (.v (.bool false))), some (58, false)⟩,
    ⟨some 66, .q (.pick (.t 58) (.v (.bool true)) (.t 65)), none⟩,
    ⟨some 67, .q (.mov (.t 66)), none⟩,
    ⟨some 68, .q (.mov (.t 6)), some (67, false)⟩,
    ⟨some 69, .q (.bin .eql (.t 68) (.v (.int .u8 39))), some (67, false)⟩,
    ⟨some 70, .q (.mov (.t 69)), some (67, false)⟩,
    ⟨some 71, .q (.mov (.t 7)), some (70, true)⟩,
    ⟨some 72, .q (.len .slice (.t 71)), some (70, true)⟩,
    ⟨some 73, .q (.bin .neq (.t 72) (.v (.int .i64 1))), some (70, true)⟩,
    ⟨some 74, .q (.pick (.t 70) (.t 73) (.v (.bool false))), some (67, false)⟩,
    ⟨some 75, .q (.pick (.t 67) (.v (.bool true)) (.t 74)), none⟩] [1, 4, 6, 7, 8, 75])
  (.cond (.t 75) (.seq (.ops [⟨some 76, .q (.mov (.t 1)), none⟩,
    ⟨some 77, .q (.build [.int .i64 0, .int .i64 0, .str [], .int .i64 0] [(0, 1, .v (.int .i64 6)), (1, 1, .t 76)]), none⟩,
    ⟨some 78, .q (.mov (.t 8)), none⟩,
    ⟨none, .e (.store 4 (.t 4) (.t 77)) [], none⟩,
    ⟨some 5, .e (.set (.t 78)) [], none⟩] [4, 5])
  (.ret)) (.skip)))
  (.seq (.seq (.ops [⟨some 79, .q (.mov (.t 6)), none⟩,
    ⟨some 80, .q (.bin .eql (.t 79) (.v (.int .u8 34))), none⟩] [1, 4, 7, 8, 80])
  (.cond (.t 80) (.seq (.ops [⟨some 81, .q (.mov (.t 1)), none⟩,
    ⟨some 82, .q (.mov (.t 7)), none⟩,
    ⟨some 83, .q (.bstr (.t 82)), none⟩,
    ⟨some 84, .q (.build [.int .i64 0, .int .i64 0, .str [], .int .i64 0] [(0, 1, .v (.int .i64 4)), (1, 1, .t 81), (2, 1, .t 83)]), none⟩,
    ⟨some 85, .q (.mov (.t 8)), none⟩,
    ⟨some 86, .q (.bin .add (.t 85) (.v (.int .i64 1))), none⟩,
    ⟨none, .e (.store 4 (.t 4) (.t 84)) [], none⟩,
    ⟨some 5, .e (.set (.t 86)) [], none⟩] [4, 5])
  (.ret)) (.skip)))
  (.seq (.ops [⟨some 87, .q (.mov (.t 1)), none⟩,
    ⟨some 88, .q (.mov (.t 7)), none⟩,
    ⟨some 89, .q (.ixSl 1 (.t 88) (.v (.int .i64 0))), none⟩,
    ⟨some 90, .q (.load none (.t 89)), none⟩,
    ⟨some 91, .q (.conv .i64 (.t 90)), none⟩,
    ⟨some 92, .q (.build [.int .i64 0, .int .i64 0, .str [], .int .i64 0] [(0, 1, .v (.int .i64 3)), (1, 1, .t 87), (3, 1, .t 91)]), none⟩,
    ⟨some 93, .q (.mov (.t 8)), none⟩,
    ⟨some 94, .q (.bin .add (.t 93) (.v (.int .i64 1))), none⟩,
    ⟨none, .e (.store 4 (.t 4) (.t 92)) [], none⟩,
    ⟨some 5, .e (.set (.t 94)) [], none⟩] [4, 5])
  (.ret)))))))), [.cell 4 (some 4), .slot 5]⟩
/-- 'binnacle/binnacleref17.Marks' -/
def i116 : IFunc := ⟨.seq (.ops [⟨some 0, .e (.set (.v (.nilslice))) [], none⟩] [])
  (.seq (.ops [⟨some 1, .e (.bslice 9 1 29 [.str []] [(0, 1, .v (.str [60, 60])), (1, 1, .v (.str [62, 62])), (2, 1, .v (.str [60, 61])), (3, 1, .v (.str [62, 61])), (4, 1, .v (.str [61, 61])), (5, 1, .v (.str [33, 61])), (6, 1, .v (.str [38, 38])), (7, 1, .v (.str [124, 124])), (8, 1, .v (.str [40])), (9, 1, .v (.str [41])), (10, 1, .v (.str [123])), (11, 1, .v (.str [125])), (12, 1, .v (.str [91])), (13, 1, .v (.str [93])), (14, 1, .v (.str [59])), (15, 1, .v (.str [44])), (16, 1, .v (.str [42])), (17, 1, .v (.str [47])), (18, 1, .v (.str [37])), (19, 1, .v (.str [43])), (20, 1, .v (.str [45])), (21, 1, .v (.str [60])), (22, 1, .v (.str [62])), (23, 1, .v (.str [38])), (24, 1, .v (.str [94])), (25, 1, .v (.str [124])), (26, 1, .v (.str [61])), (27, 1, .v (.str [33])), (28, 1, .v (.str [126]))]) [], none⟩,
    ⟨some 0, .e (.set (.t 1)) [], none⟩] [0])
  (.ret)), [.slot 0]⟩
/-- '(*binnacle/mean.run).add' -/
def i118 : IFunc := ⟨.seq (.ops [⟨some 3, .e (.box 183 (.t 1)) [], none⟩,
    ⟨some 4, .e (.set (.v (.int .i64 0))) [], none⟩] [0, 3])
  (.seq (.ops [⟨some 5, .q (.mov (.t 0)), none⟩,
    ⟨some 6, .q (.mov (.t 0)), none⟩,
    ⟨some 7, .q (.nilc (.t 6)), none⟩,
    ⟨some 8, .q (.addr 8 (.t 7)), none⟩,
    ⟨some 9, .q (.load none (.t 8)), none⟩,
    ⟨some 10, .q (.load (some 3) (.t 3)), none⟩,
    ⟨some 11, .e (.bslice 183 3 1 [.nilslice, .bool false, .bool false] [(0, 3, .t 10)]) [], none⟩,
    ⟨some 12, .e (.append 183 3 32 (.t 9) (.t 11)) [], none⟩,
    ⟨some 13, .q (.nilc (.t 5)), none⟩,
    ⟨some 14, .q (.addr 8 (.t 13)), none⟩,
    ⟨none, .e (.store 1 (.t 14) (.t 12)) [], none⟩] [0])
  (.seq (.ops [⟨some 15, .q (.mov (.t 0)), none⟩,
    ⟨some 16, .q (.nilc (.t 15)), none⟩,
    ⟨some 17, .q (.addr 8 (.t 16)), none⟩,
    ⟨some 18, .q (.load none (.t 17)), none⟩,
    ⟨some 19, .q (.len .slice (.t 18)), none⟩,
    ⟨some 20, .q (.bin .sub (.t 19) (.v (.int .i64 1))), none⟩,
    ⟨some 4, .e (.set (.t 20)) [], none⟩] [4])
  (.ret))), [.slot 4]⟩
/-- 'binnacle/mean.number' -/
def i119 : IFunc := ⟨.seq (.ops [⟨some 2, .e (.alloc 185 [.int .i64 0, .int .i64 0]) [], none⟩] [0, 2])
  (.seq (.ops [⟨some 3, .q (.mov (.t 0)), none⟩,
    ⟨some 4, .q (.build [.int .i64 0, .int .i64 0] [(0, 1, .t 3), (1, 1, .v (.int .i64 (-1)))]), none⟩,
    ⟨none, .e (.store 2 (.t 2) (.t 4)) [], none⟩] [2])
  (.ret)), [.cell 2 (some 2)]⟩
/-- 'binnacle/mean.text' -/
def i120 : IFunc := ⟨.seq (.ops [⟨some 2, .e (.alloc 183 [.nilslice, .bool false, .bool false]) [], none⟩] [0, 2])
  (.seq (.ops [⟨some 5, .q (.build [.nilslice, .bool false, .bool false] [(1, 1, .v (.bool true)), (2, 1, .v (.bool true))]), none⟩,
    ⟨some 3, .e (.alloc 183 [.nilslice, .bool false, .bool false]) [], none⟩,
    ⟨none, .e (.store 3 (.t 3) (.t 5)) [], none⟩] [0, 2, 3])
  (.seq (.seq (.ops [⟨some 6, .q (.mov (.t 0)), none⟩,
    ⟨some 7, .q (.len .str (.t 6)), none⟩,
    ⟨some 8, .q (.mov (.v (.int .i64 0))), none⟩] [0, 2, 3, 7, 8])
  (.block 0 (.loop [0, 2, 3, 7, 8] (.seq (.ops [⟨some 9, .q (.bin .lss (.t 8) (.t 7)), none⟩] [0, 2, 3, 7, 8, 9])
  (.seq (.cond (.t 9) (.skip) (.exit 0))
  (.seq (.block 1 (.seq (.ops [⟨some 10, .q (.mov (.t 8)), none⟩,
    ⟨some 4, .e (.set (.t 10)) [], none⟩] [0, 2, 3, 4, 7, 8])
  (.ops [⟨some 11, .q (.addr 0 (.t 3)), none⟩,
    ⟨some 12, .q (.load none (.t 11)), none⟩,
    ⟨some 13, .q (.mov (.t 0)), none⟩,
    ⟨some 14, .q (.mov (.t 4)), none⟩,
    ⟨some 15, .q (.ixStr (.t 13) (.t 14)), none⟩,
    ⟨some 16, .q (.conv .i64 (.t 15)), none⟩,
    ⟨some 17, .e (.bslice 2 1 1 [.int .i64 0] [(0, 1, .t 16)]) [], none⟩,
    ⟨some 18, .e (.append 2 1 8 (.t 12) (.t 17)) [], none⟩,
    ⟨some 19, .q (.addr 0 (.t 3)), none⟩,
    ⟨none, .e (.store 1 (.t 19) (.t 18)) [], none⟩] [0, 2, 3, 7, 8])))
  (.ops [⟨some 20, .q (.bin .add (.t 8) (.v (.int .i64 1))), none⟩,
    ⟨some 8, .q (.mov (.t 20)), none⟩] [0, 2, 3, 7, 8])))))))
  (.seq (.ops [⟨some 21, .q (.addr 0 (.t 3)), none⟩,
    ⟨some 22, .q (.load none (.t 21)), none⟩,
    ⟨some 23, .e (.bslice 2 1 1 [.int .i64 0] [(0, 1, .v (.int .i64 0))]) [], none⟩,
    ⟨some 24, .e (.append 2 1 8 (.t 22) (.t 23)) [], none⟩,
    ⟨some 25, .q (.addr 0 (.t 3)), none⟩,
    ⟨none, .e (.store 1 (.t 25) (.t 24)) [], none⟩] [2, 3])
  (.seq (.ops [⟨some 26, .q (.load (some 3) (.t 3)), none⟩,
    ⟨none, .e (.store 3 (.t 2) (.t 26)) [], none⟩] [2])
  (.ret))))), [.cell 2 (some 3)]⟩
/-- '(*binnacle/mean.run).whole$1' -/
def i121 : RFunc := ⟨2, [⟨some 1, .e (.set (.t 2)) [], none⟩], [0, 1],
  .seq (.ops [⟨some 3, .q (.mov (.t 1)), none⟩,
    ⟨some 4, .q (.eq .iface true (.t 3) (.v (.nilIface))), none⟩] [0, 1, 4])
  (.cond (.t 4) (.ops [⟨some 5, .q (.mov (.t 1)), none⟩,
    ⟨some 6, .q (.assert1 127 (.t 5)), none⟩,
    ⟨none, .e (.store 2 (.t 0) (.t 6)) [], none⟩] []) (.skip)), []⟩
/-- '(*binnacle/mean.run).function' -/
def i122 : IFunc := ⟨.seq (.ops [⟨some 6, .e (.alloc 185 [.int .i64 0, .int .i64 0]) [], none⟩] [0, 1, 2, 6])
  (.seq (.ops [⟨some 11, .q (.mov (.t 0)), none⟩,
    ⟨some 12, .q (.mov (.t 1)), none⟩,
    ⟨some 13, .e (.call 154 [.t 11, .t 12]) [], none⟩,
    ⟨some 14, .e (.call 30 [.t 13]) [], none⟩,
    ⟨some 7, .e (.set (.t 14)) [], none⟩] [0, 1, 2, 6, 7])
  (.seq (.ops [⟨some 15, .q (.mov (.t 0)), none⟩,
    ⟨some 16, .q (.nilc (.t 15)), none⟩,
    ⟨some 17, .q (.addr 13 (.t 16)), none⟩,
    ⟨some 18, .q (.load none (.t 17)), none⟩,
    ⟨some 19, .q (.mov (.t 7)), none⟩,
    ⟨some 20, .q (.bin .add (.t 18) (.t 19)), none⟩,
    ⟨some 21, .q (.nilc (.t 15)), none⟩,
    ⟨some 22, .q (.addr 13 (.t 21)), none⟩,
    ⟨none, .e (.store 1 (.t 22) (.t 20)) [], none⟩] [0, 1, 2, 6, 7])
  (.seq (.ops [⟨some 23, .q (.mov (.t 0)), none⟩,
    ⟨some 24, .q (.mov (.t 0)), none⟩,
    ⟨some 25, .q (.nilc (.t 24)), none⟩,
    ⟨some 26, .q (.addr 14 (.t 25)), none⟩,
    ⟨some 27, .q (.load none (.t 26)), none⟩,
    ⟨some 28, .q (.mov (.t 0)), none⟩,
    ⟨some 29, .q (.nilc (.t 28)), none⟩,
    ⟨some 30, .q (.addr 13 (.t 29)), none⟩,
    ⟨some 31, .q (.load none (.t 30)), none⟩,
    ⟨some 32, .q (.maxi (.t 27) (.t 31)), none⟩,
    ⟨some 33, .q (.nilc (.t 23)), none⟩,
    ⟨some 34, .q (.addr 14 (.t 33)), none⟩,
    ⟨none, .e (.store 1 (.t 34) (.t 32)) [], none⟩] [0, 1, 2, 6, 7])
  (.seq (.seq (.ops [⟨some 35, .q (.mov (.t 0)), none⟩,
    ⟨some 36, .q (.nilc (.t 35)), none⟩,
    ⟨some 37, .q (.addr 13 (.t 36)), none⟩,
    ⟨some 38, .q (.load none (.t 37)), none⟩,
    ⟨some 39, .q (.bin .gtr (.t 38) (.v (.int .i64 1600))), none⟩] [0, 1, 2, 6, 7, 39])
  (.cond (.t 39) (.ops [⟨some 40, .q (.build [.int .i64 0, .int .i64 0] [(0, 1, .v (.int .i64 4))]), none⟩,
    ⟨some 41, .q (.iface 127 (.t 40)), none⟩,
    ⟨none, .e (.panic (.t 41)) [], none⟩] [0, 1, 2, 6, 7]) (.skip)))
  (.seq (.ops [⟨some 42, .e (.call 119 [.v (.int .i64 0)]) [], none⟩,
    ⟨some 43, .q (.build [.int .i64 0, .int .i64 0, .int .i64 0, .int .i64 0, .int .i64 0, .int .i64 0, .int .i64 0, .int .i64 0, .int .i64 0, .int .i64 0, .int .i64 0, .int .i64 0, .int .i64 0, .int .i64 0, .int .i64 0, .int .i64 0, .int .i64 0, .int .i64 0, .int .i64 0, .int .i64 0, .int .i64 0, .int .i64 0, .int .i64 0, .int .i64 0, .int .i64 0, .int .i64 0, .int .i64 0, .int .i64 0, .int .i64 0, .int .i64 0, .int .i64 0, .int .i64 0, .int .i64 0, .int .i64 0, .int .i64 0, .int .i64 0, .int .i64 0, .int .i64 0, .int .i64 0, .int .i64 0, .int .i64 0, .int .i64 0, .int .i64 0, .int .i64 0, .int .i64 0, .int .i64 0, .int .i64 0, .int .i64 0, .int .i64 0, .int .i64 0] [(48, 2, .t 42)]), none⟩,
    ⟨some 44, .e (.box 217 (.t 43)) [], none⟩,
    ⟨some 8, .e (.set (.t 44)) [], none⟩] [0, 1, 2, 6, 7, 8])
  (.seq (.seq (.ops [⟨some 45, .q (.mov (.v (.int .i64 0))), none⟩] [0, 1, 2, 6, 7, 8, 45])
  (.block 0 (.loop [0, 1, 2, 6, 7, 8, 45] (.seq (.ops [⟨some 46, .q (.bin .lss (.t 45) (.v (.int .i64 24))), none⟩] [0, 1, 2, 6, 7, 8, 45, 46])
  (.seq (.cond (.t 46) (.skip) (.exit 0))
  (.seq (.block 1 (.seq (.ops [⟨some 47, .q (.mov (.t 45)), none⟩,
    ⟨some 9, .e (.set (.t 47)) [], none⟩] [0, 1, 2, 6, 7, 8, 9, 45])
  (.ops [⟨some 48, .q (.mov (.t 8)), none⟩,
    ⟨some 49, .q (.mov (.t 9)), none⟩,
    ⟨some 51, .q (.nilc (.t 48)), none⟩,
    ⟨some 52, .q (.addr 0 (.t 51)), none⟩,
    ⟨some 50, .e (.call 119 [.v (.int .i64 0)]) [], none⟩,
    ⟨some 53, .q (.ixArr 2 24 (.t 52) (.t 49)), none⟩,
    ⟨none, .e (.store 2 (.t 53) (.t 50)) [], none⟩] [0, 1, 2, 6, 7, 8, 45])))
  (.ops [⟨some 54, .q (.bin .add (.t 45) (.v (.int .i64 1))), none⟩,
    ⟨some 45, .q (.mov (.t 54)), none⟩] [0, 1, 2, 6, 7, 8, 45])))))))
  (.seq (.ops [⟨some 55, .q (.mov (.t 8)), none⟩,
    ⟨some 56, .q (.nilc (.t 55)), none⟩,
    ⟨some 57, .q (.addr 0 (.t 56)), none⟩,
    ⟨some 58, .q (.slArr 2 24 (.t 57) none none), none⟩,
    ⟨some 59, .q (.mov (.t 2)), none⟩,
    ⟨some 60, .e (.copy 2 (.t 58) (.t 59)) [], none⟩] [0, 1, 6, 7, 8])
  (.seq (.ops [⟨some 61, .q (.mov (.t 0)), none⟩,
    ⟨some 62, .q (.nilc (.t 61)), none⟩,
    ⟨some 63, .q (.addr 0 (.t 62)), none⟩,
    ⟨some 64, .q (.load none (.t 63)), none⟩,
    ⟨some 65, .q (.mov (.t 1)), none⟩,
    ⟨some 66, .q (.ixSl 6 (.t 64) (.t 65)), none⟩,
    ⟨some 67, .q (.load (some 6) (.t 66)), none⟩,
    ⟨some 10, .e (.alloc 47 [.int .i64 0, .int .i64 0, .str [], .int .i64 0, .int .i64 0, .nilslice]) [], none⟩,
    ⟨none, .e (.store 6 (.t 10) (.t 67)) [], none⟩] [0, 6, 7, 8, 10])
  (.seq (.ops [⟨some 68, .q (.mov (.t 0)), none⟩,
    ⟨some 69, .q (.mov (.t 8)), none⟩,
    ⟨some 70, .q (.addr 5 (.t 10)), none⟩,
    ⟨some 71, .q (.load none (.t 70)), none⟩,
    ⟨some 72, .q (.addr 4 (.t 10)), none⟩,
    ⟨some 73, .q (.load none (.t 72)), none⟩,
    ⟨some 74, .q (.ixSl 1 (.t 71) (.t 73)), none⟩,
    ⟨some 75, .q (.load none (.t 74)), none⟩,
    ⟨some 76, .e (.call 155 [.t 68, .t 69, .t 75]) [], none⟩] [0, 6, 7, 8])
  (.seq (.ops [⟨some 77, .q (.mov (.t 0)), none⟩,
    ⟨some 78, .q (.nilc (.t 77)), none⟩,
    ⟨some 79, .q (.addr 13 (.t 78)), none⟩,
    ⟨some 80, .q (.load none (.t 79)), none⟩,
    ⟨some 81, .q (.mov (.t 7)), none⟩,
    ⟨some 82, .q (.bin .sub (.t 80) (.t 81)), none⟩,
    ⟨some 83, .q (.nilc (.t 77)), none⟩,
    ⟨some 84, .q (.addr 13 (.t 83)), none⟩,
    ⟨none, .e (.store 1 (.t 84) (.t 82)) [], none⟩] [6, 8])
  (.seq (.ops [⟨some 85, .q (.mov (.t 8)), none⟩,
    ⟨some 86, .q (.nilc (.t 85)), none⟩,
    ⟨some 87, .q (.addr 48 (.t 86)), none⟩,
    ⟨some 88, .q (.load (some 2) (.t 87)), none⟩,
    ⟨none, .e (.store 2 (.t 6) (.t 88)) [], none⟩] [6])
  (.ret)))))))))))), [.cell 6 (some 2)]⟩
/-- '(*binnacle/front.reader).escape' -/
def i127 : IFunc := ⟨.seq (.ops [⟨some 4, .e (.set (.v (.int .u8 0))) [], none⟩,
    ⟨some 5, .e (.set (.v (.bool false))) [], none⟩] [0, 1])
  (.seq (.seq (.ops [⟨some 8, .q (.mov (.t 0)), none⟩,
    ⟨some 9, .q (.nilc (.t 8)), none⟩,
    ⟨some 10, .q (.addr 1 (.t 9)), none⟩,
    ⟨some 11, .q (.load none (.t 10)), none⟩,
    ⟨some 12, .q (.mov (.t 0)), none⟩,
    ⟨some 13, .q (.nilc (.t 12)), none⟩,
    ⟨some 14, .q (.addr 0 (.t 13)), none⟩,
    ⟨some 15, .q (.load none (.t 14)), none⟩,
    ⟨some 16, .q (.len .str (.t 15)), none⟩,
    ⟨some 17, .q (.bin .geq (.t 11) (.t 16)), none⟩] [0, 1, 17])
  (.cond (.t 17) (.seq (.ops [⟨some 4, .e (.set (.v (.int .u8 0))) [], none⟩,
    ⟨some 5, .e (.set (.v (.bool false))) [], none⟩] [4, 5])
  (.ret)) (.skip)))
  (.seq (.ops [⟨some 18, .q (.mov (.t 0)), none⟩,
    ⟨some 19, .q (.nilc (.t 18)), none⟩,
    ⟨some 20, .q (.addr 0 (.t 19)), none⟩,
    ⟨some 21, .q (.load none (.t 20)), none⟩,
    ⟨some 22, .q (.mov (.t 0)), none⟩,
    ⟨some 23, .q (.nilc (.t 22)), none⟩,
    ⟨some 24, .q (.addr 1 (.t 23)), none⟩,
    ⟨some 25, .q (.load none (.t 24)), none⟩,
    ⟨some 26, .q (.ixStr (.t 21) (.t 25)), none⟩,
    ⟨some 6, .e (.set (.t 26)) [], none⟩] [0, 1, 6])
  (.seq (.ops [⟨some 27, .q (.mov (.t 0)), none⟩,
    ⟨some 28, .q (.nilc (.t 27)), none⟩,
    ⟨some 29, .q (.addr 1 (.t 28)), none⟩,
    ⟨some 30, .q (.load none (.t 29)), none⟩,
    ⟨some 31, .q (.bin .add (.t 30) (.v (.int .i64 1))), none⟩,
    ⟨some 32, .q (.nilc (.t 27)), none⟩,
    ⟨some 33, .q (.addr 1 (.t 32)), none⟩,
    ⟨none, .e (.store 1 (.t 33) (.t 31)) [], none⟩] [0, 1, 6])
  (.seq (.seq (.ops [⟨some 34, .q (.mov (.t 6)), none⟩,
    ⟨some 35, .q (.bin .neq (.t 34) (.v (.int .u8 92))), none⟩] [0, 1, 6, 35])
  (.cond (.t 35) (.seq (.ops [⟨some 36, .q (.mov (.t 6)), none⟩,
    ⟨some 37, .q (.mov (.t 6)), none⟩,
    ⟨some 38, .q (.bin .geq (.t 37) (.v (.int .u8 32))), none⟩,
    ⟨some 39, .q (.mov (.t 38)), none⟩,
    ⟨some 40, .q (.mov (.t 6)), some (39, true)⟩,
    ⟨some 41, .q (.bin .leq (.t 40) (.v (.int .u8 126))), some (39, true)⟩,
    ⟨some 42, .q (.pick (.t 39) (.t 41) (.v (.bool false))), none⟩,
    ⟨some 43, .q (.mov (.t 42)), none⟩,
    ⟨some 44, .q (.mov (.t 6)), some (43, true)⟩,
    ⟨some 45, .q (.mov (.t 1)), some (43, true)⟩,
    ⟨some 46, .q (.bin .neq (.t 44) (.t 45)), some (43, true)⟩,
    ⟨some 47, .q (.pick (.t 43) (.t 46) (.v (.bool false))), none⟩,
    ⟨some 4, .e (.set (.t 36)) [], none⟩,
    ⟨some 5, .e (.set (.t 47)) [], none⟩] [4, 5])
  (.ret)) (.skip)))
  (.seq (.seq (.ops [⟨some 48, .q (.mov (.t 0)), none⟩,
    ⟨some 49, .q (.nilc (.t 48)), none⟩,
    ⟨some 50, .q (.addr 1 (.t 49)), none⟩,
    ⟨some 51, .q (.load none (.t 50)), none⟩,
    ⟨some 52, .q (.mov (.t 0)), none⟩,
    ⟨some 53, .q (.nilc (.t 52)), none⟩,
    ⟨some 54, .q (.addr 0 (.t 53)), none⟩,
    ⟨some 55, .q (.load none (.t 54)), none⟩,
    ⟨some 56, .q (.len .str (.t 55)), none⟩,
    ⟨some 57, .q (.bin .geq (.t 51) (.t 56)), none⟩] [0, 57])
  (.cond (.t 57) (.seq (.ops [⟨some 4, .e (.set (.v (.int .u8 0))) [], none⟩,
    ⟨some 5, .e (.set (.v (.bool false))) [], none⟩] [4, 5])
  (.ret)) (.skip)))
  (.seq (.ops [⟨some 58, .q (.mov (.t 0)), none⟩,
    ⟨some 59, .q (.nilc (.t 58)), none⟩,
    ⟨some 60, .q (.addr 0 (.t 59)), none⟩,
    ⟨some 61, .q (.load none (.t 60)), none⟩,
    ⟨some 62, .q (.mov (.t 0)), none⟩,
    ⟨some 63, .q (.nilc (.t 62)), none⟩,
    ⟨some 64, .q (.addr 1 (.t 63)), none⟩,
    ⟨some 65, .q (.load none (.t 64)), none⟩,
    ⟨some 66, .q (.ixStr (.t 61) (.t 65)), none⟩,
    ⟨some 67, .e (.call 168 [.v (.str [110, 116, 48, 92, 39, 34]), .t 66]) [], none⟩,
    ⟨some 7, .e (.set (.t 67)) [], none⟩] [0, 7])
  (.seq (.ops [⟨some 68, .q (.mov (.t 0)), none⟩,
    ⟨some 69, .q (.nilc (.t 68)), none⟩,
    ⟨some 70, .q (.addr 1 (.t 69)), none⟩,
    ⟨some 71, .q (.load none (.t 70)), none⟩,
    ⟨some 72, .q (.bin .add (.t 71) (.v (.int .i64 1))), none⟩,
    ⟨some 73, .q (.nilc (.t 68)), none⟩,
    ⟨some 74, .q (.addr 1 (.t 73)), none⟩,
    ⟨none, .e (.store 1 (.t 74) (.t 72)) [], none⟩] [7])
  (.seq (.seq (.ops [⟨some 75, .q (.mov (.t 7)), none⟩,
    ⟨some 76, .q (.bin .lss (.t 75) (.v (.int .i64 0))), none⟩] [7, 76])
  (.cond (.t 76) (.seq (.ops [⟨some 4, .e (.set (.v (.int .u8 0))) [], none⟩,
    ⟨some 5, .e (.set (.v (.bool false))) [], none⟩] [4, 5])
  (.ret)) (.skip)))
  (.seq (.ops [⟨some 77, .q (.mov (.t 7)), none⟩,
    ⟨some 78, .q (.ixStr (.v (.str [10, 9, 0, 92, 39, 34])) (.t 77)), none⟩,
    ⟨some 4, .e (.set (.t 78)) [], none⟩,
    ⟨some 5, .e (.set (.v (.bool true))) [], none⟩] [4, 5])
  (.ret)))))))))), [.slot 4, .slot 5]⟩
/-- '(*strings.Builder).Len' -/
def i128 : IFunc := ⟨.seq (.ops [⟨some 2, .e (.set (.v (.int .i64 0))) [], none⟩] [0])
  (.seq (.ops [⟨some 3, .q (.mov (.t 0)), none⟩,
    ⟨some 4, .q (.nilc (.t 3)), none⟩,
    ⟨some 5, .q (.addr 1 (.t 4)), none⟩,
    ⟨some 6, .q (.load none (.t 5)), none⟩,
    ⟨some 7, .q (.len .slice (.t 6)), none⟩,
    ⟨some 2, .e (.set (.t 7)) [], none⟩] [2])
  (.ret)), [.slot 2]⟩
/-- '(*strings.Builder).WriteByte' -/
def i129 : IFunc := ⟨.seq (.ops [⟨some 4, .e (.set (.v (.nilIface))) [], none⟩] [0, 1])
  (.seq (.ops [⟨some 5, .q (.mov (.t 0)), none⟩,
    ⟨some 6, .e (.call 169 [.t 5]) [], none⟩] [0, 1])
  (.seq (.ops [⟨some 7, .q (.mov (.t 0)), none⟩,
    ⟨some 8, .q (.mov (.t 0)), none⟩,
    ⟨some 9, .q (.nilc (.t 8)), none⟩,
    ⟨some 10, .q (.addr 1 (.t 9)), none⟩,
    ⟨some 11, .q (.load none (.t 10)), none⟩,
    ⟨some 12, .q (.mov (.t 1)), none⟩,
    ⟨some 13, .e (.bslice 5 1 1 [.int .u8 0] [(0, 1, .t 12)]) [], none⟩,
    ⟨some 14, .e (.append 5 1 1 (.t 11) (.t 13)) [], none⟩,
    ⟨some 15, .q (.nilc (.t 7)), none⟩,
    ⟨some 16, .q (.addr 1 (.t 15)), none⟩,
    ⟨none, .e (.store 1 (.t 16) (.t 14)) [], none⟩] [])
  (.seq (.ops [⟨some 4, .e (.set (.v (.nilIface))) [], none⟩] [4])
  (.ret)))), [.slot 4]⟩
/-- 'internal/stringslite.HasPrefix' -/
def i130 : IFunc := ⟨.seq (.ops [⟨some 4, .e (.set (.v (.bool false))) [], none⟩] [0, 1])
  (.seq (.ops [⟨some 5, .q (.mov (.t 0)), none⟩,
    ⟨some 6, .q (.len .str (.t 5)), none⟩,
    ⟨some 7, .q (.mov (.t 1)), none⟩,
    ⟨some 8, .q (.len .str (.t 7)), none⟩,
    ⟨some 9, .q (.bin .geq (.t 6) (.t 8)), none⟩,
    ⟨some 10, .q (.mov (.t 9)), none⟩,
    ⟨some 11, .q (.mov (.t 0)), some (10, true)⟩,
    ⟨some 12, .q (.mov (.t 1)), some (10, true)⟩,
    ⟨some 13, .q (.len .str (.t 12)), some (10, true)⟩,
    ⟨some 14, .q (.slStr (.t 11) none (some (.t 13))), some (10, true)⟩,
    ⟨some 15, .q (.mov (.t 1)), some (10, true)⟩,
    ⟨some 16, .q (.bin .eql (.t 14) (.t 15)), some (10, true)⟩,
    ⟨some 17, .q (.pick (.t 10) (.t 16) (.v (.bool false))), none⟩,
    ⟨some 4, .e (.set (.t 17)) [], none⟩] [4])
  (.ret)), [.slot 4]⟩
/-- '(*binnacle/front.reader).next' -/
def i131 : IFunc := ⟨.seq (.ops [⟨some 2, .e (.alloc 80 [.int .i64 0, .int .i64 0, .str [], .int .i64 0]) [], none⟩] [0, 2])
  (.seq (.ops [⟨some 4, .q (.mov (.t 0)), none⟩,
    ⟨some 5, .q (.nilc (.t 4)), none⟩,
    ⟨some 6, .q (.addr 2 (.t 5)), none⟩,
    ⟨some 7, .q (.load (some 4) (.t 6)), none⟩,
    ⟨some 3, .e (.alloc 80 [.int .i64 0, .int .i64 0, .str [], .int .i64 0]) [], none⟩,
    ⟨none, .e (.store 4 (.t 3) (.t 7)) [], none⟩] [0, 2, 3])
  (.seq (.ops [⟨some 8, .q (.mov (.t 0)), none⟩,
    ⟨some 9, .q (.mov (.t 0)), none⟩,
    ⟨some 10, .e (.call 34 [.t 9]) [], none⟩,
    ⟨some 11, .q (.nilc (.t 8)), none⟩,
    ⟨some 12, .q (.addr 2 (.t 11)), none⟩,
    ⟨none, .e (.store 4 (.t 12) (.t 10)) [], none⟩] [2, 3])
  (.seq (.ops [⟨some 13, .q (.load (some 4) (.t 3)), none⟩,
    ⟨none, .e (.store 4 (.t 2) (.t 13)) [], none⟩] [2])
  (.ret)))), [.cell 2 (some 4)]⟩
/-- '(*binnacle/front.reader).param' -/
def i132 : IFunc := ⟨.seq (.ops [⟨some 2, .e (.alloc 47 [.int .i64 0, .int .i64 0, .str [], .int .i64 0, .int .i64 0, .nilslice]) [], none⟩] [0, 2])
  (.seq (.ops [⟨some 5, .q (.mov (.t 0)), none⟩,
    ⟨some 6, .q (.nilc (.t 5)), none⟩,
    ⟨some 7, .q (.addr 2 (.t 6)), none⟩,
    ⟨some 8, .q (.addr 1 (.t 7)), none⟩,
    ⟨some 9, .q (.load none (.t 8)), none⟩,
    ⟨some 3, .e (.set (.t 9)) [], none⟩] [0, 2, 3])
  (.seq (.ops [⟨some 4, .e (.set (.v (.int .i64 1))) [], none⟩] [0, 2, 3, 4])
  (.seq (.block 0 (.seq (.ops [⟨some 15, .q (.mov (.t 0)), none⟩,
    ⟨some 16, .e (.call 71 [.t 15, .v (.str [99, 104, 97, 114])]) [], none⟩,
    ⟨some 14, .e (.set (.t 16)) [], none⟩] [0, 2, 3, 4, 14])
  (.cond (.t 14) (.seq (.ops [⟨some 17, .q (.mov (.t 0)), none⟩,
    ⟨some 18, .e (.call 72 [.t 17, .v (.str [42])]) [], none⟩] [0, 2, 3])
  (.ops [⟨some 4, .e (.set (.v (.int .i64 2))) [], none⟩] [0, 2, 3, 4])) (.seq (.ops [⟨some 10, .q (.mov (.t 0)), none⟩,
    ⟨some 11, .e (.call 72 [.t 10, .v (.str [105, 110, 116])]) [], none⟩] [0, 2, 3, 4])
  (.seq (.ops [⟨some 12, .q (.mov (.t 0)), none⟩,
    ⟨some 13, .e (.call 71 [.t 12, .v (.str [42])]) [], none⟩] [0, 2, 3, 4, 13])
  (.cond (.t 13) (.ops [⟨some 4, .e (.set (.v (.int .i64 3))) [], none⟩] [0, 2, 3, 4]) (.skip)))))))
  (.seq (.ops [⟨some 19, .q (.mov (.t 3)), none⟩,
    ⟨some 20, .q (.mov (.t 4)), none⟩,
    ⟨some 21, .q (.mov (.t 0)), none⟩,
    ⟨some 22, .e (.call 73 [.t 21, .v (.int .i64 1)]) [], none⟩,
    ⟨some 23, .q (.field none 2 (.t 22)), none⟩,
    ⟨some 24, .q (.build [.int .i64 0, .int .i64 0, .str [], .int .i64 0, .int .i64 0, .nilslice] [(0, 1, .v (.int .i64 18)), (1, 1, .t 19), (4, 1, .t 20), (2, 1, .t 23)]), none⟩,
    ⟨none, .e (.store 6 (.t 2) (.t 24)) [], none⟩] [2])
  (.ret))))), [.cell 2 (some 6)]⟩
/-- '(*binnacle/front.reader).block' -/
def i133 : IFunc := ⟨.seq (.ops [⟨some 2, .e (.set (.v (.int .i64 0))) [], none⟩] [0])
  (.seq (.ops [⟨some 5, .q (.mov (.t 0)), none⟩,
    ⟨some 6, .q (.nilc (.t 5)), none⟩,
    ⟨some 7, .q (.addr 2 (.t 6)), none⟩,
    ⟨some 8, .q (.addr 1 (.t 7)), none⟩,
    ⟨some 9, .q (.load none (.t 8)), none⟩,
    ⟨some 3, .e (.set (.t 9)) [], none⟩] [0, 3])
  (.seq (.ops [⟨some 10, .q (.mov (.t 0)), none⟩,
    ⟨some 11, .e (.call 72 [.t 10, .v (.str [123])]) [], none⟩] [0, 3])
  (.seq (.ops [⟨some 4, .e (.set (.v (.nilslice))) [], none⟩] [0, 3, 4])
  (.seq (.block 0 (.loop [0, 3, 4] (.seq (.seq (.ops [⟨some 12, .q (.mov (.t 0)), none⟩,
    ⟨some 13, .e (.call 74 [.t 12, .v (.str [125])]) [], none⟩,
    ⟨some 14, .q (.un .not (.t 13)), none⟩] [0, 3, 4, 14])
  (.cond (.t 14) (.skip) (.exit 0)))
  (.block 1 (.ops [⟨some 15, .q (.mov (.t 4)), none⟩,
    ⟨some 16, .q (.mov (.t 0)), none⟩,
    ⟨some 17, .e (.call 170 [.t 16]) [], none⟩,
    ⟨some 18, .e (.bslice 3 1 1 [.int .i64 0] [(0, 1, .t 17)]) [], none⟩,
    ⟨some 19, .e (.append 3 1 8 (.t 15) (.t 18)) [], none⟩,
    ⟨some 4, .e (.set (.t 19)) [], none⟩] [0, 3, 4])))))
  (.seq (.ops [⟨some 20, .q (.mov (.t 0)), none⟩,
    ⟨some 21, .e (.call 131 [.t 20]) [], none⟩] [0, 3, 4])
  (.seq (.ops [⟨some 22, .q (.mov (.t 0)), none⟩,
    ⟨some 23, .q (.mov (.t 3)), none⟩,
    ⟨some 24, .q (.mov (.t 4)), none⟩,
    ⟨some 25, .q (.build [.int .i64 0, .int .i64 0, .str [], .int .i64 0, .int .i64 0, .nilslice] [(0, 1, .v (.int .i64 17)), (1, 1, .t 23), (5, 1, .t 24)]), none⟩,
    ⟨some 26, .e (.call 36 [.t 22, .t 25]) [], none⟩,
    ⟨some 2, .e (.set (.t 26)) [], none⟩] [2])
  (.ret))))))), [.slot 2]⟩
/-- 'binnacle/front.sort' -/
def i135 : IFunc := ⟨.seq (.ops [⟨some 2, .e (.set (.v (.int .i64 0))) [], none⟩] [0])
  (.seq (.block 0 (.seq (.ops [⟨some 4, .q (.mov (.t 0)), none⟩,
    ⟨some 5, .q (.bin .geq (.t 4) (.v (.int .i64 1))), none⟩,
    ⟨some 6, .q (.mov (.t 5)), none⟩,
    ⟨some 7, .q (.mov (.t 0)), some (6, true)⟩,
    ⟨some 8, .q (.bin .leq (.t 7) (.v (.int .i64 7))), some (6, true)⟩,
    ⟨some 9, .q (.pick (.t 6) (.t 8) (.v (.bool false))), none⟩,
    ⟨some 3, .e (.set (.t 9)) [], none⟩] [0, 3])
  (.cond (.t 3) (.seq (.ops [⟨some 2, .e (.set (.v (.int .i64 1))) [], none⟩] [2])
  (.ret)) (.seq (.ops [⟨some 11, .q (.mov (.t 0)), none⟩,
    ⟨some 12, .q (.bin .geq (.t 11) (.v (.int .i64 10))), none⟩,
    ⟨some 13, .q (.mov (.t 12)), none⟩,
    ⟨some 14, .q (.mov (.t 0)), some (13, true)⟩,
    ⟨some 15, .q (.bin .leq (.t 14) (.v (.int .i64 18))), some (13, true)⟩,
    ⟨some 16, .q (.pick (.t 13) (.t 15) (.v (.bool false))), none⟩,
    ⟨some 10, .e (.set (.t 16)) [], none⟩] [0, 10])
  (.cond (.t 10) (.seq (.ops [⟨some 2, .e (.set (.v (.int .i64 2))) [], none⟩] [2])
  (.ret)) (.seq (.ops [⟨some 18, .q (.mov (.t 0)), none⟩,
    ⟨some 19, .q (.bin .geq (.t 18) (.v (.int .i64 20))), none⟩,
    ⟨some 20, .q (.mov (.t 19)), none⟩,
    ⟨some 21, .q (.mov (.t 0)), some (20, true)⟩,
    ⟨some 22, .q (.bin .leq (.t 21) (.v (.int .i64 22))), some (20, true)⟩,
    ⟨some 23, .q (.pick (.t 20) (.t 22) (.v (.bool false))), none⟩,
    ⟨some 17, .e (.set (.t 23)) [], none⟩] [0, 17])
  (.cond (.t 17) (.seq (.ops [⟨some 2, .e (.set (.v (.int .i64 3))) [], none⟩] [2])
  (.ret)) (.seq (.ops [⟨some 25, .q (.mov (.t 0)), none⟩,
    ⟨some 26, .q (.bin .eql (.t 25) (.v (.int .i64 23))), none⟩,
    ⟨some 24, .e (.set (.t 26)) [], none⟩] [24])
  (.cond (.t 24) (.seq (.ops [⟨some 2, .e (.set (.v (.int .i64 4))) [], none⟩] [2])
  (.ret)) (.skip))))))))))
  (.seq (.ops [⟨some 2, .e (.set (.v (.int .i64 0))) [], none⟩] [2])
  (.ret))), [.slot 2]⟩
/-- 'strings.Trim' -/
def i136 : IFunc := ⟨.seq (.ops [⟨some 4, .e (.set (.v (.str []))) [], none⟩] [0, 1])
  (.seq (.seq (.ops [⟨some 7, .q (.mov (.t 0)), none⟩,
    ⟨some 8, .q (.bin .eql (.t 7) (.v (.str []))), none⟩,
    ⟨some 9, .q (.mov (.t 8)), none⟩,
    ⟨some 10, .q (.mov (.t 1)), some (9, false)⟩,
    ⟨some 11, .q (.bin .eql (.t 10) (.v (.str []))), some (9, false)⟩,
    ⟨some 12, .q (.pick (.t 9) (.v (.bool true)) (.t 11)), none⟩] [0, 1, 12])
  (.cond (.t 12) (.seq (.ops [⟨some 13, .q (.mov (.t 0)), none⟩,
    ⟨some 4, .e (.set (.t 13)) [], none⟩] [4])
  (.ret)) (.skip)))
  (.seq (.seq (.ops [⟨some 14, .q (.mov (.t 1)), none⟩,
    ⟨some 15, .q (.len .str (.t 14)), none⟩,
    ⟨some 16, .q (.bin .eql (.t 15) (.v (.int .i64 1))), none⟩,
    ⟨some 17, .q (.mov (.t 16)), none⟩,
    ⟨some 18, .q (.mov (.t 1)), some (17, true)⟩,
    ⟨some 19, .q (.ixStr (.t 18) (.v (.int .i64 0))), some (17, true)⟩,
    ⟨some 20, .q (.bin .lss (.t 19) (.v (.int .u8 128))), some (17, true)⟩,
    ⟨some 21, .q (.pick (.t 17) (.t 20) (.v (.bool false))), none⟩] [0, 1, 21])
  (.cond (.t 21) (.seq (.ops [⟨some 22, .q (.mov (.t 0)), none⟩,
    ⟨some 23, .q (.mov (.t 1)), none⟩,
    ⟨some 24, .q (.ixStr (.t 23) (.v (.int .i64 0))), none⟩,
    ⟨some 26, .q (.mov (.t 1)), none⟩,
    ⟨some 27, .q (.ixStr (.t 26) (.v (.int .i64 0))), none⟩,
    ⟨some 25, .e (.call 173 [.t 22, .t 24]) [], none⟩,
    ⟨some 28, .e (.call 172 [.t 25, .t 27]) [], none⟩,
    ⟨some 4, .e (.set (.t 28)) [], none⟩] [4])
  (.ret)) (.skip)))
  (.seq (.seq (.ops [⟨some 30, .q (.mov (.t 1)), none⟩,
    ⟨some 31, .e (.call 174 [.t 30]) [], none⟩,
    ⟨some 29, .q (.mov (.t 31)), none⟩,
    ⟨some 32, .q (.extr 0 (.t 29)), none⟩,
    ⟨some 33, .q (.extr 1 (.t 29)), none⟩,
    ⟨some 5, .e (.alloc 235 [.bool false, .bool false, .bool false, .bool false, .bool false, .bool false, .bool false, .bool false, .bool false, .bool false, .bool false, .bool false, .bool false, .bool false, .bool false, .bool false, .bool false, .bool false, .bool false, .bool false, .bool false, .bool false, .bool false, .bool false, .bool false, .bool false, .bool false, .bool false, .bool false, .bool false, .bool false, .bool false, .bool false, .bool false, .bool false, .bool false, .bool false, .bool false, .bool false, .bool false, .bool false, .bool false, .bool false, .bool false, .bool false, .bool false, .bool false, .bool false, .bool false, .bool false, .bool false, .bool false, .bool false, .bool false, .bool false, .bool false, .bool false, .bool false, .bool false, .bool false, .bool false, .bool false, .bool false, .bool false, .bool false, .bool false, .bool false, .bool false, .bool false, .bool false, .bool false, .bool false, .bool false, .bool false, .bool false, .bool false, .bool false, .bool false, .bool false, .bool false, .bool false, .bool false, .bool false, .bool false, .bool false, .bool false, .bool false, .bool false, .bool false, .bool false, .bool false, .bool false, .bool false, .bool false, .bool false, .bool false, .bool false, .bool false, .bool false, .bool false, .bool false, .bool false, .bool false, .bool false, .bool false, .bool false, .bool false, .bool false, .bool false, .bool false, .bool false, .bool false, .bool false, .bool false, .bool false, .bool false, .bool false, .bool false, .bool false, .bool false, .bool false, .bool false, .bool false, .bool false, .bool false, .bool false, .bool false, .bool false, .bool false, .bool false, .bool false, .bool false, .bool false, .bool false, .bool false, .bool false, .bool false, .bool false, .bool false, .bool false, .bool false, .bool false, .bool false, .bool false, .bool false, .bool false, .bool false, .bool false, .bool false, .bool false, .bool false, .bool false, .bool false, .bool false, .bool false, .bool false, .bool false, .bool false, .bool false, .bool false, .bool false, .bool false, .bool false, .bool false, .bool false, .bool false, .bool false, .bool false, .bool false, .bool false, .bool false, .bool false, .bool false, .bool false, .bool false, .bool false, .bool false, .bool false, .bool false, .bool false, .bool false, .bool false, .bool false, .bool false, .bool false, .bool false, .bool false, .bool false, .bool false, .bool false, .bool false, .bool false, .bool false, .bool false, .bool false, .bool false, .bool false, .bool false, .bool false, .bool false, .bool false, .bool false, .bool false, .bool false, .bool false, .bool false, .bool false, .bool false, .bool false, .bool false, .bool false, .bool false, .bool false, .bool false, .bool false, .bool false, .bool false, .bool false, .bool false, .bool false, .bool false, .bool false, .bool false, .bool false, .bool false, .bool false, .bool false, .bool false, .bool false, .bool false, .bool false, .bool false, .bool false, .bool false, .bool false, .bool false, .bool false, .bool false, .bool false, .bool false, .bool false, .bool false, .bool false, .bool false, .bool false, .bool false, .bool false, .bool false, .bool false, .bool false, .bool false, .bool false, .bool false, .bool false, .bool false, .bool false]) [], none⟩,
    ⟨none, .e (.store 256 (.t 5) (.t 32)) [], none⟩,
    ⟨some 6, .e (.set (.t 33)) [], none⟩] [0, 1, 5, 6])
  (.seq (.ops [⟨some 34, .q (.mov (.t 6)), none⟩] [0, 1, 5, 34])
  (.cond (.t 34) (.seq (.ops [⟨some 35, .q (.mov (.t 0)), none⟩,
    ⟨some 36, .e (.call 176 [.t 35, .t 5]) [], none⟩,
    ⟨some 37, .e (.call 175 [.t 36, .t 5]) [], none⟩,
    ⟨some 4, .e (.set (.t 37)) [], none⟩] [4])
  (.ret)) (.skip))))
  (.seq (.ops [⟨some 38, .q (.mov (.t 0)), none⟩,
    ⟨some 39, .q (.mov (.t 1)), none⟩,
    ⟨some 40, .e (.call 178 [.t 38, .t 39]) [], none⟩,
    ⟨some 41, .q (.mov (.t 1)), none⟩,
    ⟨some 42, .e (.call 177 [.t 40, .t 41]) [], none⟩,
    ⟨some 4, .e (.set (.t 42)) [], none⟩] [4])
  (.ret))))), [.slot 4]⟩
/-- '(*strings.Builder).WriteString' -/
def i137 : IFunc := ⟨.seq (.ops [⟨some 4, .e (.set (.v (.int .i64 0))) [], none⟩,
    ⟨some 5, .e (.set (.v (.nilIface))) [], none⟩] [0, 1])
  (.seq (.ops [⟨some 6, .q (.mov (.t 0)), none⟩,
    ⟨some 7, .e (.call 169 [.t 6]) [], none⟩] [0, 1])
  (.seq (.ops [⟨some 8, .q (.mov (.t 0)), none⟩,
    ⟨some 9, .q (.mov (.t 0)), none⟩,
    ⟨some 10, .q (.nilc (.t 9)), none⟩,
    ⟨some 11, .q (.addr 1 (.t 10)), none⟩,
    ⟨some 12, .q (.load none (.t 11)), none⟩,
    ⟨some 13, .q (.mov (.t 1)), none⟩,
    ⟨some 14, .e (.append 5 1 1 (.t 12) (.t 13)) [], none⟩,
    ⟨some 15, .q (.nilc (.t 8)), none⟩,
    ⟨some 16, .q (.addr 1 (.t 15)), none⟩,
    ⟨none, .e (.store 1 (.t 16) (.t 14)) [], none⟩] [1])
  (.seq (.ops [⟨some 17, .q (.mov (.t 1)), none⟩,
    ⟨some 18, .q (.len .str (.t 17)), none⟩,
    ⟨some 4, .e (.set (.t 18)) [], none⟩,
    ⟨some 5, .e (.set (.v (.nilIface))) [], none⟩] [4, 5])
  (.ret)))), [.slot 4, .slot 5]⟩
/-- '(*binnacle/front.writer).expr' -/
def i139 : IFunc := ⟨.seq (.ops [⟨some 2, .e (.box 87 (.t 0)) [], none⟩] [1, 2])
  (.seq (.ops [⟨some 7, .q (.load none (.t 2)), none⟩,
    ⟨some 8, .q (.nilc (.t 7)), none⟩,
    ⟨some 9, .q (.addr 0 (.t 8)), none⟩,
    ⟨some 10, .q (.load none (.t 9)), none⟩,
    ⟨some 11, .q (.mov (.t 1)), none⟩,
    ⟨some 12, .q (.ixSl 6 (.t 10) (.t 11)), none⟩,
    ⟨some 13, .q (.load (some 6) (.t 12)), none⟩,
    ⟨some 4, .e (.alloc 47 [.int .i64 0, .int .i64 0, .str [], .int .i64 0, .int .i64 0, .nilslice]) [], none⟩,
    ⟨none, .e (.store 6 (.t 4) (.t 13)) [], none⟩] [2, 4])
  (.seq (.ops [⟨some 14, .q (.func (.func 183) [] [.t 2, .t 4]), none⟩,
    ⟨some 5, .e (.alloc 70 [.nilfunc]) [], none⟩,
    ⟨none, .e (.store 1 (.t 5) (.t 14)) [], none⟩] [2, 4, 5])
  (.seq (.ops [⟨some 15, .q (.addr 0 (.t 4)), none⟩,
    ⟨some 16, .q (.load none (.t 15)), none⟩] [2, 4, 5, 16])
  (.block 0 (.seq (.ops [⟨some 18, .q (.bin .eql (.t 16) (.v (.int .i64 1))), none⟩,
    ⟨some 17, .e (.set (.t 18)) [], none⟩] [2, 4, 5, 16, 17])
  (.cond (.t 17) (.ops [⟨some 19, .q (.load none (.t 2)), none⟩,
    ⟨some 20, .q (.addr 3 (.t 4)), none⟩,
    ⟨some 21, .q (.load none (.t 20)), none⟩,
    ⟨some 22, .q (.fmt (.t 21)), none⟩,
    ⟨some 23, .e (.bslice 9 1 1 [.str []] [(0, 1, .t 22)]) [], none⟩,
    ⟨some 24, .e (.call 77 [.t 19, .t 23]) [], none⟩] []) (.seq (.ops [⟨some 26, .q (.bin .eql (.t 16) (.v (.int .i64 2))), none⟩,
    ⟨some 25, .e (.set (.t 26)) [], none⟩] [2, 4, 5, 16, 25])
  (.cond (.t 25) (.ops [⟨some 27, .q (.load none (.t 2)), none⟩,
    ⟨some 28, .q (.addr 2 (.t 4)), none⟩,
    ⟨some 29, .q (.load none (.t 28)), none⟩,
    ⟨some 30, .e (.call 184 [.t 29]) [(27, .load none (.t 2))], none⟩,
    ⟨some 31, .e (.bslice 9 1 1 [.str []] [(0, 1, .t 30)]) [], none⟩,
    ⟨some 32, .e (.call 77 [.t 27, .t 31]) [], none⟩] []) (.seq (.ops [⟨some 34, .q (.bin .eql (.t 16) (.v (.int .i64 3))), none⟩,
    ⟨some 33, .e (.set (.t 34)) [], none⟩] [2, 4, 5, 16, 33])
  (.cond (.t 33) (.ops [⟨some 35, .q (.load none (.t 2)), none⟩,
    ⟨some 36, .q (.addr 2 (.t 4)), none⟩,
    ⟨some 37, .q (.load none (.t 36)), none⟩,
    ⟨some 38, .e (.bslice 9 1 1 [.str []] [(0, 1, .t 37)]) [], none⟩,
    ⟨some 39, .e (.call 77 [.t 35, .t 38]) [], none⟩] []) (.seq (.ops [⟨some 41, .q (.bin .eql (.t 16) (.v (.int .i64 4))), none⟩,
    ⟨some 40, .e (.set (.t 41)) [], none⟩] [2, 4, 5, 16, 40])
  (.cond (.t 40) (.seq (.ops [⟨some 42, .q (.load none (.t 2)), none⟩,
    ⟨some 43, .q (.addr 2 (.t 4)), none⟩,
    ⟨some 44, .q (.load none (.t 43)), none⟩,
    ⟨some 45, .e (.bslice 9 1 2 [.str []] [(0, 1, .t 44), (1, 1, .v (.str [40]))]) [], none⟩,
    ⟨some 46, .e (.call 77 [.t 42, .t 45]) [], none⟩] [2, 4])
  (.seq (.ops [⟨some 47, .q (.load none (.t 2)), none⟩,
    ⟨some 48, .q (.addr 5 (.t 4)), none⟩,
    ⟨some 49, .q (.load none (.t 48)), none⟩,
    ⟨some 50, .q (.load none (.t 2)), none⟩,
    ⟨some 51, .q (.func (.func 139) [.t 50] []), none⟩,
    ⟨some 52, .e (.call 79 [.t 47, .t 49, .t 51]) [], none⟩] [2])
  (.ops [⟨some 53, .q (.load none (.t 2)), none⟩,
    ⟨some 54, .e (.bslice 9 1 1 [.str []] [(0, 1, .v (.str [41]))]) [], none⟩,
    ⟨some 55, .e (.call 77 [.t 53, .t 54]) [], none⟩] []))) (.seq (.ops [⟨some 57, .q (.bin .eql (.t 16) (.v (.int .i64 5))), none⟩,
    ⟨some 56, .e (.set (.t 57)) [], none⟩] [2, 4, 5, 16, 56])
  (.cond (.t 56) (.seq (.ops [⟨some 58, .q (.load none (.t 2)), none⟩,
    ⟨some 59, .q (.addr 5 (.t 4)), none⟩,
    ⟨some 60, .q (.load none (.t 59)), none⟩,
    ⟨some 61, .q (.ixSl 1 (.t 60) (.v (.int .i64 0))), none⟩,
    ⟨some 62, .q (.load none (.t 61)), none⟩,
    ⟨some 63, .q (.load none (.t 5)), none⟩,
    ⟨some 64, .e (.callv (.t 63) [.v (.int .i64 0)]) [(62, .load none (.t 61)), (60, .load none (.t 59)), (58, .load none (.t 2))], none⟩,
    ⟨some 65, .q (.bin .eql (.t 64) (.v (.int .i64 6))), none⟩,
    ⟨some 66, .q (.mov (.t 65)), none⟩,
    ⟨some 67, .q (.load none (.t 5)), some (66, false)⟩,
    ⟨some 68, .e (.callv (.t 67) [.v (.int .i64 0)]) [(62, .load none (.t 61)), (60, .load none (.t 59)), (58, .load none (.t 2))], some (66, false)⟩,
    ⟨some 69, .q (.bin .eql (.t 68) (.v (.int .i64 7))), some (66, false)⟩,
    ⟨some 70, .q (.pick (.t 66) (.v (.bool true)) (.t 69)), none⟩,
    ⟨some 71, .e (.call 185 [.t 58, .t 62, .t 70]) [], none⟩] [2, 4])
  (.seq (.ops [⟨some 72, .q (.load none (.t 2)), none⟩,
    ⟨some 73, .e (.bslice 9 1 1 [.str []] [(0, 1, .v (.str [91]))]) [], none⟩,
    ⟨some 74, .e (.call 77 [.t 72, .t 73]) [], none⟩] [2, 4])
  (.seq (.ops [⟨some 75, .q (.load none (.t 2)), none⟩,
    ⟨some 76, .q (.addr 5 (.t 4)), none⟩,
    ⟨some 77, .q (.load none (.t 76)), none⟩,
    ⟨some 78, .q (.ixSl 1 (.t 77) (.v (.int .i64 1))), none⟩,
    ⟨some 79, .q (.load none (.t 78)), none⟩,
    ⟨some 80, .e (.call 139 [.t 75, .t 79]) [], none⟩] [2])
  (.ops [⟨some 81, .q (.load none (.t 2)), none⟩,
    ⟨some 82, .e (.bslice 9 1 1 [.str []] [(0, 1, .v (.str [93]))]) [], none⟩,
    ⟨some 83, .e (.call 77 [.t 81, .t 82]) [], none⟩] [])))) (.seq (.ops [⟨some 85, .q (.bin .eql (.t 16) (.v (.int .i64 6))), none⟩,
    ⟨some 84, .e (.set (.t 85)) [], none⟩] [2, 4, 5, 16, 84])
  (.cond (.t 84) (.seq (.ops [⟨some 86, .q (.load none (.t 2)), none⟩,
    ⟨some 87, .q (.addr 3 (.t 4)), none⟩,
    ⟨some 88, .q (.load none (.t 87)), none⟩,
    ⟨some 89, .e (.call 186 [.t 88]) [(86, .load none (.t 2))], none⟩,
    ⟨some 90, .e (.bslice 9 1 1 [.str []] [(0, 1, .t 89)]) [], none⟩,
    ⟨some 91, .e (.call 77 [.t 86, .t 90]) [], none⟩] [2, 4, 5])
  (.ops [⟨some 92, .q (.load none (.t 2)), none⟩,
    ⟨some 93, .q (.addr 5 (.t 4)), none⟩,
    ⟨some 94, .q (.load none (.t 93)), none⟩,
    ⟨some 95, .q (.ixSl 1 (.t 94) (.v (.int .i64 0))), none⟩,
    ⟨some 96, .q (.load none (.t 95)), none⟩,
    ⟨some 97, .q (.load none (.t 5)), none⟩,
    ⟨some 98, .e (.callv (.t 97) [.v (.int .i64 0)]) [(96, .load none (.t 95)), (94, .load none (.t 93)), (92, .load none (.t 2))], none⟩,
    ⟨some 99, .q (.bin .eql (.t 98) (.v (.int .i64 7))), none⟩,
    ⟨some 100, .e (.call 185 [.t 92, .t 96, .t 99]) [], none⟩] [])) (.seq (.ops [⟨some 102, .q (.bin .eql (.t 16) (.v (.int .i64 7))), none⟩,
    ⟨some 101, .e (.set (.t 102)) [], none⟩] [2, 4, 5, 101])
  (.cond (.t 101) (.seq (.ops [⟨some 103, .q (.func (.func 187) [] [.t 5, .t 2, .t 4]), none⟩,
    ⟨some 6, .e (.set (.t 103)) [], none⟩] [2, 4, 6])
  (.seq (.ops [⟨some 104, .q (.load none (.t 2)), none⟩,
    ⟨some 105, .q (.addr 5 (.t 4)), none⟩,
    ⟨some 106, .q (.load none (.t 105)), none⟩,
    ⟨some 107, .q (.ixSl 1 (.t 106) (.v (.int .i64 0))), none⟩,
    ⟨some 108, .q (.load none (.t 107)), none⟩,
    ⟨some 109, .q (.mov (.t 6)), none⟩,
    ⟨some 111, .q (.addr 3 (.t 4)), none⟩,
    ⟨some 112, .q (.load none (.t 111)), none⟩,
    ⟨some 110, .e (.callv (.t 109) [.v (.int .i64 0)]) [(112, .load none (.t 111)), (108, .load none (.t 107)), (106, .load none (.t 105)), (104, .load none (.t 2))], none⟩,
    ⟨some 113, .e (.call 188 [.t 112]) [(108, .load none (.t 107)), (106, .load none (.t 105)), (104, .load none (.t 2))], none⟩,
    ⟨some 114, .q (.bin .lss (.t 110) (.t 113)), none⟩,
    ⟨some 115, .e (.call 185 [.t 104, .t 108, .t 114]) [], none⟩] [2, 4, 6])
  (.seq (.ops [⟨some 116, .q (.load none (.t 2)), none⟩,
    ⟨some 117, .q (.addr 3 (.t 4)), none⟩,
    ⟨some 118, .q (.load none (.t 117)), none⟩,
    ⟨some 119, .e (.call 186 [.t 118]) [(116, .load none (.t 2))], none⟩,
    ⟨some 120, .e (.bslice 9 1 1 [.str []] [(0, 1, .t 119)]) [], none⟩,
    ⟨some 121, .e (.call 77 [.t 116, .t 120]) [], none⟩] [2, 4, 6])
  (.ops [⟨some 122, .q (.load none (.t 2)), none⟩,
    ⟨some 123, .q (.addr 5 (.t 4)), none⟩,
    ⟨some 124, .q (.load none (.t 123)), none⟩,
    ⟨some 125, .q (.ixSl 1 (.t 124) (.v (.int .i64 1))), none⟩,
    ⟨some 126, .q (.load none (.t 125)), none⟩,
    ⟨some 127, .q (.mov (.t 6)), none⟩,
    ⟨some 129, .q (.addr 3 (.t 4)), none⟩,
    ⟨some 130, .q (.load none (.t 129)), none⟩,
    ⟨some 128, .e (.callv (.t 127) [.v (.int .i64 1)]) [(130, .load none (.t 129)), (126, .load none (.t 125)), (124, .load none (.t 123)), (122, .load none (.t 2))], none⟩,
    ⟨some 131, .e (.call 188 [.t 130]) [(126, .load none (.t 125)), (124, .load none (.t 123)), (122, .load none (.t 2))], none⟩,
    ⟨some 132, .q (.bin .leq (.t 128) (.t 131)), none⟩,
    ⟨some 133, .e (.call 185 [.t 122, .t 126, .t 132]) [], none⟩] [])))) (.skip))))))))))))))))))), []⟩
/-- '(*binnacle/binnacleref17.Reader).take' -/
def i140 : IFunc := ⟨.seq (.ops [⟨some 4, .e (.set (.v (.bool false))) [], none⟩] [0, 1])
  (.seq (.ops [⟨some 6, .q (.mov (.t 0)), none⟩,
    ⟨some 7, .q (.mov (.t 1)), none⟩,
    ⟨some 8, .e (.call 189 [.t 6, .t 7]) [], none⟩,
    ⟨some 5, .e (.set (.t 8)) [], none⟩] [0, 5])
  (.seq (.seq (.ops [⟨some 9, .q (.mov (.t 5)), none⟩] [0, 5, 9])
  (.cond (.t 9) (.ops [⟨some 10, .q (.mov (.t 0)), none⟩,
    ⟨some 11, .e (.call 190 [.t 10]) [], none⟩] [5]) (.skip)))
  (.seq (.ops [⟨some 12, .q (.mov (.t 5)), none⟩,
    ⟨some 4, .e (.set (.t 12)) [], none⟩] [4])
  (.ret)))), [.slot 4]⟩
/-- '(*binnacle/binnacleref17.Reader).must' -/
def i141 : IFunc := ⟨.seq (.ops [⟨some 5, .q (.mov (.t 0)), none⟩,
    ⟨some 6, .q (.mov (.t 1)), none⟩,
    ⟨some 7, .e (.call 140 [.t 5, .t 6]) [], none⟩,
    ⟨some 4, .e (.set (.t 7)) [], none⟩] [0, 4])
  (.seq (.ops [⟨some 8, .q (.mov (.t 4)), none⟩,
    ⟨some 9, .q (.un .not (.t 8)), none⟩] [0, 9])
  (.cond (.t 9) (.ops [⟨some 10, .q (.mov (.t 0)), none⟩,
    ⟨some 11, .e (.call 83 [.t 10, .v (.int .i64 13)]) [], none⟩] []) (.skip))), []⟩
/-- '(*binnacle/binnacleref17.Reader).kind' -/
def i142 : IFunc := ⟨.seq (.ops [⟨some 4, .e (.alloc 56 [.int .i64 0, .int .i64 0, .str [], .int .i64 0]) [], none⟩] [0, 1, 4])
  (.seq (.seq (.ops [⟨some 5, .q (.mov (.t 0)), none⟩,
    ⟨some 6, .q (.nilc (.t 5)), none⟩,
    ⟨some 7, .q (.addr 4 (.t 6)), none⟩,
    ⟨some 8, .q (.load none (.t 7)), none⟩,
    ⟨some 9, .q (.bin .neq (.t 8) (.v (.int .i64 0))), none⟩,
    ⟨some 10, .q (.mov (.t 9)), none⟩,
    ⟨some 11, .q (.mov (.t 0)), some (10, false)⟩,
    ⟨some 12, .q (.nilc (.t 11)), some (10, false)⟩,
    ⟨some 13, .q (.addr 0 (.t 12)), some (10, false)⟩,
    ⟨some 14, .q (.load none (.t 13)), some (10, false)⟩,
    ⟨some 15, .q (.mov (.t 0)), some (10, false)⟩,
    ⟨some 16, .q (.nilc (.t 15)), some (10, false)⟩,
    ⟨some 17, .q (.addr 1 (.t 16)), some (10, false)⟩,
    ⟨some 18, .q (.load none (.t 17)), some (10, false)⟩,
    ⟨some 19, .q (.ixSl 4 (.t 14) (.t 18)), some (10, false)⟩,
    ⟨some 20, .q (.addr 0 (.t 19)), some (10, false)⟩,
    ⟨some 21, .q (.load none (.t 20)), some (10, false)⟩,
    ⟨some 22, .q (.mov (.t 1)), some (10, false)⟩,
    ⟨some 23, .q (.bin .neq (.t 21) (.t 22)), some (10, false)⟩,
    ⟨some 24, .q (.pick (.t 10) (.v (.bool true)) (.t 23)), none⟩] [0, 4, 24])
  (.cond (.t 24) (.seq (.ops [⟨some 25, .q (.mov (.t 0)), none⟩,
    ⟨some 26, .e (.call 83 [.t 25, .v (.int .i64 13)]) [], none⟩] [4])
  (.seq (.ops [⟨some 27, .q (.build [.int .i64 0, .int .i64 0, .str [], .int .i64 0] []), none⟩,
    ⟨none, .e (.store 4 (.t 4) (.t 27)) [], none⟩] [4])
  (.ret))) (.skip)))
  (.seq (.ops [⟨some 28, .q (.mov (.t 0)), none⟩,
    ⟨some 29, .e (.call 190 [.t 28]) [], none⟩,
    ⟨none, .e (.store 4 (.t 4) (.t 29)) [], none⟩] [4])
  (.ret))), [.cell 4 (some 4)]⟩
/-- '(*binnacle/binnacleref17.Reader).function' -/
def i143 : IFunc := ⟨.seq (.ops [⟨some 3, .e (.box 47 (.t 1)) [], none⟩,
    ⟨some 4, .e (.set (.v (.int .i64 0))) [], none⟩] [0, 3])
  (.seq (.ops [⟨some 7, .q (.addr 0 (.t 3)), none⟩,
    ⟨none, .e (.store 1 (.t 7) (.v (.int .i64 22))) [], none⟩] [0, 3])
  (.seq (.ops [⟨some 8, .q (.mov (.t 0)), none⟩,
    ⟨some 9, .e (.call 140 [.t 8, .v (.str [41])]) [], none⟩,
    ⟨some 5, .e (.set (.t 9)) [], none⟩] [0, 3, 5])
  (.seq (.block 0 (.loop [0, 3, 5] (.seq (.seq (.ops [⟨some 10, .q (.mov (.t 5)), none⟩,
    ⟨some 11, .q (.un .not (.t 10)), none⟩,
    ⟨some 12, .q (.mov (.t 11)), none⟩,
    ⟨some 13, .q (.mov (.t 0)), some (12, true)⟩,
    ⟨some 14, .q (.nilc (.t 13)), some (12, true)⟩,
    ⟨some 15, .q (.addr 4 (.t 14)), some (12, true)⟩,
    ⟨some 16, .q (.load none (.t 15)), some (12, true)⟩,
    ⟨some 17, .q (.bin .eql (.t 16) (.v (.int .i64 0))), some (12, true)⟩,
    ⟨some 18, .q (.pick (.t 12) (.t 17) (.v (.bool false))), none⟩] [0, 3, 18])
  (.cond (.t 18) (.skip) (.exit 0)))
  (.block 1 (.seq (.ops [⟨some 19, .q (.mov (.t 0)), none⟩,
    ⟨some 20, .e (.call 191 [.t 19]) [], none⟩,
    ⟨some 6, .e (.alloc 47 [.int .i64 0, .int .i64 0, .str [], .int .i64 0, .int .i64 0, .nilslice]) [], none⟩,
    ⟨none, .e (.store 6 (.t 6) (.t 20)) [], none⟩] [0, 3, 6])
  (.seq (.ops [⟨some 21, .q (.addr 5 (.t 3)), none⟩,
    ⟨some 22, .q (.load none (.t 21)), none⟩,
    ⟨some 23, .q (.mov (.t 0)), none⟩,
    ⟨some 24, .q (.load (some 6) (.t 6)), none⟩,
    ⟨some 25, .e (.call 85 [.t 23, .t 24]) [(22, .load none (.t 21))], none⟩,
    ⟨some 26, .e (.bslice 3 1 1 [.int .i64 0] [(0, 1, .t 25)]) [], none⟩,
    ⟨some 27, .e (.append 3 1 8 (.t 22) (.t 26)) [], none⟩,
    ⟨some 28, .q (.addr 5 (.t 3)), none⟩,
    ⟨none, .e (.store 1 (.t 28) (.t 27)) [], none⟩] [0, 3])
  (.seq (.ops [⟨some 29, .q (.mov (.t 0)), none⟩,
    ⟨some 30, .e (.call 140 [.t 29, .v (.str [41])]) [], none⟩,
    ⟨some 5, .e (.set (.t 30)) [], none⟩] [0, 3, 5])
  (.seq (.ops [⟨some 31, .q (.mov (.t 5)), none⟩,
    ⟨some 32, .q (.un .not (.t 31)), none⟩] [0, 3, 5, 32])
  (.cond (.t 32) (.ops [⟨some 33, .q (.mov (.t 0)), none⟩,
    ⟨some 34, .e (.call 141 [.t 33, .v (.str [44])]) [], none⟩] [0, 3, 5]) (.skip))))))))))
  (.seq (.ops [⟨some 35, .q (.addr 5 (.t 3)), none⟩,
    ⟨some 36, .q (.load none (.t 35)), none⟩,
    ⟨some 37, .q (.len .slice (.t 36)), none⟩,
    ⟨some 38, .q (.addr 4 (.t 3)), none⟩,
    ⟨none, .e (.store 1 (.t 38) (.t 37)) [], none⟩] [0, 3])
  (.seq (.seq (.ops [⟨some 39, .q (.mov (.t 0)), none⟩,
    ⟨some 40, .q (.nilc (.t 39)), none⟩,
    ⟨some 41, .q (.addr 4 (.t 40)), none⟩,
    ⟨some 42, .q (.load none (.t 41)), none⟩,
    ⟨some 43, .q (.bin .eql (.t 42) (.v (.int .i64 0))), none⟩] [0, 3, 43])
  (.cond (.t 43) (.ops [⟨some 44, .q (.addr 5 (.t 3)), none⟩,
    ⟨some 45, .q (.load none (.t 44)), none⟩,
    ⟨some 46, .q (.mov (.t 0)), none⟩,
    ⟨some 47, .e (.call 192 [.t 46]) [(45, .load none (.t 44))], none⟩,
    ⟨some 48, .e (.bslice 3 1 1 [.int .i64 0] [(0, 1, .t 47)]) [], none⟩,
    ⟨some 49, .e (.append 3 1 8 (.t 45) (.t 48)) [], none⟩,
    ⟨some 50, .q (.addr 5 (.t 3)), none⟩,
    ⟨none, .e (.store 1 (.t 50) (.t 49)) [], none⟩] [0, 3]) (.skip)))
  (.seq (.ops [⟨some 51, .q (.mov (.t 0)), none⟩,
    ⟨some 52, .q (.load (some 6) (.t 3)), none⟩,
    ⟨some 53, .e (.call 85 [.t 51, .t 52]) [], none⟩,
    ⟨some 4, .e (.set (.t 53)) [], none⟩] [4])
  (.ret))))))), [.slot 4]⟩
/-- '(*binnacle/sort.checker).find' -/
def i144 : IFunc := ⟨.seq (.ops [⟨some 4, .e (.set (.v (.int .i64 0))) [], none⟩] [0, 1])
  (.seq (.ops [⟨some 10, .q (.mov (.t 0)), none⟩,
    ⟨some 11, .q (.nilc (.t 10)), none⟩,
    ⟨some 12, .q (.addr 0 (.t 11)), none⟩,
    ⟨some 13, .q (.load none (.t 12)), none⟩,
    ⟨some 14, .q (.mov (.t 1)), none⟩,
    ⟨some 15, .q (.ixSl 6 (.t 13) (.t 14)), none⟩,
    ⟨some 16, .q (.load (some 6) (.t 15)), none⟩,
    ⟨some 5, .e (.alloc 47 [.int .i64 0, .int .i64 0, .str [], .int .i64 0, .int .i64 0, .nilslice]) [], none⟩,
    ⟨none, .e (.store 6 (.t 5) (.t 16)) [], none⟩] [0, 1, 5])
  (.seq (.seq (.ops [⟨some 18, .q (.mov (.t 0)), none⟩,
    ⟨some 19, .q (.nilc (.t 18)), none⟩,
    ⟨some 20, .q (.addr 7 (.t 19)), none⟩,
    ⟨some 21, .q (.load none (.t 20)), none⟩,
    ⟨some 22, .q (.mov (.t 0)), none⟩,
    ⟨some 23, .q (.nilc (.t 22)), none⟩,
    ⟨some 24, .q (.addr 4 (.t 23)), none⟩,
    ⟨some 25, .q (.load none (.t 24)), none⟩,
    ⟨some 26, .q (.mov (.t 1)), none⟩,
    ⟨some 27, .q (.ixSl 1 (.t 25) (.t 26)), none⟩,
    ⟨some 28, .q (.load none (.t 27)), none⟩,
    ⟨some 29, .q (.iface 3 (.t 28)), none⟩,
    ⟨some 30, .q (.addr 2 (.t 5)), none⟩,
    ⟨some 31, .q (.load none (.t 30)), none⟩,
    ⟨some 32, .q (.iface 9 (.t 31)), none⟩,
    ⟨some 33, .q (.build [.nilIface, .nilIface] [(0, 1, .t 29), (1, 1, .t 32)]), none⟩,
    ⟨some 34, .q (.lookup .pair (.int .i64 0) true (.t 21) (.t 33)), none⟩,
    ⟨some 17, .q (.mov (.t 34)), none⟩,
    ⟨some 35, .q (.extr 0 (.t 17)), none⟩,
    ⟨some 36, .q (.extr 1 (.t 17)), none⟩,
    ⟨some 6, .e (.set (.t 35)) [], none⟩,
    ⟨some 7, .e (.set (.t 36)) [], none⟩] [0, 5, 6, 7])
  (.seq (.ops [⟨some 37, .q (.mov (.t 7)), none⟩] [0, 5, 6, 37])
  (.cond (.t 37) (.seq (.ops [⟨some 38, .q (.mov (.t 6)), none⟩,
    ⟨some 4, .e (.set (.t 38)) [], none⟩] [4])
  (.ret)) (.skip))))
  (.seq (.seq (.ops [⟨some 40, .q (.mov (.t 0)), none⟩,
    ⟨some 41, .q (.nilc (.t 40)), none⟩,
    ⟨some 42, .q (.addr 6 (.t 41)), none⟩,
    ⟨some 43, .q (.load none (.t 42)), none⟩,
    ⟨some 44, .q (.addr 2 (.t 5)), none⟩,
    ⟨some 45, .q (.load none (.t 44)), none⟩,
    ⟨some 46, .q (.lookup .str (.int .i64 0) true (.t 43) (.t 45)), none⟩,
    ⟨some 39, .q (.mov (.t 46)), none⟩,
    ⟨some 47, .q (.extr 0 (.t 39)), none⟩,
    ⟨some 48, .q (.extr 1 (.t 39)), none⟩,
    ⟨some 8, .e (.set (.t 47)) [], none⟩,
    ⟨some 9, .e (.set (.t 48)) [], none⟩] [8, 9])
  (.seq (.ops [⟨some 49, .q (.mov (.t 9)), none⟩] [8, 49])
  (.cond (.t 49) (.seq (.ops [⟨some 50, .q (.mov (.t 8)), none⟩,
    ⟨some 4, .e (.set (.t 50)) [], none⟩] [4])
  (.ret)) (.skip))))
  (.seq (.ops [⟨some 4, .e (.set (.v (.int .i64 (-1)))) [], none⟩] [4])
  (.ret))))), [.slot 4]⟩
/-- 'binnacle/sort.is' -/
def i145 : IFunc := ⟨.seq (.ops [⟨some 2, .e (.set (.v (.int .i64 0))) [], none⟩] [0])
  (.seq (.seq (.ops [⟨some 3, .q (.mov (.t 0)), none⟩] [3])
  (.cond (.t 3) (.seq (.ops [⟨some 2, .e (.set (.v (.int .i64 0))) [], none⟩] [2])
  (.ret)) (.skip)))
  (.seq (.ops [⟨some 2, .e (.set (.v (.int .i64 14))) [], none⟩] [2])
  (.ret))), [.slot 2]⟩
/-- '(*binnacle/sort.checker).wants' -/
def i146 : IFunc := ⟨.seq (.ops [⟨some 4, .e (.box 49 (.t 1)) [], none⟩,
    ⟨some 6, .e (.set (.v (.int .i64 0))) [], none⟩] [0, 2, 4])
  (.seq (.block 0 (.seq (.ops [⟨some 8, .q (.addr 0 (.t 4)), none⟩,
    ⟨some 9, .q (.load none (.t 8)), none⟩,
    ⟨some 10, .q (.bin .eql (.t 9) (.v (.int .i64 3))), none⟩,
    ⟨some 7, .e (.set (.t 10)) [], none⟩] [0, 2, 4, 7])
  (.cond (.t 7) (.seq (.ops [⟨some 11, .q (.mov (.t 0)), none⟩,
    ⟨some 12, .q (.nilc (.t 11)), none⟩,
    ⟨some 13, .q (.addr 0 (.t 12)), none⟩,
    ⟨some 14, .q (.load none (.t 13)), none⟩,
    ⟨some 15, .q (.mov (.t 0)), none⟩,
    ⟨some 16, .q (.nilc (.t 15)), none⟩,
    ⟨some 17, .q (.addr 0 (.t 16)), none⟩,
    ⟨some 18, .q (.load none (.t 17)), none⟩,
    ⟨some 19, .q (.addr 3 (.t 4)), none⟩,
    ⟨some 20, .q (.load none (.t 19)), none⟩,
    ⟨some 21, .q (.ixSl 6 (.t 18) (.t 20)), none⟩,
    ⟨some 22, .q (.addr 5 (.t 21)), none⟩,
    ⟨some 23, .q (.load none (.t 22)), none⟩,
    ⟨some 24, .q (.mov (.t 2)), none⟩,
    ⟨some 25, .q (.ixSl 1 (.t 23) (.t 24)), none⟩,
    ⟨some 26, .q (.load none (.t 25)), none⟩,
    ⟨some 27, .q (.ixSl 6 (.t 14) (.t 26)), none⟩,
    ⟨some 28, .q (.addr 4 (.t 27)), none⟩,
    ⟨some 29, .q (.load none (.t 28)), none⟩,
    ⟨some 6, .e (.set (.t 29)) [], none⟩] [6])
  (.ret)) (.seq (.ops [⟨some 31, .q (.addr 4 (.t 4)), none⟩,
    ⟨some 32, .q (.load none (.t 31)), none⟩,
    ⟨some 33, .q (.bin .eql (.t 32) (.v (.str [115, 121, 115]))), none⟩,
    ⟨some 34, .q (.mov (.t 33)), none⟩,
    ⟨some 35, .q (.mov (.t 2)), some (34, true)⟩,
    ⟨some 36, .q (.bin .gtr (.t 35) (.v (.int .i64 0))), some (34, true)⟩,
    ⟨some 37, .q (.pick (.t 34) (.t 36) (.v (.bool false))), none⟩,
    ⟨some 38, .q (.mov (.t 37)), none⟩,
    ⟨some 39, .q (.addr 4 (.t 4)), some (38, false)⟩,
    ⟨some 40, .q (.load none (.t 39)), some (38, false)⟩,
    ⟨some 41, .q (.bin .eql (.t 40) (.v (.str [97, 100, 114]))), some (38, false)⟩,
    ⟨some 42, .q (.pick (.t 38) (.v (.bool true)) (.t 41)), none⟩,
    ⟨some 30, .e (.set (.t 42)) [], none⟩] [30])
  (.cond (.t 30) (.seq (.ops [⟨some 6, .e (.set (.v (.int .i64 0))) [], none⟩] [6])
  (.ret)) (.skip))))))
  (.seq (.ops [⟨some 6, .e (.set (.v (.int .i64 1))) [], none⟩] [6])
  (.ret))), [.slot 6]⟩
/-- '(*binnacle/sort.checker).kid' -/
def i147 : IFunc := ⟨.seq (.ops [⟨some 6, .e (.set (.v (.int .i64 0))) [], none⟩] [0, 1, 2])
  (.seq (.ops [⟨some 7, .q (.mov (.t 0)), none⟩,
    ⟨some 8, .q (.nilc (.t 7)), none⟩,
    ⟨some 9, .q (.addr 1 (.t 8)), none⟩,
    ⟨some 10, .q (.addr 2 (.t 9)), none⟩,
    ⟨some 11, .q (.load none (.t 10)), none⟩,
    ⟨some 12, .q (.mov (.t 0)), none⟩,
    ⟨some 13, .q (.nilc (.t 12)), none⟩,
    ⟨some 14, .q (.addr 0 (.t 13)), none⟩,
    ⟨some 15, .q (.load none (.t 14)), none⟩,
    ⟨some 16, .q (.mov (.t 1)), none⟩,
    ⟨some 17, .q (.ixSl 6 (.t 15) (.t 16)), none⟩,
    ⟨some 18, .q (.addr 5 (.t 17)), none⟩,
    ⟨some 19, .q (.load none (.t 18)), none⟩,
    ⟨some 20, .q (.mov (.t 2)), none⟩,
    ⟨some 21, .q (.ixSl 1 (.t 19) (.t 20)), none⟩,
    ⟨some 22, .q (.load none (.t 21)), none⟩,
    ⟨some 23, .q (.ixSl 1 (.t 11) (.t 22)), none⟩,
    ⟨some 24, .q (.load none (.t 23)), none⟩,
    ⟨some 6, .e (.set (.t 24)) [], none⟩] [6])
  (.ret)), [.slot 6]⟩
/-- 'binnacle/sort.points' -/
def i148 : IFunc := ⟨.seq (.ops [⟨some 2, .e (.set (.v (.bool false))) [], none⟩] [0])
  (.seq (.ops [⟨some 3, .q (.mov (.t 0)), none⟩,
    ⟨some 4, .q (.bin .eql (.t 3) (.v (.int .i64 2))), none⟩,
    ⟨some 5, .q (.mov (.t 4)), none⟩,
    ⟨some 6, .q (.mov (.t 0)), some (5, false)⟩,
    ⟨some 7, .q (.bin .eql (.t 6) (.v (.int .i64 3))), some (5, false)⟩,
    ⟨some 8, .q (.pick (.t 5) (.v (.bool true)) (.t 7)), none⟩,
    ⟨some 2, .e (.set (.t 8)) [], none⟩] [2])
  (.ret)), [.slot 2]⟩
/-- 'binnacle/binnacleref17.byteAt' -/
def i152 : IFunc := ⟨.seq (.ops [⟨some 6, .e (.set (.v (.int .u8 0))) [], none⟩,
    ⟨some 7, .e (.set (.v (.int .i64 0))) [], none⟩] [0, 1, 2])
  (.seq (.seq (.ops [⟨some 9, .q (.mov (.t 1)), none⟩,
    ⟨some 10, .q (.mov (.t 0)), none⟩,
    ⟨some 11, .q (.len .str (.t 10)), none⟩,
    ⟨some 12, .q (.bin .geq (.t 9) (.t 11)), none⟩] [0, 1, 2, 12])
  (.cond (.t 12) (.seq (.ops [⟨some 6, .e (.set (.v (.int .u8 0))) [], none⟩,
    ⟨some 7, .e (.set (.v (.int .i64 0))) [], none⟩] [6, 7])
  (.ret)) (.skip)))
  (.seq (.ops [⟨some 13, .q (.mov (.t 0)), none⟩,
    ⟨some 14, .q (.mov (.t 1)), none⟩,
    ⟨some 15, .q (.ixStr (.t 13) (.t 14)), none⟩,
    ⟨some 8, .e (.set (.t 15)) [], none⟩] [0, 1, 2, 8])
  (.seq (.seq (.ops [⟨some 16, .q (.mov (.t 8)), none⟩,
    ⟨some 17, .q (.bin .neq (.t 16) (.v (.int .u8 92))), none⟩] [0, 1, 2, 8, 17])
  (.cond (.t 17) (.seq (.seq (.ops [⟨some 18, .q (.mov (.t 8)), none⟩,
    ⟨some 19, .q (.bin .lss (.t 18) (.v (.int .u8 32))), none⟩,
    ⟨some 20, .q (.mov (.t 19)), none⟩,
    ⟨some 21, .q (.mov (.t 8)), some (20, false)⟩,
    ⟨some 22, .q (.bin .gtr (.t 21) (.v (.int .u8 126))), some (20, false)⟩,
    ⟨some 23, .q (.pick (.t 20) (.v (.bool true)) (.t 22)), none⟩,
    ⟨some 24, .q (.mov (.t 23)), none⟩,
    ⟨some 25, .q (.mov (.t 8)), some (24, false)⟩,
    ⟨some 26, .q (.mov (.t 2)), some (24, false)⟩,
    ⟨some 27, .q (.bin .eql (.t 25) (.t 26)), some (24, false)⟩,
    ⟨some 28, .q (.pick (.t 24) (.v (.bool true)) (.t 27)), none⟩] [8, 28])
  (.cond (.t 28) (.seq (.ops [⟨some 6, .e (.set (.v (.int .u8 0))) [], none⟩,
    ⟨some 7, .e (.set (.v (.int .i64 0))) [], none⟩] [6, 7])
  (.ret)) (.skip)))
  (.seq (.ops [⟨some 29, .q (.mov (.t 8)), none⟩,
    ⟨some 6, .e (.set (.t 29)) [], none⟩,
    ⟨some 7, .e (.set (.v (.int .i64 1))) [], none⟩] [6, 7])
  (.ret))) (.skip)))
  (.seq (.seq (.ops [⟨some 30, .q (.mov (.t 1)), none⟩,
    ⟨some 31, .q (.bin .add (.t 30) (.v (.int .i64 1))), none⟩,
    ⟨some 32, .q (.mov (.t 0)), none⟩,
    ⟨some 33, .q (.len .str (.t 32)), none⟩,
    ⟨some 34, .q (.bin .geq (.t 31) (.t 33)), none⟩] [0, 1, 34])
  (.cond (.t 34) (.seq (.ops [⟨some 6, .e (.set (.v (.int .u8 0))) [], none⟩,
    ⟨some 7, .e (.set (.v (.int .i64 0))) [], none⟩] [6, 7])
  (.ret)) (.skip)))
  (.seq (.seq (.ops [⟨some 35, .q (.mov (.t 0)), none⟩,
    ⟨some 36, .q (.mov (.t 1)), none⟩,
    ⟨some 37, .q (.bin .add (.t 36) (.v (.int .i64 1))), none⟩,
    ⟨some 38, .q (.ixStr (.t 35) (.t 37)), none⟩] [0, 1, 38])
  (.block 0 (.seq (.ops [⟨some 40, .q (.bin .eql (.t 38) (.v (.int .u8 110))), none⟩,
    ⟨some 39, .e (.set (.t 40)) [], none⟩] [0, 1, 38, 39])
  (.cond (.t 39) (.seq (.ops [⟨some 6, .e (.set (.v (.int .u8 10))) [], none⟩,
    ⟨some 7, .e (.set (.v (.int .i64 2))) [], none⟩] [6, 7])
  (.ret)) (.seq (.ops [⟨some 42, .q (.bin .eql (.t 38) (.v (.int .u8 116))), none⟩,
    ⟨some 41, .e (.set (.t 42)) [], none⟩] [0, 1, 38, 41])
  (.cond (.t 41) (.seq (.ops [⟨some 6, .e (.set (.v (.int .u8 9))) [], none⟩,
    ⟨some 7, .e (.set (.v (.int .i64 2))) [], none⟩] [6, 7])
  (.ret)) (.seq (.ops [⟨some 44, .q (.bin .eql (.t 38) (.v (.int .u8 48))), none⟩,
    ⟨some 43, .e (.set (.t 44)) [], none⟩] [0, 1, 38, 43])
  (.cond (.t 43) (.seq (.ops [⟨some 6, .e (.set (.v (.int .u8 0))) [], none⟩,
    ⟨some 7, .e (.set (.v (.int .i64 2))) [], none⟩] [6, 7])
  (.ret)) (.seq (.seq (.ops [⟨some 46, .q (.bin .eql (.t 38) (.v (.int .u8 92))), none⟩,
    ⟨some 45, .e (.set (.t 46)) [], none⟩] [0, 1, 38, 45])
  (.cond (.t 45) (.skip) (.seq (.ops [⟨some 47, .q (.bin .eql (.t 38) (.v (.int .u8 39))), none⟩,
    ⟨some 45, .e (.set (.t 47)) [], none⟩] [0, 1, 38, 45])
  (.cond (.t 45) (.skip) (.ops [⟨some 48, .q (.bin .eql (.t 38) (.v (.int .u8 34))), none⟩,
    ⟨some 45, .e (.set (.t 48)) [], none⟩] [0, 1, 45])))))
  (.cond (.t 45) (.seq (.ops [⟨some 49, .q (.mov (.t 0)), none⟩,
    ⟨some 50, .q (.mov (.t 1)), none⟩,
    ⟨some 51, .q (.bin .add (.t 50) (.v (.int .i64 1))), none⟩,
    ⟨some 52, .q (.ixStr (.t 49) (.t 51)), none⟩,
    ⟨some 6, .e (.set (.t 52)) [], none⟩,
    ⟨some 7, .e (.set (.v (.int .i64 2))) [], none⟩] [6, 7])
  (.ret)) (.skip)))))))))))
  (.seq (.ops [⟨some 6, .e (.set (.v (.int .u8 0))) [], none⟩,
    ⟨some 7, .e (.set (.v (.int .i64 0))) [], none⟩] [6, 7])
  (.ret))))))), [.slot 6, .slot 7]⟩
/-- '(*binnacle/mean.run).locals' -/
def i154 : IFunc := ⟨.seq (.ops [⟨some 2, .e (.box 124 (.t 0)) [], none⟩,
    ⟨some 4, .e (.set (.v (.int .i64 0))) [], none⟩] [1, 2])
  (.seq (.ops [⟨some 5, .e (.alloc 3 [.int .i64 0]) [], none⟩,
    ⟨none, .e (.store 1 (.t 5) (.v (.int .i64 0))) [], none⟩] [1, 2, 5])
  (.seq (.ops [⟨some 6, .e (.alloc 93 [.nilfunc]) [], none⟩] [1, 2, 5, 6])
  (.seq (.ops [⟨some 7, .q (.func (.func 199) [] [.t 2, .t 5, .t 6]), none⟩,
    ⟨none, .e (.store 1 (.t 6) (.t 7)) [], none⟩] [1, 5, 6])
  (.seq (.ops [⟨some 8, .q (.load none (.t 6)), none⟩,
    ⟨some 9, .q (.mov (.t 1)), none⟩,
    ⟨some 10, .e (.callv (.t 8) [.t 9]) [], none⟩] [5])
  (.seq (.ops [⟨some 11, .q (.load none (.t 5)), none⟩,
    ⟨some 4, .e (.set (.t 11)) [], none⟩] [4])
  (.ret)))))), [.slot 4]⟩
/-- '(*binnacle/mean.run).does' -/
def i155 : IFunc := ⟨.seq (.ops [⟨some 6, .e (.set (.v (.int .i64 0))) [], none⟩] [0, 1, 2])
  (.seq (.ops [⟨some 12, .q (.mov (.t 0)), none⟩,
    ⟨some 13, .e (.call 200 [.t 12]) [], none⟩] [0, 1, 2])
  (.seq (.ops [⟨some 14, .q (.mov (.t 0)), none⟩,
    ⟨some 15, .q (.nilc (.t 14)), none⟩,
    ⟨some 16, .q (.addr 0 (.t 15)), none⟩,
    ⟨some 17, .q (.load none (.t 16)), none⟩,
    ⟨some 18, .q (.mov (.t 2)), none⟩,
    ⟨some 19, .q (.ixSl 6 (.t 17) (.t 18)), none⟩,
    ⟨some 20, .q (.load (some 6) (.t 19)), none⟩,
    ⟨some 7, .e (.alloc 47 [.int .i64 0, .int .i64 0, .str [], .int .i64 0, .int .i64 0, .nilslice]) [], none⟩,
    ⟨none, .e (.store 6 (.t 7) (.t 20)) [], none⟩] [0, 1, 2, 7])
  (.seq (.seq (.ops [⟨some 21, .q (.addr 0 (.t 7)), none⟩,
    ⟨some 22, .q (.load none (.t 21)), none⟩] [0, 1, 2, 7, 22])
  (.block 0 (.seq (.ops [⟨some 24, .q (.bin .eql (.t 22) (.v (.int .i64 17))), none⟩,
    ⟨some 23, .e (.set (.t 24)) [], none⟩] [0, 1, 2, 7, 22, 23])
  (.cond (.t 23) (.seq (.ops [⟨some 25, .q (.addr 5 (.t 7)), none⟩,
    ⟨some 26, .q (.load none (.t 25)), none⟩,
    ⟨some 27, .q (.len .slice (.t 26)), none⟩,
    ⟨some 28, .q (.mov (.v (.int .i64 0))), none⟩] [0, 1, 26, 27, 28])
  (.block 1 (.loop [0, 1, 26, 27, 28] (.seq (.ops [⟨some 29, .q (.bin .lss (.t 28) (.t 27)), none⟩] [0, 1, 26, 27, 28, 29])
  (.seq (.cond (.t 29) (.skip) (.exit 1))
  (.seq (.block 2 (.seq (.ops [⟨some 30, .q (.ixSl 1 (.t 26) (.t 28)), none⟩,
    ⟨some 31, .q (.load none (.t 30)), none⟩,
    ⟨some 9, .e (.set (.t 31)) [], none⟩] [0, 1, 9, 26, 27, 28])
  (.seq (.ops [⟨some 32, .q (.mov (.t 0)), none⟩,
    ⟨some 33, .q (.mov (.t 1)), none⟩,
    ⟨some 34, .q (.mov (.t 9)), none⟩,
    ⟨some 35, .e (.call 155 [.t 32, .t 33, .t 34]) [], none⟩,
    ⟨some 10, .e (.set (.t 35)) [], none⟩] [0, 1, 10, 26, 27, 28])
  (.seq (.ops [⟨some 36, .q (.mov (.t 10)), none⟩,
    ⟨some 37, .q (.bin .neq (.t 36) (.v (.int .i64 0))), none⟩] [0, 1, 10, 26, 27, 28, 37])
  (.cond (.t 37) (.seq (.ops [⟨some 38, .q (.mov (.t 10)), none⟩,
    ⟨some 6, .e (.set (.t 38)) [], none⟩] [6])
  (.ret)) (.skip))))))
  (.ops [⟨some 39, .q (.bin .add (.t 28) (.v (.int .i64 1))), none⟩,
    ⟨some 28, .q (.mov (.t 39)), none⟩] [0, 1, 26, 27, 28]))))))) (.seq (.ops [⟨some 41, .q (.bin .eql (.t 22) (.v (.int .i64 18))), none⟩,
    ⟨some 40, .e (.set (.t 41)) [], none⟩] [0, 1, 2, 7, 22, 40])
  (.cond (.t 40) (.seq (.ops [⟨some 42, .e (.call 119 [.v (.int .i64 0)]) [], none⟩,
    ⟨some 11, .e (.alloc 185 [.int .i64 0, .int .i64 0]) [], none⟩,
    ⟨none, .e (.store 2 (.t 11) (.t 42)) [], none⟩] [0, 1, 2, 7, 11])
  (.seq (.seq (.ops [⟨some 43, .q (.addr 5 (.t 7)), none⟩,
    ⟨some 44, .q (.load none (.t 43)), none⟩,
    ⟨some 45, .q (.len .slice (.t 44)), none⟩,
    ⟨some 46, .q (.bin .gtr (.t 45) (.v (.int .i64 0))), none⟩] [0, 1, 2, 7, 11, 46])
  (.cond (.t 46) (.ops [⟨some 47, .q (.mov (.t 0)), none⟩,
    ⟨some 48, .q (.mov (.t 1)), none⟩,
    ⟨some 49, .q (.addr 5 (.t 7)), none⟩,
    ⟨some 50, .q (.load none (.t 49)), none⟩,
    ⟨some 51, .q (.ixSl 1 (.t 50) (.v (.int .i64 0))), none⟩,
    ⟨some 52, .q (.load none (.t 51)), none⟩,
    ⟨some 53, .e (.call 201 [.t 47, .t 48, .t 52]) [], none⟩,
    ⟨none, .e (.store 2 (.t 11) (.t 53)) [], none⟩] [0, 1, 2, 11]) (.skip)))
  (.ops [⟨some 54, .q (.mov (.t 0)), none⟩,
    ⟨some 55, .q (.mov (.t 1)), none⟩,
    ⟨some 56, .q (.mov (.t 0)), none⟩,
    ⟨some 57, .q (.nilc (.t 56)), none⟩,
    ⟨some 58, .q (.addr 1 (.t 57)), none⟩,
    ⟨some 59, .q (.addr 1 (.t 58)), none⟩,
    ⟨some 60, .q (.load none (.t 59)), none⟩,
    ⟨some 61, .q (.mov (.t 2)), none⟩,
    ⟨some 62, .q (.ixSl 1 (.t 60) (.t 61)), none⟩,
    ⟨some 63, .q (.load none (.t 62)), none⟩,
    ⟨some 64, .q (.load (some 2) (.t 11)), none⟩,
    ⟨some 65, .e (.call 202 [.t 54, .t 55, .t 63, .t 64]) [], none⟩] []))) (.seq (.ops [⟨some 67, .q (.bin .eql (.t 22) (.v (.int .i64 10))), none⟩,
    ⟨some 66, .e (.set (.t 67)) [], none⟩] [0, 1, 7, 22, 66])
  (.cond (.t 66) (.ops [⟨some 68, .q (.mov (.t 0)), none⟩,
    ⟨some 69, .q (.mov (.t 1)), none⟩,
    ⟨some 70, .q (.addr 5 (.t 7)), none⟩,
    ⟨some 71, .q (.load none (.t 70)), none⟩,
    ⟨some 72, .q (.ixSl 1 (.t 71) (.v (.int .i64 0))), none⟩,
    ⟨some 73, .q (.load none (.t 72)), none⟩,
    ⟨some 74, .e (.call 201 [.t 68, .t 69, .t 73]) [], none⟩] []) (.seq (.ops [⟨some 76, .q (.bin .eql (.t 22) (.v (.int .i64 11))), none⟩,
    ⟨some 75, .e (.set (.t 76)) [], none⟩] [0, 1, 7, 22, 75])
  (.cond (.t 75) (.ops [⟨some 77, .q (.mov (.t 0)), none⟩,
    ⟨some 78, .q (.mov (.t 1)), none⟩,
    ⟨some 79, .q (.load (some 6) (.t 7)), none⟩,
    ⟨some 80, .e (.call 203 [.t 77, .t 78, .t 79]) [], none⟩] []) (.seq (.ops [⟨some 82, .q (.bin .eql (.t 22) (.v (.int .i64 12))), none⟩,
    ⟨some 81, .e (.set (.t 82)) [], none⟩] [0, 1, 7, 22, 81])
  (.cond (.t 81) (.seq (.seq (.ops [⟨some 83, .q (.mov (.t 0)), none⟩,
    ⟨some 84, .q (.mov (.t 1)), none⟩,
    ⟨some 85, .q (.addr 5 (.t 7)), none⟩,
    ⟨some 86, .q (.load none (.t 85)), none⟩,
    ⟨some 87, .q (.ixSl 1 (.t 86) (.v (.int .i64 0))), none⟩,
    ⟨some 88, .q (.load none (.t 87)), none⟩,
    ⟨some 89, .e (.call 201 [.t 83, .t 84, .t 88]) [], none⟩,
    ⟨some 90, .q (.field none 0 (.t 89)), none⟩,
    ⟨some 91, .q (.bin .neq (.t 90) (.v (.int .i64 0))), none⟩] [0, 1, 7, 91])
  (.cond (.t 91) (.seq (.ops [⟨some 92, .q (.mov (.t 0)), none⟩,
    ⟨some 93, .q (.mov (.t 1)), none⟩,
    ⟨some 94, .q (.addr 5 (.t 7)), none⟩,
    ⟨some 95, .q (.load none (.t 94)), none⟩,
    ⟨some 96, .q (.ixSl 1 (.t 95) (.v (.int .i64 1))), none⟩,
    ⟨some 97, .q (.load none (.t 96)), none⟩,
    ⟨some 98, .e (.call 155 [.t 92, .t 93, .t 97]) [], none⟩,
    ⟨some 6, .e (.set (.t 98)) [], none⟩] [6])
  (.ret)) (.skip)))
  (.seq (.ops [⟨some 99, .q (.addr 5 (.t 7)), none⟩,
    ⟨some 100, .q (.load none (.t 99)), none⟩,
    ⟨some 101, .q (.len .slice (.t 100)), none⟩,
    ⟨some 102, .q (.bin .gtr (.t 101) (.v (.int .i64 2))), none⟩] [0, 1, 7, 102])
  (.cond (.t 102) (.seq (.ops [⟨some 103, .q (.mov (.t 0)), none⟩,
    ⟨some 104, .q (.mov (.t 1)), none⟩,
    ⟨some 105, .q (.addr 5 (.t 7)), none⟩,
    ⟨some 106, .q (.load none (.t 105)), none⟩,
    ⟨some 107, .q (.ixSl 1 (.t 106) (.v (.int .i64 2))), none⟩,
    ⟨some 108, .q (.load none (.t 107)), none⟩,
    ⟨some 109, .e (.call 155 [.t 103, .t 104, .t 108]) [], none⟩,
    ⟨some 6, .e (.set (.t 109)) [], none⟩] [6])
  (.ret)) (.skip)))) (.seq (.ops [⟨some 111, .q (.bin .eql (.t 22) (.v (.int .i64 13))), none⟩,
    ⟨some 110, .e (.set (.t 111)) [], none⟩] [0, 1, 7, 22, 110])
  (.cond (.t 110) (.seq (.ops [⟨some 112, .q (.mov (.t 0)), none⟩,
    ⟨some 113, .q (.mov (.t 1)), none⟩,
    ⟨some 114, .q (.load (some 6) (.t 7)), none⟩,
    ⟨some 115, .e (.call 204 [.t 112, .t 113, .t 114]) [], none⟩,
    ⟨some 6, .e (.set (.t 115)) [], none⟩] [6])
  (.ret)) (.seq (.ops [⟨some 117, .q (.bin .eql (.t 22) (.v (.int .i64 14))), none⟩,
    ⟨some 116, .e (.set (.t 117)) [], none⟩] [0, 1, 7, 22, 116])
  (.cond (.t 116) (.seq (.ops [⟨some 118, .q (.mov (.t 1)), none⟩,
    ⟨some 119, .q (.mov (.t 0)), none⟩,
    ⟨some 120, .q (.mov (.t 1)), none⟩,
    ⟨some 121, .q (.addr 5 (.t 7)), none⟩,
    ⟨some 122, .q (.load none (.t 121)), none⟩,
    ⟨some 123, .q (.ixSl 1 (.t 122) (.v (.int .i64 0))), none⟩,
    ⟨some 124, .q (.load none (.t 123)), none⟩,
    ⟨some 125, .e (.call 201 [.t 119, .t 120, .t 124]) [], none⟩,
    ⟨some 126, .q (.nilc (.t 118)), none⟩,
    ⟨some 127, .q (.addr 48 (.t 126)), none⟩,
    ⟨none, .e (.store 2 (.t 127) (.t 125)) [], none⟩] [])
  (.seq (.ops [⟨some 6, .e (.set (.v (.int .i64 3))) [], none⟩] [6])
  (.ret))) (.seq (.ops [⟨some 129, .q (.bin .eql (.t 22) (.v (.int .i64 15))), none⟩,
    ⟨some 128, .e (.set (.t 129)) [], none⟩] [22, 128])
  (.cond (.t 128) (.seq (.ops [⟨some 6, .e (.set (.v (.int .i64 1))) [], none⟩] [6])
  (.ret)) (.seq (.ops [⟨some 131, .q (.bin .eql (.t 22) (.v (.int .i64 16))), none⟩,
    ⟨some 130, .e (.set (.t 131)) [], none⟩] [130])
  (.cond (.t 130) (.seq (.ops [⟨some 6, .e (.set (.v (.int .i64 2))) [], none⟩] [6])
  (.ret)) (.skip)))))))))))))))))))))
  (.seq (.ops [⟨some 6, .e (.set (.v (.int .i64 0))) [], none⟩] [6])
  (.ret))))), [.slot 6]⟩
/-- 'strings.IndexByte' -/
def i168 : IFunc := ⟨.seq (.ops [⟨some 4, .e (.set (.v (.int .i64 0))) [], none⟩] [0, 1])
  (.seq (.ops [⟨some 5, .q (.mov (.t 0)), none⟩,
    ⟨some 6, .q (.mov (.t 1)), none⟩,
    ⟨some 7, .e (.call 216 [.t 5, .t 6]) [], none⟩,
    ⟨some 4, .e (.set (.t 7)) [], none⟩] [4])
  (.ret)), [.slot 4]⟩
/-- '(*strings.Builder).copyCheck' -/
def i169 : IFunc := ⟨.seq (.ops [⟨some 2, .q (.mov (.t 0)), none⟩,
    ⟨some 3, .q (.nilc (.t 2)), none⟩,
    ⟨some 4, .q (.addr 0 (.t 3)), none⟩,
    ⟨some 5, .q (.load none (.t 4)), none⟩,
    ⟨some 6, .q (.eq .ptr false (.t 5) (.v (.nilptr))), none⟩] [0, 6])
  (.cond (.t 6) (.ops [⟨some 7, .q (.mov (.t 0)), none⟩,
    ⟨some 8, .q (.mov (.t 0)), none⟩,
    ⟨some 9, .q (.toU (.t 8)), none⟩,
    ⟨some 10, .q (.mov (.t 9)), none⟩,
    ⟨some 11, .q (.fromU [(90, 2, 0), (92, 3, 1), (133, 15, 6)] (.t 10)), none⟩,
    ⟨some 12, .q (.nilc (.t 7)), none⟩,
    ⟨some 13, .q (.addr 0 (.t 12)), none⟩,
    ⟨none, .e (.store 1 (.t 13) (.t 11)) [], none⟩] []) (.seq (.ops [⟨some 14, .q (.mov (.t 0)), none⟩,
    ⟨some 15, .q (.nilc (.t 14)), none⟩,
    ⟨some 16, .q (.addr 0 (.t 15)), none⟩,
    ⟨some 17, .q (.load none (.t 16)), none⟩,
    ⟨some 18, .q (.mov (.t 0)), none⟩,
    ⟨some 19, .q (.eq .ptr true (.t 17) (.t 18)), none⟩] [19])
  (.cond (.t 19) (.cond (.v (.undef)) (.skip) (.skip)) (.skip)))), []⟩
/-- '(*binnacle/front.reader).stmt' -/
def i170 : IFunc := ⟨.seq (.ops [⟨some 2, .e (.set (.v (.int .i64 0))) [], none⟩] [0])
  (.seq (.ops [⟨some 9, .q (.mov (.t 0)), none⟩,
    ⟨some 10, .e (.call 218 [.t 9]) [], none⟩] [0])
  (.seq (.seq (.ops [⟨some 11, .q (.mov (.t 0)), none⟩] [0, 11])
  (.defer (.f 219) [.t 11]))
  (.seq (.ops [⟨some 12, .q (.mov (.t 0)), none⟩,
    ⟨some 13, .q (.nilc (.t 12)), none⟩,
    ⟨some 14, .q (.addr 2 (.t 13)), none⟩,
    ⟨some 15, .q (.addr 1 (.t 14)), none⟩,
    ⟨some 16, .q (.load none (.t 15)), none⟩,
    ⟨some 3, .e (.set (.t 16)) [], none⟩] [0, 3])
  (.seq (.block 0 (.seq (.ops [⟨some 18, .q (.mov (.t 0)), none⟩,
    ⟨some 19, .e (.call 74 [.t 18, .v (.str [123])]) [], none⟩,
    ⟨some 17, .e (.set (.t 19)) [], none⟩] [0, 3, 17])
  (.cond (.t 17) (.seq (.ops [⟨some 20, .q (.mov (.t 0)), none⟩,
    ⟨some 21, .e (.call 133 [.t 20]) [], none⟩,
    ⟨some 2, .e (.set (.t 21)) [], none⟩] [2])
  (.ret)) (.seq (.ops [⟨some 23, .q (.mov (.t 0)), none⟩,
    ⟨some 24, .e (.call 71 [.t 23, .v (.str [105, 102])]) [], none⟩,
    ⟨some 22, .e (.set (.t 24)) [], none⟩] [0, 3, 22])
  (.cond (.t 22) (.seq (.ops [⟨some 25, .q (.mov (.t 0)), none⟩,
    ⟨some 26, .e (.call 220 [.t 25]) [], none⟩,
    ⟨some 27, .e (.bslice 3 1 1 [.int .i64 0] [(0, 1, .t 26)]) [], none⟩,
    ⟨some 4, .e (.set (.t 27)) [], none⟩] [0, 3, 4])
  (.seq (.ops [⟨some 28, .q (.mov (.t 4)), none⟩,
    ⟨some 29, .q (.mov (.t 0)), none⟩,
    ⟨some 30, .e (.call 170 [.t 29]) [], none⟩,
    ⟨some 31, .e (.bslice 3 1 1 [.int .i64 0] [(0, 1, .t 30)]) [], none⟩,
    ⟨some 32, .e (.append 3 1 8 (.t 28) (.t 31)) [], none⟩,
    ⟨some 4, .e (.set (.t 32)) [], none⟩] [0, 3, 4])
  (.seq (.seq (.ops [⟨some 33, .q (.mov (.t 0)), none⟩,
    ⟨some 34, .e (.call 71 [.t 33, .v (.str [101, 108, 115, 101])]) [], none⟩] [0, 3, 4, 34])
  (.cond (.t 34) (.ops [⟨some 35, .q (.mov (.t 4)), none⟩,
    ⟨some 36, .q (.mov (.t 0)), none⟩,
    ⟨some 37, .e (.call 170 [.t 36]) [], none⟩,
    ⟨some 38, .e (.bslice 3 1 1 [.int .i64 0] [(0, 1, .t 37)]) [], none⟩,
    ⟨some 39, .e (.append 3 1 8 (.t 35) (.t 38)) [], none⟩,
    ⟨some 4, .e (.set (.t 39)) [], none⟩] [0, 3, 4]) (.skip)))
  (.seq (.ops [⟨some 40, .q (.mov (.t 0)), none⟩,
    ⟨some 41, .q (.mov (.t 3)), none⟩,
    ⟨some 42, .q (.mov (.t 4)), none⟩,
    ⟨some 43, .q (.build [.int .i64 0, .int .i64 0, .str [], .int .i64 0, .int .i64 0, .nilslice] [(0, 1, .v (.int .i64 12)), (1, 1, .t 41), (5, 1, .t 42)]), none⟩,
    ⟨some 44, .e (.call 36 [.t 40, .t 43]) [], none⟩,
    ⟨some 2, .e (.set (.t 44)) [], none⟩] [2])
  (.ret))))) (.seq (.ops [⟨some 46, .q (.mov (.t 0)), none⟩,
    ⟨some 47, .e (.call 71 [.t 46, .v (.str [119, 104, 105, 108, 101])]) [], none⟩,
    ⟨some 45, .e (.set (.t 47)) [], none⟩] [0, 3, 45])
  (.cond (.t 45) (.seq (.ops [⟨some 48, .q (.mov (.t 0)), none⟩,
    ⟨some 49, .e (.call 220 [.t 48]) [], none⟩,
    ⟨some 5, .e (.set (.t 49)) [], none⟩] [0, 3, 5])
  (.seq (.ops [⟨some 50, .q (.mov (.t 0)), none⟩,
    ⟨some 51, .e (.call 170 [.t 50]) [], none⟩,
    ⟨some 6, .e (.set (.t 51)) [], none⟩] [0, 3, 5, 6])
  (.seq (.ops [⟨some 52, .q (.mov (.t 0)), none⟩,
    ⟨some 53, .q (.mov (.t 3)), none⟩,
    ⟨some 54, .q (.mov (.t 5)), none⟩,
    ⟨some 55, .q (.mov (.t 6)), none⟩,
    ⟨some 56, .e (.bslice 3 1 2 [.int .i64 0] [(0, 1, .t 54), (1, 1, .t 55)]) [], none⟩,
    ⟨some 57, .q (.build [.int .i64 0, .int .i64 0, .str [], .int .i64 0, .int .i64 0, .nilslice] [(0, 1, .v (.int .i64 13)), (1, 1, .t 53), (5, 1, .t 56)]), none⟩,
    ⟨some 58, .e (.call 36 [.t 52, .t 57]) [], none⟩,
    ⟨some 2, .e (.set (.t 58)) [], none⟩] [2])
  (.ret)))) (.seq (.ops [⟨some 60, .q (.mov (.t 0)), none⟩,
    ⟨some 61, .e (.call 71 [.t 60, .v (.str [114, 101, 116, 117, 114, 110])]) [], none⟩,
    ⟨some 59, .e (.set (.t 61)) [], none⟩] [0, 3, 59])
  (.cond (.t 59) (.seq (.ops [⟨some 62, .q (.mov (.t 0)), none⟩,
    ⟨some 63, .e (.call 221 [.t 62, .v (.int .i64 1)]) [], none⟩,
    ⟨some 7, .e (.set (.t 63)) [], none⟩] [0, 3, 7])
  (.seq (.ops [⟨some 64, .q (.mov (.t 0)), none⟩,
    ⟨some 65, .e (.call 72 [.t 64, .v (.str [59])]) [], none⟩] [0, 3, 7])
  (.seq (.ops [⟨some 66, .q (.mov (.t 0)), none⟩,
    ⟨some 67, .q (.mov (.t 3)), none⟩,
    ⟨some 68, .q (.mov (.t 7)), none⟩,
    ⟨some 69, .e (.bslice 3 1 1 [.int .i64 0] [(0, 1, .t 68)]) [], none⟩,
    ⟨some 70, .q (.build [.int .i64 0, .int .i64 0, .str [], .int .i64 0, .int .i64 0, .nilslice] [(0, 1, .v (.int .i64 14)), (1, 1, .t 67), (5, 1, .t 69)]), none⟩,
    ⟨some 71, .e (.call 36 [.t 66, .t 70]) [], none⟩,
    ⟨some 2, .e (.set (.t 71)) [], none⟩] [2])
  (.ret)))) (.seq (.ops [⟨some 73, .q (.mov (.t 0)), none⟩,
    ⟨some 74, .e (.call 71 [.t 73, .v (.str [98, 114, 101, 97, 107])]) [], none⟩,
    ⟨some 72, .e (.set (.t 74)) [], none⟩] [0, 3, 72])
  (.cond (.t 72) (.seq (.ops [⟨some 75, .q (.mov (.t 0)), none⟩,
    ⟨some 76, .e (.call 72 [.t 75, .v (.str [59])]) [], none⟩] [0, 3])
  (.seq (.ops [⟨some 77, .q (.mov (.t 0)), none⟩,
    ⟨some 78, .q (.mov (.t 3)), none⟩,
    ⟨some 79, .q (.build [.int .i64 0, .int .i64 0, .str [], .int .i64 0, .int .i64 0, .nilslice] [(0, 1, .v (.int .i64 15)), (1, 1, .t 78)]), none⟩,
    ⟨some 80, .e (.call 36 [.t 77, .t 79]) [], none⟩,
    ⟨some 2, .e (.set (.t 80)) [], none⟩] [2])
  (.ret))) (.seq (.ops [⟨some 82, .q (.mov (.t 0)), none⟩,
    ⟨some 83, .e (.call 71 [.t 82, .v (.str [99, 111, 110, 116, 105, 110, 117, 101])]) [], none⟩,
    ⟨some 81, .e (.set (.t 83)) [], none⟩] [0, 3, 81])
  (.cond (.t 81) (.seq (.ops [⟨some 84, .q (.mov (.t 0)), none⟩,
    ⟨some 85, .e (.call 72 [.t 84, .v (.str [59])]) [], none⟩] [0, 3])
  (.seq (.ops [⟨some 86, .q (.mov (.t 0)), none⟩,
    ⟨some 87, .q (.mov (.t 3)), none⟩,
    ⟨some 88, .q (.build [.int .i64 0, .int .i64 0, .str [], .int .i64 0, .int .i64 0, .nilslice] [(0, 1, .v (.int .i64 16)), (1, 1, .t 87)]), none⟩,
    ⟨some 89, .e (.call 36 [.t 86, .t 88]) [], none⟩,
    ⟨some 2, .e (.set (.t 89)) [], none⟩] [2])
  (.ret))) (.seq (.ops [⟨some 91, .q (.mov (.t 0)), none⟩,
    ⟨some 92, .e (.call 74 [.t 91, .v (.str [105, 110, 116])]) [], none⟩,
    ⟨some 93, .q (.mov (.t 92)), none⟩,
    ⟨some 94, .q (.mov (.t 0)), some (93, false)⟩,
    ⟨some 95, .e (.call 74 [.t 94, .v (.str [99, 104, 97, 114])]) [], some (93, false)⟩,
    ⟨some 96, .q (.pick (.t 93) (.v (.bool true)) (.t 95)), none⟩,
    ⟨some 90, .e (.set (.t 96)) [], none⟩] [0, 3, 90])
  (.cond (.t 90) (.seq (.ops [⟨some 97, .q (.mov (.t 0)), none⟩,
    ⟨some 98, .e (.call 132 [.t 97]) [], none⟩,
    ⟨some 8, .e (.alloc 47 [.int .i64 0, .int .i64 0, .str [], .int .i64 0, .int .i64 0, .nilslice]) [], none⟩,
    ⟨none, .e (.store 6 (.t 8) (.t 98)) [], none⟩] [0, 8])
  (.seq (.seq (.ops [⟨some 99, .q (.mov (.t 0)), none⟩,
    ⟨some 100, .e (.call 71 [.t 99, .v (.str [61])]) [], none⟩] [0, 8, 100])
  (.cond (.t 100) (.ops [⟨some 101, .q (.mov (.t 0)), none⟩,
    ⟨some 102, .e (.call 221 [.t 101, .v (.int .i64 1)]) [], none⟩,
    ⟨some 103, .e (.bslice 3 1 1 [.int .i64 0] [(0, 1, .t 102)]) [], none⟩,
    ⟨some 104, .q (.addr 5 (.t 8)), none⟩,
    ⟨none, .e (.store 1 (.t 104) (.t 103)) [], none⟩] [0, 8]) (.skip)))
  (.seq (.ops [⟨some 105, .q (.mov (.t 0)), none⟩,
    ⟨some 106, .e (.call 72 [.t 105, .v (.str [59])]) [], none⟩] [0, 8])
  (.seq (.ops [⟨some 107, .q (.mov (.t 0)), none⟩,
    ⟨some 108, .q (.load (some 6) (.t 8)), none⟩,
    ⟨some 109, .e (.call 36 [.t 107, .t 108]) [], none⟩,
    ⟨some 2, .e (.set (.t 109)) [], none⟩] [2])
  (.ret))))) (.skip))))))))))))))))
  (.seq (.ops [⟨some 110, .q (.mov (.t 0)), none⟩,
    ⟨some 111, .q (.mov (.t 3)), none⟩,
    ⟨some 112, .e (.call 222 [.t 110, .t 111]) [], none⟩,
    ⟨some 2, .e (.set (.t 112)) [], none⟩] [2])
  (.ret)))))), [.slot 2]⟩
/-- 'strings.trimLeftByte' -/
def i172 : IFunc := ⟨.seq (.ops [⟨some 4, .e (.set (.v (.str []))) [], none⟩] [0, 1])
  (.seq (.block 0 (.loop [0, 1] (.seq (.seq (.ops [⟨some 5, .q (.mov (.t 0)), none⟩,
    ⟨some 6, .q (.len .str (.t 5)), none⟩,
    ⟨some 7, .q (.bin .gtr (.t 6) (.v (.int .i64 0))), none⟩,
    ⟨some 8, .q (.mov (.t 7)), none⟩,
    ⟨some 9, .q (.mov (.t 0)), some (8, true)⟩,
    ⟨some 10, .q (.ixStr (.t 9) (.v (.int .i64 0))), some (8, true)⟩,
    ⟨some 11, .q (.mov (.t 1)), some (8, true)⟩,
    ⟨some 12, .q (.bin .eql (.t 10) (.t 11)), some (8, true)⟩,
    ⟨some 13, .q (.pick (.t 8) (.t 12) (.v (.bool false))), none⟩] [0, 1, 13])
  (.cond (.t 13) (.skip) (.exit 0)))
  (.block 1 (.ops [⟨some 14, .q (.mov (.t 0)), none⟩,
    ⟨some 15, .q (.slStr (.t 14) (some (.v (.int .i64 1))) none), none⟩,
    ⟨some 0, .e (.set (.t 15)) [], none⟩] [0, 1])))))
  (.seq (.ops [⟨some 16, .q (.mov (.t 0)), none⟩,
    ⟨some 4, .e (.set (.t 16)) [], none⟩] [4])
  (.ret))), [.slot 4]⟩
/-- 'strings.trimRightByte' -/
def i173 : IFunc := ⟨.seq (.ops [⟨some 4, .e (.set (.v (.str []))) [], none⟩] [0, 1])
  (.seq (.block 0 (.loop [0, 1] (.seq (.seq (.ops [⟨some 5, .q (.mov (.t 0)), none⟩,
    ⟨some 6, .q (.len .str (.t 5)), none⟩,
    ⟨some 7, .q (.bin .gtr (.t 6) (.v (.int .i64 0))), none⟩,
    ⟨some 8, .q (.mov (.t 7)), none⟩,
    ⟨some 9, .q (.mov (.t 0)), some (8, true)⟩,
    ⟨some 10, .q (.mov (.t 0)), some (8, true)⟩,
    ⟨some 11, .q (.len .str (.t 10)), some (8, true)⟩,
    ⟨some 12, .q (.bin .sub (.t 11) (.v (.int .i64 1))), some (8, true)⟩,
    ⟨some 13, .q (.ixStr (.t 9) (.t 12)), some (8, true)⟩,
    ⟨some 14, .q (.mov (.t 1)), some (8, true)⟩,
    ⟨some 15, .q (.bin .eql (.t 13) (.t 14)), some (8, true)⟩,
    ⟨some 16, .q (.pick (.t 8) (.t 15) (.v (.bool false))), none⟩] [0, 1, 16])
  (.cond (.t 16) (.skip) (.exit 0)))
  (.block 1 (.ops [⟨some 17, .q (.mov (.t 0)), none⟩,
    ⟨some 18, .q (.mov (.t 0)), none⟩,
    ⟨some 19, .q (.len .str (.t 18)), none⟩,
    ⟨some 20, .q (.bin .sub (.t 19) (.v (.int .i64 1))), none⟩,
    ⟨some 21, .q (.slStr (.t 17) none (some (.t 20))), none⟩,
    ⟨some 0, .e (.set (.t 21)) [], none⟩] [0, 1])))))
  (.seq (.ops [⟨some 22, .q (.mov (.t 0)), none⟩,
    ⟨some 4, .e (.set (.t 22)) [], none⟩] [4])
  (.ret))), [.slot 4]⟩
/-- '(*binnacle/front.writer).expr$1' -/
def i183 : IFunc := ⟨.seq (.ops [⟨some 4, .e (.set (.v (.int .i64 0))) [], none⟩] [0, 1, 2])
  (.seq (.ops [⟨some 5, .q (.load none (.t 1)), none⟩,
    ⟨some 6, .q (.nilc (.t 5)), none⟩,
    ⟨some 7, .q (.addr 0 (.t 6)), none⟩,
    ⟨some 8, .q (.load none (.t 7)), none⟩,
    ⟨some 9, .q (.addr 5 (.t 2)), none⟩,
    ⟨some 10, .q (.load none (.t 9)), none⟩,
    ⟨some 11, .q (.mov (.t 0)), none⟩,
    ⟨some 12, .q (.ixSl 1 (.t 10) (.t 11)), none⟩,
    ⟨some 13, .q (.load none (.t 12)), none⟩,
    ⟨some 14, .q (.ixSl 6 (.t 8) (.t 13)), none⟩,
    ⟨some 15, .q (.addr 0 (.t 14)), none⟩,
    ⟨some 16, .q (.load none (.t 15)), none⟩,
    ⟨some 4, .e (.set (.t 16)) [], none⟩] [4])
  (.ret)), [.slot 4]⟩
/-- 'binnacle/front.quote' -/
def i184 : IFunc := ⟨.seq (.ops [⟨some 2, .e (.set (.v (.str []))) [], none⟩] [0])
  (.seq (.ops [⟨some 4, .e (.bslice 9 1 8 [.str []] [(0, 1, .v (.str [10])), (1, 1, .v (.str [92, 110])), (2, 1, .v (.str [9])), (3, 1, .v (.str [92, 116])), (4, 1, .v (.str [92])), (5, 1, .v (.str [92, 92])), (6, 1, .v (.str [34])), (7, 1, .v (.str [92, 34]))]) [], none⟩,
    ⟨some 5, .e (.call 232 [.t 4]) [], none⟩,
    ⟨some 3, .e (.set (.t 5)) [], none⟩] [0, 3])
  (.seq (.ops [⟨some 6, .q (.mov (.t 3)), none⟩,
    ⟨some 7, .q (.mov (.t 0)), none⟩,
    ⟨some 8, .e (.call 233 [.t 6, .t 7]) [], none⟩,
    ⟨some 9, .q (.bin .add (.v (.str [34])) (.t 8)), none⟩,
    ⟨some 10, .q (.bin .add (.t 9) (.v (.str [34]))), none⟩,
    ⟨some 2, .e (.set (.t 10)) [], none⟩] [2])
  (.ret))), [.slot 2]⟩
/-- '(*binnacle/front.writer).within' -/
def i185 : IFunc := ⟨.seq (.seq (.ops [⟨some 6, .q (.mov (.t 2)), none⟩] [0, 1, 2, 6])
  (.cond (.t 6) (.ops [⟨some 7, .q (.mov (.t 0)), none⟩,
    ⟨some 8, .e (.bslice 9 1 1 [.str []] [(0, 1, .v (.str [40]))]) [], none⟩,
    ⟨some 9, .e (.call 77 [.t 7, .t 8]) [], none⟩] [0, 1, 2]) (.skip)))
  (.seq (.ops [⟨some 10, .q (.mov (.t 0)), none⟩,
    ⟨some 11, .q (.mov (.t 1)), none⟩,
    ⟨some 12, .e (.call 139 [.t 10, .t 11]) [], none⟩] [0, 2])
  (.seq (.ops [⟨some 13, .q (.mov (.t 2)), none⟩] [0, 13])
  (.cond (.t 13) (.ops [⟨some 14, .q (.mov (.t 0)), none⟩,
    ⟨some 15, .e (.bslice 9 1 1 [.str []] [(0, 1, .v (.str [41]))]) [], none⟩,
    ⟨some 16, .e (.call 77 [.t 14, .t 15]) [], none⟩] []) (.skip)))), []⟩
/-- 'binnacle/front.op' -/
def i186 : IFunc := ⟨.seq (.ops [⟨some 2, .e (.set (.v (.str []))) [], none⟩] [0])
  (.seq (.ops [⟨some 3, .e (.call 124 [.v (.str [45, 32, 33, 32, 126, 32, 42, 32, 47, 32, 37, 32, 43, 32, 45, 32, 60, 60, 32, 62, 62, 32, 60, 32, 60, 61, 32, 62, 32, 62, 61, 32, 61, 61, 32, 33, 61, 32, 38, 32, 94, 32, 124, 32, 38, 38, 32, 124, 124])]) [], none⟩,
    ⟨some 4, .q (.mov (.t 0)), none⟩,
    ⟨some 5, .q (.bin .sub (.t 4) (.v (.int .i64 1))), none⟩,
    ⟨some 6, .q (.ixSl 1 (.t 3) (.t 5)), none⟩,
    ⟨some 7, .q (.load none (.t 6)), none⟩,
    ⟨some 2, .e (.set (.t 7)) [], none⟩] [2])
  (.ret)), [.slot 2]⟩
/-- '(*binnacle/front.writer).expr$2' -/
def i187 : IFunc := ⟨.seq (.ops [⟨some 5, .e (.set (.v (.int .i64 0))) [], none⟩] [0, 1, 2, 3])
  (.seq (.seq (.ops [⟨some 6, .q (.load none (.t 1)), none⟩,
    ⟨some 7, .q (.mov (.t 0)), none⟩,
    ⟨some 8, .e (.callv (.t 6) [.t 7]) [], none⟩,
    ⟨some 9, .q (.bin .neq (.t 8) (.v (.int .i64 7))), none⟩] [0, 2, 3, 9])
  (.cond (.t 9) (.seq (.ops [⟨some 5, .e (.set (.v (.int .i64 99))) [], none⟩] [5])
  (.ret)) (.skip)))
  (.seq (.ops [⟨some 10, .q (.load none (.t 2)), none⟩,
    ⟨some 11, .q (.nilc (.t 10)), none⟩,
    ⟨some 12, .q (.addr 0 (.t 11)), none⟩,
    ⟨some 13, .q (.load none (.t 12)), none⟩,
    ⟨some 14, .q (.addr 5 (.t 3)), none⟩,
    ⟨some 15, .q (.load none (.t 14)), none⟩,
    ⟨some 16, .q (.mov (.t 0)), none⟩,
    ⟨some 17, .q (.ixSl 1 (.t 15) (.t 16)), none⟩,
    ⟨some 18, .q (.load none (.t 17)), none⟩,
    ⟨some 19, .q (.ixSl 6 (.t 13) (.t 18)), none⟩,
    ⟨some 20, .q (.addr 3 (.t 19)), none⟩,
    ⟨some 21, .q (.load none (.t 20)), none⟩,
    ⟨some 22, .e (.call 188 [.t 21]) [], none⟩,
    ⟨some 5, .e (.set (.t 22)) [], none⟩] [5])
  (.ret))), [.slot 5]⟩
/-- 'binnacle/front.Level' -/
def i188 : IFunc := ⟨.seq (.ops [⟨some 2, .e (.set (.v (.int .i64 0))) [], none⟩] [0])
  (.seq (.seq (.ops [⟨some 3, .q (.mov (.t 0)), none⟩,
    ⟨some 4, .q (.bin .lss (.t 3) (.v (.int .i64 4))), none⟩,
    ⟨some 5, .q (.mov (.t 4)), none⟩,
    ⟨some 6, .q (.mov (.t 0)), some (5, false)⟩,
    ⟨some 7, .q (.bin .gtr (.t 6) (.v (.int .i64 21))), some (5, false)⟩,
    ⟨some 8, .q (.pick (.t 5) (.v (.bool true)) (.t 7)), none⟩] [0, 8])
  (.cond (.t 8) (.seq (.ops [⟨some 2, .e (.set (.v (.int .i64 0))) [], none⟩] [2])
  (.ret)) (.skip)))
  (.seq (.ops [⟨some 9, .q (.build [.int .i64 0, .int .i64 0, .int .i64 0, .int .i64 0, .int .i64 0, .int .i64 0, .int .i64 0, .int .i64 0, .int .i64 0, .int .i64 0, .int .i64 0, .int .i64 0, .int .i64 0, .int .i64 0, .int .i64 0, .int .i64 0, .int .i64 0, .int .i64 0] [(0, 1, .v (.int .i64 10)), (1, 1, .v (.int .i64 10)), (2, 1, .v (.int .i64 10)), (3, 1, .v (.int .i64 9)), (4, 1, .v (.int .i64 9)), (5, 1, .v (.int .i64 8)), (6, 1, .v (.int .i64 8)), (7, 1, .v (.int .i64 7)), (8, 1, .v (.int .i64 7)), (9, 1, .v (.int .i64 7)), (10, 1, .v (.int .i64 7)), (11, 1, .v (.int .i64 6)), (12, 1, .v (.int .i64 6)), (13, 1, .v (.int .i64 5)), (14, 1, .v (.int .i64 4)), (15, 1, .v (.int .i64 3)), (16, 1, .v (.int .i64 2)), (17, 1, .v (.int .i64 1))]), none⟩,
    ⟨some 10, .q (.mov (.t 0)), none⟩,
    ⟨some 11, .q (.bin .sub (.t 10) (.v (.int .i64 4))), none⟩,
    ⟨some 12, .q (.ixVal none 18 (.t 9) (.t 11)), none⟩,
    ⟨some 2, .e (.set (.t 12)) [], none⟩] [2])
  (.ret))), [.slot 2]⟩
/-- '(*binnacle/binnacleref17.Reader).is' -/
def i189 : IFunc := ⟨.seq (.ops [⟨some 4, .e (.set (.v (.bool false))) [], none⟩] [0, 1])
  (.seq (.ops [⟨some 6, .q (.mov (.t 0)), none⟩,
    ⟨some 7, .q (.nilc (.t 6)), none⟩,
    ⟨some 8, .q (.addr 0 (.t 7)), none⟩,
    ⟨some 9, .q (.load none (.t 8)), none⟩,
    ⟨some 10, .q (.mov (.t 0)), none⟩,
    ⟨some 11, .q (.nilc (.t 10)), none⟩,
    ⟨some 12, .q (.addr 1 (.t 11)), none⟩,
    ⟨some 13, .q (.load none (.t 12)), none⟩,
    ⟨some 14, .q (.ixSl 4 (.t 9) (.t 13)), none⟩,
    ⟨some 15, .q (.load (some 4) (.t 14)), none⟩,
    ⟨some 5, .e (.alloc 56 [.int .i64 0, .int .i64 0, .str [], .int .i64 0]) [], none⟩,
    ⟨none, .e (.store 4 (.t 5) (.t 15)) [], none⟩] [0, 1, 5])
  (.seq (.ops [⟨some 16, .q (.mov (.t 0)), none⟩,
    ⟨some 17, .q (.nilc (.t 16)), none⟩,
    ⟨some 18, .q (.addr 4 (.t 17)), none⟩,
    ⟨some 19, .q (.load none (.t 18)), none⟩,
    ⟨some 20, .q (.bin .eql (.t 19) (.v (.int .i64 0))), none⟩,
    ⟨some 21, .q (.mov (.t 20)), none⟩,
    ⟨some 22, .q (.addr 0 (.t 5)), some (21, true)⟩,
    ⟨some 23, .q (.load none (.t 22)), some (21, true)⟩,
    ⟨some 24, .q (.bin .eql (.t 23) (.v (.int .i64 2))), some (21, true)⟩,
    ⟨some 25, .q (.mov (.t 24)), some (21, true)⟩,
    ⟨some 26, .q (.addr 0 (.t 5)), some (25, false)⟩,
    ⟨some 27, .q (.load none (.t 26)), some (25, false)⟩,
    ⟨some 28, .q (.bin .eql (.t 27) (.v (.int .i64 5))), some (25, false)⟩,
    ⟨some 29, .q (.pick (.t 25) (.v (.bool true)) (.t 28)), some (21, true)⟩,
    ⟨some 30, .q (.pick (.t 21) (.t 29) (.v (.bool false))), none⟩,
    ⟨some 31, .q (.mov (.t 30)), none⟩,
    ⟨some 32, .q (.addr 2 (.t 5)), some (31, true)⟩,
    ⟨some 33, .q (.load none (.t 32)), some (31, true)⟩,
    ⟨some 34, .q (.mov (.t 1)), some (31, true)⟩,
    ⟨some 35, .q (.bin .eql (.t 33) (.t 34)), some (31, true)⟩,
    ⟨some 36, .q (.pick (.t 31) (.t 35) (.v (.bool false))), none⟩,
    ⟨some 4, .e (.set (.t 36)) [], none⟩] [4])
  (.ret))), [.slot 4]⟩
end Go.Am

