/-
  Forms of functions (3). Conditions: none.
-/
import Derived.Test.YthgemggkogfhaaaGreatDoorB1
namespace Go.Am
open Go Go.RowKit
set_option maxRecDepth 100000
/-- '(*binnacle/binnacleref17.Reader).next' -/
def i190 : IFunc := ⟨.seq (.ops [⟨some 2, .e (.alloc 56 [.int .i64 0, .int .i64 0, .str [], .int .i64 0]) [], none⟩] [0, 2])
  (.seq (.ops [⟨some 4, .q (.mov (.t 0)), none⟩,
    ⟨some 5, .q (.nilc (.t 4)), none⟩,
    ⟨some 6, .q (.addr 0 (.t 5)), none⟩,
    ⟨some 7, .q (.load none (.t 6)), none⟩,
    ⟨some 8, .q (.mov (.t 0)), none⟩,
    ⟨some 9, .q (.nilc (.t 8)), none⟩,
    ⟨some 10, .q (.addr 1 (.t 9)), none⟩,
    ⟨some 11, .q (.load none (.t 10)), none⟩,
    ⟨some 12, .q (.ixSl 4 (.t 7) (.t 11)), none⟩,
    ⟨some 13, .q (.load (some 4) (.t 12)), none⟩,
    ⟨some 3, .e (.alloc 56 [.int .i64 0, .int .i64 0, .str [], .int .i64 0]) [], none⟩,
    ⟨none, .e (.store 4 (.t 3) (.t 13)) [], none⟩] [0, 2, 3])
  (.seq (.seq (.ops [⟨some 14, .q (.mov (.t 0)), none⟩,
    ⟨some 15, .q (.nilc (.t 14)), none⟩,
    ⟨some 16, .q (.addr 4 (.t 15)), none⟩,
    ⟨some 17, .q (.load none (.t 16)), none⟩,
    ⟨some 18, .q (.bin .eql (.t 17) (.v (.int .i64 0))), none⟩,
    ⟨some 19, .q (.mov (.t 18)), none⟩,
    ⟨some 20, .q (.mov (.t 0)), some (19, true)⟩,
    ⟨some 21, .q (.nilc (.t 20)), some (19, true)⟩,
    ⟨some 22, .q (.addr 1 (.t 21)), some (19, true)⟩,
    ⟨some 23, .q (.load none (.t 22)), some (19, true)⟩,
    ⟨some 24, .q (.bin .add (.t 23) (.v (.int .i64 1))), some (19, true)⟩,
    ⟨some 25, .q (.mov (.t 0)), some (19, true)⟩,
    ⟨some 26, .q (.nilc (.t 25)), some (19, true)⟩,
    ⟨some 27, .q (.addr 0 (.t 26)), some (19, true)⟩,
    ⟨some 28, .q (.load none (.t 27)), some (19, true)⟩,
    ⟨some 29, .q (.len .slice (.t 28)), some (19, true)⟩,
    ⟨some 30, .q (.bin .lss (.t 24) (.t 29)), some (19, true)⟩,
    ⟨some 31, .q (.pick (.t 19) (.t 30) (.v (.bool false))), none⟩] [0, 2, 3, 31])
  (.cond (.t 31) (.seq (.ops [⟨some 32, .q (.mov (.t 0)), none⟩,
    ⟨some 33, .q (.nilc (.t 32)), none⟩,
    ⟨some 34, .q (.addr 1 (.t 33)), none⟩,
    ⟨some 35, .q (.load none (.t 34)), none⟩,
    ⟨some 36, .q (.bin .add (.t 35) (.v (.int .i64 1))), none⟩,
    ⟨some 37, .q (.nilc (.t 32)), none⟩,
    ⟨some 38, .q (.addr 1 (.t 37)), none⟩,
    ⟨none, .e (.store 1 (.t 38) (.t 36)) [], none⟩] [0, 2, 3])
  (.seq (.ops [⟨some 39, .q (.mov (.t 0)), none⟩,
    ⟨some 40, .q (.nilc (.t 39)), none⟩,
    ⟨some 41, .q (.addr 0 (.t 40)), none⟩,
    ⟨some 42, .q (.load none (.t 41)), none⟩,
    ⟨some 43, .q (.mov (.t 0)), none⟩,
    ⟨some 44, .q (.nilc (.t 43)), none⟩,
    ⟨some 45, .q (.addr 1 (.t 44)), none⟩,
    ⟨some 46, .q (.load none (.t 45)), none⟩,
    ⟨some 47, .q (.ixSl 4 (.t 42) (.t 46)), none⟩,
    ⟨some 48, .q (.addr 0 (.t 47)), none⟩,
    ⟨some 49, .q (.load none (.t 48)), none⟩,
    ⟨some 50, .q (.bin .eql (.t 49) (.v (.int .i64 6))), none⟩] [0, 2, 3, 50])
  (.cond (.t 50) (.ops [⟨some 51, .q (.mov (.t 0)), none⟩,
    ⟨some 52, .e (.call 83 [.t 51, .v (.int .i64 13)]) [], none⟩] [2, 3]) (.skip)))) (.skip)))
  (.seq (.ops [⟨some 53, .q (.load (some 4) (.t 3)), none⟩,
    ⟨none, .e (.store 4 (.t 2) (.t 53)) [], none⟩] [2])
  (.ret)))), [.cell 2 (some 4)]⟩
/-- '(*binnacle/binnacleref17.Reader).param' -/
def i191 : IFunc := ⟨.seq (.ops [⟨some 2, .e (.alloc 47 [.int .i64 0, .int .i64 0, .str [], .int .i64 0, .int .i64 0, .nilslice]) [], none⟩] [0, 2])
  (.seq (.ops [⟨some 7, .q (.mov (.t 0)), none⟩,
    ⟨some 8, .q (.nilc (.t 7)), none⟩,
    ⟨some 9, .q (.addr 0 (.t 8)), none⟩,
    ⟨some 10, .q (.load none (.t 9)), none⟩,
    ⟨some 11, .q (.mov (.t 0)), none⟩,
    ⟨some 12, .q (.nilc (.t 11)), none⟩,
    ⟨some 13, .q (.addr 1 (.t 12)), none⟩,
    ⟨some 14, .q (.load none (.t 13)), none⟩,
    ⟨some 15, .q (.ixSl 4 (.t 10) (.t 14)), none⟩,
    ⟨some 16, .q (.addr 1 (.t 15)), none⟩,
    ⟨some 17, .q (.load none (.t 16)), none⟩,
    ⟨some 18, .q (.build [.int .i64 0, .int .i64 0, .str [], .int .i64 0, .int .i64 0, .nilslice] [(0, 1, .v (.int .i64 18)), (1, 1, .t 17), (4, 1, .v (.int .i64 1))]), none⟩,
    ⟨some 3, .e (.alloc 47 [.int .i64 0, .int .i64 0, .str [], .int .i64 0, .int .i64 0, .nilslice]) [], none⟩,
    ⟨none, .e (.store 6 (.t 3) (.t 18)) [], none⟩] [0, 2, 3])
  (.seq (.ops [⟨some 19, .q (.mov (.t 0)), none⟩,
    ⟨some 20, .e (.call 140 [.t 19, .v (.str [99, 104, 97, 114])]) [], none⟩,
    ⟨some 4, .e (.set (.t 20)) [], none⟩] [0, 2, 3, 4])
  (.seq (.seq (.ops [⟨some 21, .q (.mov (.t 4)), none⟩] [0, 2, 3, 21])
  (.cond (.t 21) (.seq (.ops [⟨some 22, .q (.mov (.t 0)), none⟩,
    ⟨some 23, .e (.call 141 [.t 22, .v (.str [42])]) [], none⟩] [0, 2, 3])
  (.ops [⟨some 24, .q (.addr 4 (.t 3)), none⟩,
    ⟨none, .e (.store 1 (.t 24) (.v (.int .i64 2))) [], none⟩] [0, 2, 3])) (.seq (.ops [⟨some 25, .q (.mov (.t 0)), none⟩,
    ⟨some 26, .e (.call 141 [.t 25, .v (.str [105, 110, 116])]) [], none⟩] [0, 2, 3])
  (.seq (.ops [⟨some 27, .q (.mov (.t 0)), none⟩,
    ⟨some 28, .e (.call 140 [.t 27, .v (.str [42])]) [], none⟩,
    ⟨some 5, .e (.set (.t 28)) [], none⟩] [0, 2, 3, 5])
  (.seq (.ops [⟨some 29, .q (.mov (.t 5)), none⟩] [0, 2, 3, 29])
  (.cond (.t 29) (.ops [⟨some 30, .q (.addr 4 (.t 3)), none⟩,
    ⟨none, .e (.store 1 (.t 30) (.v (.int .i64 3))) [], none⟩] [0, 2, 3]) (.skip)))))))
  (.seq (.ops [⟨some 31, .q (.mov (.t 0)), none⟩,
    ⟨some 32, .e (.call 142 [.t 31, .v (.int .i64 1)]) [], none⟩,
    ⟨some 6, .e (.alloc 56 [.int .i64 0, .int .i64 0, .str [], .int .i64 0]) [], none⟩,
    ⟨none, .e (.store 4 (.t 6) (.t 32)) [], none⟩] [2, 3, 6])
  (.seq (.ops [⟨some 33, .q (.addr 2 (.t 6)), none⟩,
    ⟨some 34, .q (.load none (.t 33)), none⟩,
    ⟨some 35, .q (.addr 2 (.t 3)), none⟩,
    ⟨none, .e (.store 1 (.t 35) (.t 34)) [], none⟩] [2, 3])
  (.seq (.ops [⟨some 36, .q (.load (some 6) (.t 3)), none⟩,
    ⟨none, .e (.store 6 (.t 2) (.t 36)) [], none⟩] [2])
  (.ret))))))), [.cell 2 (some 6)]⟩
/-- '(*binnacle/binnacleref17.Reader).block' -/
def i192 : IFunc := ⟨.seq (.ops [⟨some 2, .e (.set (.v (.int .i64 0))) [], none⟩] [0])
  (.seq (.ops [⟨some 6, .q (.mov (.t 0)), none⟩,
    ⟨some 7, .q (.nilc (.t 6)), none⟩,
    ⟨some 8, .q (.addr 0 (.t 7)), none⟩,
    ⟨some 9, .q (.load none (.t 8)), none⟩,
    ⟨some 10, .q (.mov (.t 0)), none⟩,
    ⟨some 11, .q (.nilc (.t 10)), none⟩,
    ⟨some 12, .q (.addr 1 (.t 11)), none⟩,
    ⟨some 13, .q (.load none (.t 12)), none⟩,
    ⟨some 14, .q (.ixSl 4 (.t 9) (.t 13)), none⟩,
    ⟨some 15, .q (.addr 1 (.t 14)), none⟩,
    ⟨some 16, .q (.load none (.t 15)), none⟩,
    ⟨some 3, .e (.set (.t 16)) [], none⟩] [0, 3])
  (.seq (.ops [⟨some 17, .q (.mov (.t 0)), none⟩,
    ⟨some 18, .e (.call 141 [.t 17, .v (.str [123])]) [], none⟩] [0, 3])
  (.seq (.ops [⟨some 4, .e (.set (.v (.nilslice))) [], none⟩] [0, 3, 4])
  (.seq (.block 0 (.loop [0, 3, 4] (.seq (.seq (.ops [⟨some 19, .q (.mov (.t 0)), none⟩,
    ⟨some 20, .q (.nilc (.t 19)), none⟩,
    ⟨some 21, .q (.addr 4 (.t 20)), none⟩,
    ⟨some 22, .q (.load none (.t 21)), none⟩,
    ⟨some 23, .q (.bin .eql (.t 22) (.v (.int .i64 0))), none⟩] [0, 3, 4, 23])
  (.cond (.t 23) (.skip) (.exit 0)))
  (.block 1 (.seq (.ops [⟨some 24, .q (.mov (.t 0)), none⟩,
    ⟨some 25, .e (.call 140 [.t 24, .v (.str [125])]) [], none⟩,
    ⟨some 5, .e (.set (.t 25)) [], none⟩] [0, 3, 4, 5])
  (.seq (.seq (.ops [⟨some 26, .q (.mov (.t 5)), none⟩] [0, 3, 4, 26])
  (.cond (.t 26) (.exit 0) (.skip)))
  (.ops [⟨some 27, .q (.mov (.t 4)), none⟩,
    ⟨some 28, .q (.mov (.t 0)), none⟩,
    ⟨some 29, .e (.call 234 [.t 28]) [], none⟩,
    ⟨some 30, .e (.bslice 3 1 1 [.int .i64 0] [(0, 1, .t 29)]) [], none⟩,
    ⟨some 31, .e (.append 3 1 8 (.t 27) (.t 30)) [], none⟩,
    ⟨some 4, .e (.set (.t 31)) [], none⟩] [0, 3, 4])))))))
  (.seq (.ops [⟨some 32, .q (.mov (.t 0)), none⟩,
    ⟨some 33, .q (.mov (.t 3)), none⟩,
    ⟨some 34, .q (.mov (.t 4)), none⟩,
    ⟨some 35, .q (.build [.int .i64 0, .int .i64 0, .str [], .int .i64 0, .int .i64 0, .nilslice] [(0, 1, .v (.int .i64 17)), (1, 1, .t 33), (5, 1, .t 34)]), none⟩,
    ⟨some 36, .e (.call 85 [.t 32, .t 35]) [], none⟩,
    ⟨some 2, .e (.set (.t 36)) [], none⟩] [2])
  (.ret)))))), [.slot 2]⟩
/-- '(*binnacle/mean.run).locals$1' -/
def i199 : IFunc := ⟨.seq (.seq (.ops [⟨some 7, .q (.load none (.t 1)), none⟩,
    ⟨some 8, .q (.nilc (.t 7)), none⟩,
    ⟨some 9, .q (.addr 0 (.t 8)), none⟩,
    ⟨some 10, .q (.load none (.t 9)), none⟩,
    ⟨some 11, .q (.mov (.t 0)), none⟩,
    ⟨some 12, .q (.ixSl 6 (.t 10) (.t 11)), none⟩,
    ⟨some 13, .q (.addr 0 (.t 12)), none⟩,
    ⟨some 14, .q (.load none (.t 13)), none⟩,
    ⟨some 15, .q (.bin .eql (.t 14) (.v (.int .i64 18))), none⟩] [0, 1, 2, 3, 15])
  (.cond (.t 15) (.ops [⟨some 16, .q (.load none (.t 2)), none⟩,
    ⟨some 17, .q (.bin .add (.t 16) (.v (.int .i64 1))), none⟩,
    ⟨none, .e (.store 1 (.t 2) (.t 17)) [], none⟩] [0, 1, 3]) (.skip)))
  (.seq (.ops [⟨some 18, .q (.load none (.t 1)), none⟩,
    ⟨some 19, .q (.nilc (.t 18)), none⟩,
    ⟨some 20, .q (.addr 0 (.t 19)), none⟩,
    ⟨some 21, .q (.load none (.t 20)), none⟩,
    ⟨some 22, .q (.mov (.t 0)), none⟩,
    ⟨some 23, .q (.ixSl 6 (.t 21) (.t 22)), none⟩,
    ⟨some 24, .q (.addr 5 (.t 23)), none⟩,
    ⟨some 25, .q (.load none (.t 24)), none⟩,
    ⟨some 26, .q (.len .slice (.t 25)), none⟩,
    ⟨some 27, .q (.mov (.v (.int .i64 0))), none⟩] [3, 25, 26, 27])
  (.block 0 (.loop [3, 25, 26, 27] (.seq (.ops [⟨some 28, .q (.bin .lss (.t 27) (.t 26)), none⟩] [3, 25, 26, 27, 28])
  (.seq (.cond (.t 28) (.skip) (.exit 0))
  (.seq (.block 1 (.seq (.ops [⟨some 29, .q (.ixSl 1 (.t 25) (.t 27)), none⟩,
    ⟨some 30, .q (.load none (.t 29)), none⟩,
    ⟨some 6, .e (.set (.t 30)) [], none⟩] [3, 6, 25, 26, 27])
  (.ops [⟨some 31, .q (.load none (.t 3)), none⟩,
    ⟨some 32, .q (.mov (.t 6)), none⟩,
    ⟨some 33, .e (.callv (.t 31) [.t 32]) [], none⟩] [3, 25, 26, 27])))
  (.ops [⟨some 34, .q (.bin .add (.t 27) (.v (.int .i64 1))), none⟩,
    ⟨some 27, .q (.mov (.t 34)), none⟩] [3, 25, 26, 27]))))))), []⟩
/-- '(*binnacle/mean.run).cost' -/
def i200 : IFunc := ⟨.seq (.seq (.ops [⟨some 2, .q (.mov (.t 0)), none⟩,
    ⟨some 3, .q (.nilc (.t 2)), none⟩,
    ⟨some 4, .q (.addr 5 (.t 3)), none⟩,
    ⟨some 5, .q (.load none (.t 4)), none⟩,
    ⟨some 6, .q (.bin .eql (.t 5) (.v (.int .i64 0))), none⟩] [0, 6])
  (.cond (.t 6) (.ops [⟨some 7, .q (.build [.int .i64 0, .int .i64 0] [(0, 1, .v (.int .i64 3))]), none⟩,
    ⟨some 8, .q (.iface 127 (.t 7)), none⟩,
    ⟨none, .e (.panic (.t 8)) [], none⟩] [0]) (.skip)))
  (.ops [⟨some 9, .q (.mov (.t 0)), none⟩,
    ⟨some 10, .q (.nilc (.t 9)), none⟩,
    ⟨some 11, .q (.addr 5 (.t 10)), none⟩,
    ⟨some 12, .q (.load none (.t 11)), none⟩,
    ⟨some 13, .q (.bin .sub (.t 12) (.v (.int .i64 1))), none⟩,
    ⟨some 14, .q (.nilc (.t 9)), none⟩,
    ⟨some 15, .q (.addr 5 (.t 14)), none⟩,
    ⟨none, .e (.store 1 (.t 15) (.t 13)) [], none⟩] []), []⟩
/-- '(*binnacle/mean.run).reckon' -/
def i201 : IFunc := ⟨.seq (.ops [⟨some 3, .e (.box 124 (.t 0)) [], none⟩,
    ⟨some 4, .e (.box 214 (.t 1)) [], none⟩,
    ⟨some 6, .e (.alloc 185 [.int .i64 0, .int .i64 0]) [], none⟩] [2, 3, 4, 6])
  (.seq (.ops [⟨some 13, .q (.load none (.t 3)), none⟩,
    ⟨some 14, .e (.call 200 [.t 13]) [], none⟩] [2, 3, 4, 6])
  (.seq (.ops [⟨some 15, .q (.load none (.t 3)), none⟩,
    ⟨some 16, .q (.nilc (.t 15)), none⟩,
    ⟨some 17, .q (.addr 0 (.t 16)), none⟩,
    ⟨some 18, .q (.load none (.t 17)), none⟩,
    ⟨some 19, .q (.mov (.t 2)), none⟩,
    ⟨some 20, .q (.ixSl 6 (.t 18) (.t 19)), none⟩,
    ⟨some 21, .q (.load (some 6) (.t 20)), none⟩,
    ⟨some 7, .e (.alloc 47 [.int .i64 0, .int .i64 0, .str [], .int .i64 0, .int .i64 0, .nilslice]) [], none⟩,
    ⟨none, .e (.store 6 (.t 7) (.t 21)) [], none⟩] [2, 3, 4, 6, 7])
  (.seq (.ops [⟨some 22, .q (.func (.func 239) [] [.t 3, .t 4, .t 7]), none⟩,
    ⟨some 8, .e (.set (.t 22)) [], none⟩] [2, 3, 4, 6, 7, 8])
  (.seq (.seq (.ops [⟨some 23, .q (.addr 0 (.t 7)), none⟩,
    ⟨some 24, .q (.load none (.t 23)), none⟩] [2, 3, 4, 6, 7, 8, 24])
  (.block 0 (.seq (.ops [⟨some 26, .q (.bin .eql (.t 24) (.v (.int .i64 1))), none⟩,
    ⟨some 25, .e (.set (.t 26)) [], none⟩] [2, 3, 4, 6, 7, 8, 24, 25])
  (.cond (.t 25) (.seq (.ops [⟨some 27, .q (.addr 3 (.t 7)), none⟩,
    ⟨some 28, .q (.load none (.t 27)), none⟩,
    ⟨some 29, .e (.call 119 [.t 28]) [], none⟩,
    ⟨none, .e (.store 2 (.t 6) (.t 29)) [], none⟩] [6])
  (.ret)) (.seq (.ops [⟨some 31, .q (.bin .eql (.t 24) (.v (.int .i64 2))), none⟩,
    ⟨some 30, .e (.set (.t 31)) [], none⟩] [2, 3, 4, 6, 7, 8, 24, 30])
  (.cond (.t 30) (.seq (.ops [⟨some 32, .q (.load none (.t 3)), none⟩,
    ⟨some 33, .q (.nilc (.t 32)), none⟩,
    ⟨some 34, .q (.addr 9 (.t 33)), none⟩,
    ⟨some 35, .q (.load none (.t 34)), none⟩,
    ⟨some 36, .q (.mov (.t 2)), none⟩,
    ⟨some 37, .q (.bin .sub (.v (.int .i64 (-1))) (.t 36)), none⟩,
    ⟨some 38, .q (.lookup .int (.int .i64 0) false (.t 35) (.t 37)), none⟩,
    ⟨some 39, .q (.build [.int .i64 0, .int .i64 0] [(0, 1, .v (.int .i64 0)), (1, 1, .t 38)]), none⟩,
    ⟨none, .e (.store 2 (.t 6) (.t 39)) [], none⟩] [6])
  (.ret)) (.seq (.ops [⟨some 41, .q (.bin .eql (.t 24) (.v (.int .i64 3))), none⟩,
    ⟨some 40, .e (.set (.t 41)) [], none⟩] [2, 3, 4, 6, 7, 8, 24, 40])
  (.cond (.t 40) (.seq (.ops [⟨some 42, .q (.load none (.t 3)), none⟩,
    ⟨some 43, .q (.load none (.t 4)), none⟩,
    ⟨some 44, .q (.mov (.t 2)), none⟩,
    ⟨some 45, .e (.call 240 [.t 42, .t 43, .t 44]) [], none⟩,
    ⟨none, .e (.store 2 (.t 6) (.t 45)) [], none⟩] [6])
  (.ret)) (.seq (.ops [⟨some 47, .q (.bin .eql (.t 24) (.v (.int .i64 5))), none⟩,
    ⟨some 46, .e (.set (.t 47)) [], none⟩] [2, 3, 4, 6, 7, 8, 24, 46])
  (.cond (.t 46) (.seq (.ops [⟨some 48, .q (.mov (.t 8)), none⟩,
    ⟨some 49, .e (.callv (.t 48) [.v (.int .i64 0)]) [], none⟩,
    ⟨some 9, .e (.alloc 185 [.int .i64 0, .int .i64 0]) [], none⟩,
    ⟨none, .e (.store 2 (.t 9) (.t 49)) [], none⟩] [3, 6, 8, 9])
  (.seq (.ops [⟨some 51, .q (.load none (.t 3)), none⟩,
    ⟨some 52, .q (.load (some 2) (.t 9)), none⟩,
    ⟨some 53, .q (.mov (.t 8)), none⟩,
    ⟨some 54, .e (.callv (.t 53) [.v (.int .i64 1)]) [(52, .load (some 2) (.t 9)), (51, .load none (.t 3))], none⟩,
    ⟨some 55, .q (.field none 0 (.t 54)), none⟩,
    ⟨some 56, .e (.call 241 [.t 51, .t 52, .t 55]) [], none⟩,
    ⟨some 50, .q (.mov (.t 56)), none⟩,
    ⟨some 57, .q (.extr 0 (.t 50)), none⟩,
    ⟨some 58, .q (.extr 1 (.t 50)), none⟩,
    ⟨some 10, .e (.set (.t 57)) [], none⟩,
    ⟨some 11, .e (.set (.t 58)) [], none⟩] [6, 10, 11])
  (.seq (.ops [⟨some 59, .q (.mov (.t 10)), none⟩,
    ⟨some 60, .q (.nilc (.t 59)), none⟩,
    ⟨some 61, .q (.addr 0 (.t 60)), none⟩,
    ⟨some 62, .q (.load none (.t 61)), none⟩,
    ⟨some 63, .q (.mov (.t 11)), none⟩,
    ⟨some 64, .q (.ixSl 1 (.t 62) (.t 63)), none⟩,
    ⟨some 65, .q (.load none (.t 64)), none⟩,
    ⟨some 66, .e (.call 119 [.t 65]) [], none⟩,
    ⟨none, .e (.store 2 (.t 6) (.t 66)) [], none⟩] [6])
  (.ret)))) (.seq (.ops [⟨some 68, .q (.bin .eql (.t 24) (.v (.int .i64 6))), none⟩,
    ⟨some 67, .e (.set (.t 68)) [], none⟩] [2, 3, 4, 6, 7, 8, 24, 67])
  (.cond (.t 67) (.seq (.ops [⟨some 69, .q (.mov (.t 8)), none⟩,
    ⟨some 70, .e (.callv (.t 69) [.v (.int .i64 0)]) [], none⟩,
    ⟨some 71, .q (.field none 0 (.t 70)), none⟩,
    ⟨some 12, .e (.set (.t 71)) [], none⟩] [6, 7, 12])
  (.seq (.seq (.ops [⟨some 72, .q (.addr 3 (.t 7)), none⟩,
    ⟨some 73, .q (.load none (.t 72)), none⟩] [6, 12, 73])
  (.block 1 (.seq (.ops [⟨some 75, .q (.bin .eql (.t 73) (.v (.int .i64 1))), none⟩,
    ⟨some 74, .e (.set (.t 75)) [], none⟩] [6, 12, 73, 74])
  (.cond (.t 74) (.seq (.ops [⟨some 76, .q (.mov (.t 12)), none⟩,
    ⟨some 77, .q (.un .neg (.t 76)), none⟩,
    ⟨some 78, .e (.call 119 [.t 77]) [], none⟩,
    ⟨none, .e (.store 2 (.t 6) (.t 78)) [], none⟩] [6])
  (.ret)) (.seq (.ops [⟨some 80, .q (.bin .eql (.t 73) (.v (.int .i64 2))), none⟩,
    ⟨some 79, .e (.set (.t 80)) [], none⟩] [6, 12, 79])
  (.cond (.t 79) (.seq (.ops [⟨some 81, .q (.mov (.t 12)), none⟩,
    ⟨some 82, .q (.bin .eql (.t 81) (.v (.int .i64 0))), none⟩,
    ⟨some 83, .e (.call 242 [.t 82]) [], none⟩,
    ⟨none, .e (.store 2 (.t 6) (.t 83)) [], none⟩] [6])
  (.ret)) (.skip)))))))
  (.seq (.ops [⟨some 84, .q (.mov (.t 12)), none⟩,
    ⟨some 85, .q (.un .xor (.t 84)), none⟩,
    ⟨some 86, .e (.call 119 [.t 85]) [], none⟩,
    ⟨none, .e (.store 2 (.t 6) (.t 86)) [], none⟩] [6])
  (.ret)))) (.seq (.ops [⟨some 88, .q (.bin .eql (.t 24) (.v (.int .i64 7))), none⟩,
    ⟨some 87, .e (.set (.t 88)) [], none⟩] [2, 3, 4, 6, 7, 8, 87])
  (.cond (.t 87) (.seq (.ops [⟨some 89, .q (.load none (.t 3)), none⟩,
    ⟨some 90, .q (.load (some 6) (.t 7)), none⟩,
    ⟨some 91, .q (.mov (.t 8)), none⟩,
    ⟨some 92, .e (.call 243 [.t 89, .t 90, .t 91]) [], none⟩,
    ⟨none, .e (.store 2 (.t 6) (.t 92)) [], none⟩] [6])
  (.ret)) (.skip)))))))))))))))
  (.seq (.ops [⟨some 93, .q (.load none (.t 3)), none⟩,
    ⟨some 94, .q (.load none (.t 4)), none⟩,
    ⟨some 95, .q (.mov (.t 2)), none⟩,
    ⟨some 96, .q (.load (some 6) (.t 7)), none⟩,
    ⟨some 97, .e (.call 244 [.t 93, .t 94, .t 95, .t 96]) [], none⟩,
    ⟨none, .e (.store 2 (.t 6) (.t 97)) [], none⟩] [6])
  (.ret)))))), [.cell 6 (some 2)]⟩
/-- '(*binnacle/mean.run).set' -/
def i202 : IFunc := ⟨.seq (.ops [⟨some 7, .e (.box 185 (.t 3)) [], none⟩] [0, 1, 2, 7])
  (.seq (.seq (.ops [⟨some 9, .q (.mov (.t 0)), none⟩,
    ⟨some 10, .q (.nilc (.t 9)), none⟩,
    ⟨some 11, .q (.addr 1 (.t 10)), none⟩,
    ⟨some 12, .q (.addr 0 (.t 11)), none⟩,
    ⟨some 13, .q (.load none (.t 12)), none⟩,
    ⟨some 14, .q (.mov (.t 2)), none⟩,
    ⟨some 15, .q (.ixSl 5 (.t 13) (.t 14)), none⟩,
    ⟨some 16, .q (.load (some 5) (.t 15)), none⟩,
    ⟨some 8, .e (.alloc 49 [.int .i64 0, .int .i64 0, .int .i64 0, .int .i64 0, .str []]) [], none⟩,
    ⟨none, .e (.store 5 (.t 8) (.t 16)) [], none⟩] [0, 1, 2, 7, 8])
  (.seq (.ops [⟨some 17, .q (.addr 0 (.t 8)), none⟩,
    ⟨some 18, .q (.load none (.t 17)), none⟩,
    ⟨some 19, .q (.bin .eql (.t 18) (.v (.int .i64 4))), none⟩] [0, 1, 2, 7, 8, 19])
  (.cond (.t 19) (.seq (.ops [⟨some 20, .q (.mov (.t 1)), none⟩,
    ⟨some 21, .q (.addr 2 (.t 8)), none⟩,
    ⟨some 22, .q (.load none (.t 21)), none⟩,
    ⟨some 23, .q (.load (some 2) (.t 7)), none⟩,
    ⟨some 24, .q (.nilc (.t 20)), none⟩,
    ⟨some 25, .q (.addr 0 (.t 24)), none⟩,
    ⟨some 26, .q (.ixArr 2 24 (.t 25) (.t 22)), none⟩,
    ⟨none, .e (.store 2 (.t 26) (.t 23)) [], none⟩] [])
  (.ret)) (.skip))))
  (.ops [⟨some 27, .q (.mov (.t 0)), none⟩,
    ⟨some 28, .q (.nilc (.t 27)), none⟩,
    ⟨some 29, .q (.addr 10 (.t 28)), none⟩,
    ⟨some 30, .q (.load none (.t 29)), none⟩,
    ⟨some 31, .q (.mov (.t 2)), none⟩,
    ⟨some 32, .q (.load (some 2) (.t 7)), none⟩,
    ⟨none, .e (.mapupd .int (.t 30) (.t 31) (.t 32)) [], none⟩] [])), []⟩
/-- '(*binnacle/mean.run).sets' -/
def i203 : IFunc := ⟨.seq (.ops [⟨some 5, .e (.box 47 (.t 2)) [], none⟩] [0, 1, 5])
  (.seq (.ops [⟨some 12, .q (.mov (.t 0)), none⟩,
    ⟨some 13, .q (.nilc (.t 12)), none⟩,
    ⟨some 14, .q (.addr 0 (.t 13)), none⟩,
    ⟨some 15, .q (.load none (.t 14)), none⟩,
    ⟨some 16, .q (.addr 5 (.t 5)), none⟩,
    ⟨some 17, .q (.load none (.t 16)), none⟩,
    ⟨some 18, .q (.ixSl 1 (.t 17) (.v (.int .i64 0))), none⟩,
    ⟨some 19, .q (.load none (.t 18)), none⟩,
    ⟨some 20, .q (.ixSl 6 (.t 15) (.t 19)), none⟩,
    ⟨some 21, .q (.load (some 6) (.t 20)), none⟩,
    ⟨some 6, .e (.alloc 47 [.int .i64 0, .int .i64 0, .str [], .int .i64 0, .int .i64 0, .nilslice]) [], none⟩,
    ⟨none, .e (.store 6 (.t 6) (.t 21)) [], none⟩] [0, 1, 5, 6])
  (.seq (.seq (.ops [⟨some 22, .q (.addr 0 (.t 6)), none⟩,
    ⟨some 23, .q (.load none (.t 22)), none⟩,
    ⟨some 24, .q (.bin .eql (.t 23) (.v (.int .i64 3))), none⟩] [0, 1, 5, 6, 24])
  (.cond (.t 24) (.seq (.ops [⟨some 25, .q (.mov (.t 0)), none⟩,
    ⟨some 26, .q (.mov (.t 1)), none⟩,
    ⟨some 27, .q (.mov (.t 0)), none⟩,
    ⟨some 28, .q (.nilc (.t 27)), none⟩,
    ⟨some 29, .q (.addr 1 (.t 28)), none⟩,
    ⟨some 30, .q (.addr 1 (.t 29)), none⟩,
    ⟨some 31, .q (.load none (.t 30)), none⟩,
    ⟨some 32, .q (.addr 5 (.t 5)), none⟩,
    ⟨some 33, .q (.load none (.t 32)), none⟩,
    ⟨some 34, .q (.ixSl 1 (.t 33) (.v (.int .i64 0))), none⟩,
    ⟨some 35, .q (.load none (.t 34)), none⟩,
    ⟨some 36, .q (.ixSl 1 (.t 31) (.t 35)), none⟩,
    ⟨some 37, .q (.load none (.t 36)), none⟩,
    ⟨some 38, .q (.mov (.t 0)), none⟩,
    ⟨some 39, .q (.mov (.t 1)), none⟩,
    ⟨some 40, .q (.addr 5 (.t 5)), none⟩,
    ⟨some 41, .q (.load none (.t 40)), none⟩,
    ⟨some 42, .q (.ixSl 1 (.t 41) (.v (.int .i64 1))), none⟩,
    ⟨some 43, .q (.load none (.t 42)), none⟩,
    ⟨some 44, .e (.call 201 [.t 38, .t 39, .t 43]) [(37, .load none (.t 36)), (35, .load none (.t 34)), (33, .load none (.t 32)), (31, .load none (.t 30))], none⟩,
    ⟨some 45, .e (.call 202 [.t 25, .t 26, .t 37, .t 44]) [], none⟩] [])
  (.ret)) (.skip)))
  (.seq (.ops [⟨some 46, .q (.mov (.t 0)), none⟩,
    ⟨some 47, .q (.mov (.t 1)), none⟩,
    ⟨some 48, .q (.addr 5 (.t 6)), none⟩,
    ⟨some 49, .q (.load none (.t 48)), none⟩,
    ⟨some 50, .q (.ixSl 1 (.t 49) (.v (.int .i64 0))), none⟩,
    ⟨some 51, .q (.load none (.t 50)), none⟩,
    ⟨some 52, .e (.call 201 [.t 46, .t 47, .t 51]) [], none⟩,
    ⟨some 7, .e (.alloc 185 [.int .i64 0, .int .i64 0]) [], none⟩,
    ⟨none, .e (.store 2 (.t 7) (.t 52)) [], none⟩] [0, 1, 5, 6, 7])
  (.seq (.ops [⟨some 53, .q (.mov (.t 0)), none⟩,
    ⟨some 54, .q (.mov (.t 1)), none⟩,
    ⟨some 55, .q (.addr 5 (.t 6)), none⟩,
    ⟨some 56, .q (.load none (.t 55)), none⟩,
    ⟨some 57, .q (.ixSl 1 (.t 56) (.v (.int .i64 1))), none⟩,
    ⟨some 58, .q (.load none (.t 57)), none⟩,
    ⟨some 59, .e (.call 201 [.t 53, .t 54, .t 58]) [], none⟩,
    ⟨some 60, .q (.field none 0 (.t 59)), none⟩,
    ⟨some 8, .e (.set (.t 60)) [], none⟩] [0, 1, 5, 7, 8])
  (.seq (.ops [⟨some 61, .q (.mov (.t 0)), none⟩,
    ⟨some 62, .q (.mov (.t 1)), none⟩,
    ⟨some 63, .q (.addr 5 (.t 5)), none⟩,
    ⟨some 64, .q (.load none (.t 63)), none⟩,
    ⟨some 65, .q (.ixSl 1 (.t 64) (.v (.int .i64 1))), none⟩,
    ⟨some 66, .q (.load none (.t 65)), none⟩,
    ⟨some 67, .e (.call 201 [.t 61, .t 62, .t 66]) [], none⟩,
    ⟨some 68, .q (.field none 0 (.t 67)), none⟩,
    ⟨some 9, .e (.set (.t 68)) [], none⟩] [0, 7, 8, 9])
  (.seq (.ops [⟨some 70, .q (.mov (.t 0)), none⟩,
    ⟨some 71, .q (.load (some 2) (.t 7)), none⟩,
    ⟨some 72, .q (.mov (.t 8)), none⟩,
    ⟨some 73, .e (.call 241 [.t 70, .t 71, .t 72]) [], none⟩,
    ⟨some 69, .q (.mov (.t 73)), none⟩,
    ⟨some 74, .q (.extr 0 (.t 69)), none⟩,
    ⟨some 75, .q (.extr 1 (.t 69)), none⟩,
    ⟨some 10, .e (.set (.t 74)) [], none⟩,
    ⟨some 11, .e (.set (.t 75)) [], none⟩] [9, 10, 11])
  (.seq (.seq (.ops [⟨some 76, .q (.mov (.t 10)), none⟩,
    ⟨some 77, .q (.nilc (.t 76)), none⟩,
    ⟨some 78, .q (.addr 2 (.t 77)), none⟩,
    ⟨some 79, .q (.load none (.t 78)), none⟩] [9, 10, 11, 79])
  (.cond (.t 79) (.ops [⟨some 80, .q (.build [.int .i64 0, .int .i64 0] [(0, 1, .v (.int .i64 4))]), none⟩,
    ⟨some 81, .q (.iface 127 (.t 80)), none⟩,
    ⟨none, .e (.panic (.t 81)) [], none⟩] [9, 10, 11]) (.skip)))
  (.seq (.seq (.ops [⟨some 82, .q (.mov (.t 10)), none⟩,
    ⟨some 83, .q (.nilc (.t 82)), none⟩,
    ⟨some 84, .q (.addr 1 (.t 83)), none⟩,
    ⟨some 85, .q (.load none (.t 84)), none⟩] [9, 10, 11, 85])
  (.cond (.t 85) (.ops [⟨some 86, .q (.mov (.t 9)), none⟩,
    ⟨some 87, .q (.bin .and (.t 86) (.v (.int .i64 255))), none⟩,
    ⟨some 9, .e (.set (.t 87)) [], none⟩] [9, 10, 11]) (.skip)))
  (.ops [⟨some 88, .q (.mov (.t 10)), none⟩,
    ⟨some 89, .q (.nilc (.t 88)), none⟩,
    ⟨some 90, .q (.addr 0 (.t 89)), none⟩,
    ⟨some 91, .q (.load none (.t 90)), none⟩,
    ⟨some 92, .q (.mov (.t 11)), none⟩,
    ⟨some 93, .q (.mov (.t 9)), none⟩,
    ⟨some 94, .q (.ixSl 1 (.t 91) (.t 92)), none⟩,
    ⟨none, .e (.store 1 (.t 94) (.t 93)) [], none⟩] []))))))))), []⟩
/-- '(*binnacle/mean.run).loops' -/
def i204 : IFunc := ⟨.seq (.ops [⟨some 5, .e (.box 47 (.t 2)) [], none⟩,
    ⟨some 6, .e (.set (.v (.int .i64 0))) [], none⟩] [0, 1, 5])
  (.seq (.skip)
  (.seq (.block 0 (.loop [0, 1, 5] (.seq (.seq (.ops [⟨some 7, .q (.mov (.t 0)), none⟩,
    ⟨some 8, .q (.mov (.t 1)), none⟩,
    ⟨some 9, .q (.addr 5 (.t 5)), none⟩,
    ⟨some 10, .q (.load none (.t 9)), none⟩,
    ⟨some 11, .q (.ixSl 1 (.t 10) (.v (.int .i64 0))), none⟩,
    ⟨some 12, .q (.load none (.t 11)), none⟩,
    ⟨some 13, .e (.call 201 [.t 7, .t 8, .t 12]) [], none⟩,
    ⟨some 14, .q (.field none 0 (.t 13)), none⟩,
    ⟨some 15, .q (.bin .neq (.t 14) (.v (.int .i64 0))), none⟩] [0, 1, 5, 15])
  (.cond (.t 15) (.skip) (.exit 0)))
  (.block 1 (.seq (.ops [⟨some 16, .q (.mov (.t 0)), none⟩,
    ⟨some 17, .q (.mov (.t 1)), none⟩,
    ⟨some 18, .q (.addr 5 (.t 5)), none⟩,
    ⟨some 19, .q (.load none (.t 18)), none⟩,
    ⟨some 20, .q (.ixSl 1 (.t 19) (.v (.int .i64 1))), none⟩,
    ⟨some 21, .q (.load none (.t 20)), none⟩,
    ⟨some 22, .e (.call 155 [.t 16, .t 17, .t 21]) [], none⟩] [0, 1, 5, 22])
  (.block 2 (.seq (.ops [⟨some 24, .q (.bin .eql (.t 22) (.v (.int .i64 1))), none⟩,
    ⟨some 23, .e (.set (.t 24)) [], none⟩] [0, 1, 5, 22, 23])
  (.cond (.t 23) (.exit 0) (.seq (.ops [⟨some 26, .q (.bin .eql (.t 22) (.v (.int .i64 3))), none⟩,
    ⟨some 25, .e (.set (.t 26)) [], none⟩] [0, 1, 5, 25])
  (.cond (.t 25) (.seq (.ops [⟨some 6, .e (.set (.v (.int .i64 3))) [], none⟩] [6])
  (.ret)) (.skip)))))))))))
  (.seq (.ops [⟨some 6, .e (.set (.v (.int .i64 0))) [], none⟩] [6])
  (.ret)))), [.slot 6]⟩
/-- '(*binnacle/front.reader).down' -/
def i218 : IFunc := ⟨.seq (.seq (.ops [⟨some 2, .q (.mov (.t 0)), none⟩,
    ⟨some 3, .q (.nilc (.t 2)), none⟩,
    ⟨some 4, .q (.addr 7 (.t 3)), none⟩,
    ⟨some 5, .q (.load none (.t 4)), none⟩,
    ⟨some 6, .q (.bin .eql (.t 5) (.v (.int .i64 40))), none⟩] [0, 6])
  (.cond (.t 6) (.ops [⟨some 7, .q (.mov (.t 0)), none⟩,
    ⟨some 8, .q (.nilc (.t 7)), none⟩,
    ⟨some 9, .q (.addr 2 (.t 8)), none⟩,
    ⟨some 10, .q (.addr 1 (.t 9)), none⟩,
    ⟨some 11, .q (.load none (.t 10)), none⟩,
    ⟨some 12, .e (.call 66 [.v (.int .i64 15), .t 11]) [], none⟩] [0]) (.skip)))
  (.ops [⟨some 13, .q (.mov (.t 0)), none⟩,
    ⟨some 14, .q (.nilc (.t 13)), none⟩,
    ⟨some 15, .q (.addr 7 (.t 14)), none⟩,
    ⟨some 16, .q (.load none (.t 15)), none⟩,
    ⟨some 17, .q (.bin .add (.t 16) (.v (.int .i64 1))), none⟩,
    ⟨some 18, .q (.nilc (.t 13)), none⟩,
    ⟨some 19, .q (.addr 7 (.t 18)), none⟩,
    ⟨none, .e (.store 1 (.t 19) (.t 17)) [], none⟩] []), []⟩
/-- '(*binnacle/front.reader).up' -/
def i219 : IFunc := ⟨.ops [⟨some 2, .q (.mov (.t 0)), none⟩,
    ⟨some 3, .q (.nilc (.t 2)), none⟩,
    ⟨some 4, .q (.addr 7 (.t 3)), none⟩,
    ⟨some 5, .q (.load none (.t 4)), none⟩,
    ⟨some 6, .q (.bin .sub (.t 5) (.v (.int .i64 1))), none⟩,
    ⟨some 7, .q (.nilc (.t 2)), none⟩,
    ⟨some 8, .q (.addr 7 (.t 7)), none⟩,
    ⟨none, .e (.store 1 (.t 8) (.t 6)) [], none⟩] [], []⟩
/-- '(*binnacle/front.reader).condition' -/
def i220 : IFunc := ⟨.seq (.ops [⟨some 2, .e (.set (.v (.int .i64 0))) [], none⟩] [0])
  (.seq (.ops [⟨some 4, .q (.mov (.t 0)), none⟩,
    ⟨some 5, .e (.call 72 [.t 4, .v (.str [40])]) [], none⟩] [0])
  (.seq (.ops [⟨some 6, .q (.mov (.t 0)), none⟩,
    ⟨some 7, .e (.call 221 [.t 6, .v (.int .i64 1)]) [], none⟩,
    ⟨some 3, .e (.set (.t 7)) [], none⟩] [0, 3])
  (.seq (.ops [⟨some 8, .q (.mov (.t 0)), none⟩,
    ⟨some 9, .e (.call 72 [.t 8, .v (.str [41])]) [], none⟩] [3])
  (.seq (.ops [⟨some 10, .q (.mov (.t 3)), none⟩,
    ⟨some 2, .e (.set (.t 10)) [], none⟩] [2])
  (.ret))))), [.slot 2]⟩
/-- '(*binnacle/front.reader).expr' -/
def i221 : IFunc := ⟨.seq (.ops [⟨some 4, .e (.set (.v (.int .i64 0))) [], none⟩] [0, 1])
  (.seq (.ops [⟨some 8, .q (.mov (.t 0)), none⟩,
    ⟨some 9, .e (.call 249 [.t 8]) [], none⟩,
    ⟨some 5, .e (.set (.t 9)) [], none⟩] [0, 1, 5])
  (.block 0 (.loop [0, 1, 5] (.block 1 (.seq (.ops [⟨some 6, .e (.set (.v (.int .i64 0))) [], none⟩] [0, 1, 5, 6])
  (.seq (.seq (.ops [⟨some 10, .q (.mov (.t 0)), none⟩,
    ⟨some 11, .q (.nilc (.t 10)), none⟩,
    ⟨some 12, .q (.addr 2 (.t 11)), none⟩,
    ⟨some 13, .q (.addr 0 (.t 12)), none⟩,
    ⟨some 14, .q (.load none (.t 13)), none⟩,
    ⟨some 15, .q (.bin .eql (.t 14) (.v (.int .i64 5))), none⟩] [0, 1, 5, 6, 15])
  (.cond (.t 15) (.ops [⟨some 16, .q (.mov (.t 0)), none⟩,
    ⟨some 17, .q (.nilc (.t 16)), none⟩,
    ⟨some 18, .q (.addr 2 (.t 17)), none⟩,
    ⟨some 19, .q (.addr 2 (.t 18)), none⟩,
    ⟨some 20, .q (.load none (.t 19)), none⟩,
    ⟨some 21, .e (.call 250 [.t 20]) [], none⟩,
    ⟨some 6, .e (.set (.t 21)) [], none⟩] [0, 1, 5, 6]) (.skip)))
  (.seq (.seq (.ops [⟨some 22, .q (.mov (.t 6)), none⟩,
    ⟨some 23, .q (.bin .eql (.t 22) (.v (.int .i64 0))), none⟩,
    ⟨some 24, .q (.mov (.t 23)), none⟩,
    ⟨some 25, .q (.mov (.t 6)), some (24, false)⟩,
    ⟨some 26, .e (.call 188 [.t 25]) [], some (24, false)⟩,
    ⟨some 27, .q (.mov (.t 1)), some (24, false)⟩,
    ⟨some 28, .q (.bin .lss (.t 26) (.t 27)), some (24, false)⟩,
    ⟨some 29, .q (.pick (.t 24) (.v (.bool true)) (.t 28)), none⟩] [0, 1, 5, 6, 29])
  (.cond (.t 29) (.seq (.ops [⟨some 30, .q (.mov (.t 5)), none⟩,
    ⟨some 4, .e (.set (.t 30)) [], none⟩] [4])
  (.ret)) (.skip)))
  (.seq (.ops [⟨some 31, .q (.mov (.t 0)), none⟩,
    ⟨some 32, .e (.call 131 [.t 31]) [], none⟩] [0, 1, 5, 6])
  (.seq (.ops [⟨some 33, .q (.mov (.t 0)), none⟩,
    ⟨some 34, .q (.mov (.t 6)), none⟩,
    ⟨some 35, .e (.call 188 [.t 34]) [], none⟩,
    ⟨some 36, .q (.bin .add (.t 35) (.v (.int .i64 1))), none⟩,
    ⟨some 37, .e (.call 221 [.t 33, .t 36]) [], none⟩,
    ⟨some 7, .e (.set (.t 37)) [], none⟩] [0, 1, 5, 6, 7])
  (.ops [⟨some 38, .q (.mov (.t 0)), none⟩,
    ⟨some 39, .q (.mov (.t 0)), none⟩,
    ⟨some 40, .q (.nilc (.t 39)), none⟩,
    ⟨some 41, .q (.addr 6 (.t 40)), none⟩,
    ⟨some 42, .q (.load none (.t 41)), none⟩,
    ⟨some 43, .q (.mov (.t 5)), none⟩,
    ⟨some 44, .q (.ixSl 6 (.t 42) (.t 43)), none⟩,
    ⟨some 45, .q (.addr 1 (.t 44)), none⟩,
    ⟨some 46, .q (.load none (.t 45)), none⟩,
    ⟨some 47, .q (.mov (.t 6)), none⟩,
    ⟨some 48, .q (.mov (.t 5)), none⟩,
    ⟨some 49, .q (.mov (.t 7)), none⟩,
    ⟨some 50, .e (.bslice 3 1 2 [.int .i64 0] [(0, 1, .t 48), (1, 1, .t 49)]) [], none⟩,
    ⟨some 51, .q (.build [.int .i64 0, .int .i64 0, .str [], .int .i64 0, .int .i64 0, .nilslice] [(0, 1, .v (.int .i64 7)), (1, 1, .t 46), (3, 1, .t 47), (5, 1, .t 50)]), none⟩,
    ⟨some 52, .e (.call 36 [.t 38, .t 51]) [], none⟩,
    ⟨some 5, .e (.set (.t 52)) [], none⟩] [0, 1, 5])))))))))), [.slot 4]⟩
/-- '(*binnacle/front.reader).plain' -/
def i222 : IFunc := ⟨.seq (.ops [⟨some 4, .e (.set (.v (.int .i64 0))) [], none⟩] [0, 1])
  (.seq (.ops [⟨some 8, .q (.mov (.t 0)), none⟩,
    ⟨some 9, .e (.call 221 [.t 8, .v (.int .i64 1)]) [], none⟩,
    ⟨some 5, .e (.set (.t 9)) [], none⟩] [0, 1, 5])
  (.seq (.seq (.ops [⟨some 10, .q (.mov (.t 0)), none⟩,
    ⟨some 11, .e (.call 74 [.t 10, .v (.str [61])]) [], none⟩] [0, 1, 5, 11])
  (.cond (.t 11) (.seq (.seq (.ops [⟨some 12, .q (.mov (.t 0)), none⟩,
    ⟨some 13, .q (.nilc (.t 12)), none⟩,
    ⟨some 14, .q (.addr 6 (.t 13)), none⟩,
    ⟨some 15, .q (.load none (.t 14)), none⟩,
    ⟨some 16, .q (.mov (.t 5)), none⟩,
    ⟨some 17, .q (.ixSl 6 (.t 15) (.t 16)), none⟩,
    ⟨some 18, .q (.addr 0 (.t 17)), none⟩,
    ⟨some 19, .q (.load none (.t 18)), none⟩,
    ⟨some 6, .e (.set (.t 19)) [], none⟩] [0, 5, 6])
  (.seq (.ops [⟨some 20, .q (.mov (.t 6)), none⟩,
    ⟨some 21, .q (.bin .neq (.t 20) (.v (.int .i64 3))), none⟩,
    ⟨some 22, .q (.mov (.t 21)), none⟩,
    ⟨some 23, .q (.mov (.t 6)), some (22, true)⟩,
    ⟨some 24, .q (.bin .neq (.t 23) (.v (.int .i64 5))), some (22, true)⟩,
    ⟨some 25, .q (.pick (.t 22) (.t 24) (.v (.bool false))), none⟩] [0, 5, 25])
  (.cond (.t 25) (.ops [⟨some 26, .q (.mov (.t 0)), none⟩,
    ⟨some 27, .q (.nilc (.t 26)), none⟩,
    ⟨some 28, .q (.addr 2 (.t 27)), none⟩,
    ⟨some 29, .q (.addr 1 (.t 28)), none⟩,
    ⟨some 30, .q (.load none (.t 29)), none⟩,
    ⟨some 31, .e (.call 66 [.v (.int .i64 13), .t 30]) [], none⟩] [0, 5]) (.skip))))
  (.seq (.ops [⟨some 32, .q (.mov (.t 0)), none⟩,
    ⟨some 33, .e (.call 131 [.t 32]) [], none⟩] [0, 5])
  (.seq (.ops [⟨some 34, .q (.mov (.t 0)), none⟩,
    ⟨some 35, .e (.call 221 [.t 34, .v (.int .i64 1)]) [], none⟩,
    ⟨some 7, .e (.set (.t 35)) [], none⟩] [0, 5, 7])
  (.seq (.ops [⟨some 36, .q (.mov (.t 0)), none⟩,
    ⟨some 37, .e (.call 72 [.t 36, .v (.str [59])]) [], none⟩] [0, 5, 7])
  (.seq (.ops [⟨some 38, .q (.mov (.t 0)), none⟩,
    ⟨some 39, .q (.mov (.t 0)), none⟩,
    ⟨some 40, .q (.nilc (.t 39)), none⟩,
    ⟨some 41, .q (.addr 6 (.t 40)), none⟩,
    ⟨some 42, .q (.load none (.t 41)), none⟩,
    ⟨some 43, .q (.mov (.t 5)), none⟩,
    ⟨some 44, .q (.ixSl 6 (.t 42) (.t 43)), none⟩,
    ⟨some 45, .q (.addr 1 (.t 44)), none⟩,
    ⟨some 46, .q (.load none (.t 45)), none⟩,
    ⟨some 47, .q (.mov (.t 5)), none⟩,
    ⟨some 48, .q (.mov (.t 7)), none⟩,
    ⟨some 49, .e (.bslice 3 1 2 [.int .i64 0] [(0, 1, .t 47), (1, 1, .t 48)]) [], none⟩,
    ⟨some 50, .q (.build [.int .i64 0, .int .i64 0, .str [], .int .i64 0, .int .i64 0, .nilslice] [(0, 1, .v (.int .i64 11)), (1, 1, .t 46), (5, 1, .t 49)]), none⟩,
    ⟨some 51, .e (.call 36 [.t 38, .t 50]) [], none⟩,
    ⟨some 4, .e (.set (.t 51)) [], none⟩] [4])
  (.ret)))))) (.skip)))
  (.seq (.ops [⟨some 52, .q (.mov (.t 0)), none⟩,
    ⟨some 53, .e (.call 72 [.t 52, .v (.str [59])]) [], none⟩] [0, 1, 5])
  (.seq (.ops [⟨some 54, .q (.mov (.t 0)), none⟩,
    ⟨some 55, .q (.mov (.t 1)), none⟩,
    ⟨some 56, .q (.mov (.t 5)), none⟩,
    ⟨some 57, .e (.bslice 3 1 1 [.int .i64 0] [(0, 1, .t 56)]) [], none⟩,
    ⟨some 58, .q (.build [.int .i64 0, .int .i64 0, .str [], .int .i64 0, .int .i64 0, .nilslice] [(0, 1, .v (.int .i64 10)), (1, 1, .t 55), (5, 1, .t 57)]), none⟩,
    ⟨some 59, .e (.call 36 [.t 54, .t 58]) [], none⟩,
    ⟨some 4, .e (.set (.t 59)) [], none⟩] [4])
  (.ret))))), [.slot 4]⟩
/-- '(*binnacle/binnacleref17.Reader).stmt' -/
def i234 : IFunc := ⟨.seq (.ops [⟨some 2, .e (.set (.v (.int .i64 0))) [], none⟩] [0])
  (.seq (.ops [⟨some 4, .q (.mov (.t 0)), none⟩,
    ⟨some 5, .e (.call 258 [.t 4]) [], none⟩] [0])
  (.seq (.ops [⟨some 3, .e (.set (.v (.int .i64 0))) [], none⟩] [0, 3])
  (.seq (.seq (.ops [⟨some 6, .q (.mov (.t 0)), none⟩,
    ⟨some 7, .q (.nilc (.t 6)), none⟩,
    ⟨some 8, .q (.addr 4 (.t 7)), none⟩,
    ⟨some 9, .q (.load none (.t 8)), none⟩,
    ⟨some 10, .q (.bin .eql (.t 9) (.v (.int .i64 0))), none⟩] [0, 3, 10])
  (.cond (.t 10) (.ops [⟨some 11, .q (.mov (.t 0)), none⟩,
    ⟨some 12, .e (.call 259 [.t 11]) [], none⟩,
    ⟨some 3, .e (.set (.t 12)) [], none⟩] [0, 3]) (.skip)))
  (.seq (.ops [⟨some 13, .q (.mov (.t 0)), none⟩,
    ⟨some 14, .q (.nilc (.t 13)), none⟩,
    ⟨some 15, .q (.addr 3 (.t 14)), none⟩,
    ⟨some 16, .q (.load none (.t 15)), none⟩,
    ⟨some 17, .q (.bin .sub (.t 16) (.v (.int .i64 1))), none⟩,
    ⟨some 18, .q (.nilc (.t 13)), none⟩,
    ⟨some 19, .q (.addr 3 (.t 18)), none⟩,
    ⟨none, .e (.store 1 (.t 19) (.t 17)) [], none⟩] [3])
  (.seq (.ops [⟨some 20, .q (.mov (.t 3)), none⟩,
    ⟨some 2, .e (.set (.t 20)) [], none⟩] [2])
  (.ret)))))), [.slot 2]⟩
/-- 'binnacle/binnacleref17.Level' -/
def i235 : IFunc := ⟨.seq (.ops [⟨some 2, .e (.set (.v (.int .i64 0))) [], none⟩] [0])
  (.seq (.ops [⟨some 4, .e (.bslice 3 1 22 [.int .i64 0] [(0, 1, .v (.int .i64 0)), (1, 1, .v (.int .i64 0)), (2, 1, .v (.int .i64 0)), (3, 1, .v (.int .i64 0)), (4, 1, .v (.int .i64 10)), (5, 1, .v (.int .i64 10)), (6, 1, .v (.int .i64 10)), (7, 1, .v (.int .i64 9)), (8, 1, .v (.int .i64 9)), (9, 1, .v (.int .i64 8)), (10, 1, .v (.int .i64 8)), (11, 1, .v (.int .i64 7)), (12, 1, .v (.int .i64 7)), (13, 1, .v (.int .i64 7)), (14, 1, .v (.int .i64 7)), (15, 1, .v (.int .i64 6)), (16, 1, .v (.int .i64 6)), (17, 1, .v (.int .i64 5)), (18, 1, .v (.int .i64 4)), (19, 1, .v (.int .i64 3)), (20, 1, .v (.int .i64 2)), (21, 1, .v (.int .i64 1))]) [], none⟩,
    ⟨some 3, .e (.set (.t 4)) [], none⟩] [0, 3])
  (.seq (.seq (.ops [⟨some 5, .q (.mov (.t 0)), none⟩,
    ⟨some 6, .q (.bin .lss (.t 5) (.v (.int .i64 0))), none⟩,
    ⟨some 7, .q (.mov (.t 6)), none⟩,
    ⟨some 8, .q (.mov (.t 0)), some (7, false)⟩,
    ⟨some 9, .q (.mov (.t 3)), some (7, false)⟩,
    ⟨some 10, .q (.len .slice (.t 9)), some (7, false)⟩,
    ⟨some 11, .q (.bin .geq (.t 8) (.t 10)), some (7, false)⟩,
    ⟨some 12, .q (.pick (.t 7) (.v (.bool true)) (.t 11)), none⟩] [0, 3, 12])
  (.cond (.t 12) (.seq (.ops [⟨some 2, .e (.set (.v (.int .i64 0))) [], none⟩] [2])
  (.ret)) (.skip)))
  (.seq (.ops [⟨some 13, .q (.mov (.t 3)), none⟩,
    ⟨some 14, .q (.mov (.t 0)), none⟩,
    ⟨some 15, .q (.ixSl 1 (.t 13) (.t 14)), none⟩,
    ⟨some 16, .q (.load none (.t 15)), none⟩,
    ⟨some 2, .e (.set (.t 16)) [], none⟩] [2])
  (.ret)))), [.slot 2]⟩
/-- '(*binnacle/mean.run).reckon$1' -/
def i239 : IFunc := ⟨.seq (.ops [⟨some 5, .e (.alloc 185 [.int .i64 0, .int .i64 0]) [], none⟩] [0, 1, 2, 3, 5])
  (.seq (.ops [⟨some 6, .q (.load none (.t 1)), none⟩,
    ⟨some 7, .q (.load none (.t 2)), none⟩,
    ⟨some 8, .q (.addr 5 (.t 3)), none⟩,
    ⟨some 9, .q (.load none (.t 8)), none⟩,
    ⟨some 10, .q (.mov (.t 0)), none⟩,
    ⟨some 11, .q (.ixSl 1 (.t 9) (.t 10)), none⟩,
    ⟨some 12, .q (.load none (.t 11)), none⟩,
    ⟨some 13, .e (.call 201 [.t 6, .t 7, .t 12]) [], none⟩,
    ⟨none, .e (.store 2 (.t 5) (.t 13)) [], none⟩] [5])
  (.ret)), [.cell 5 (some 2)]⟩
/-- '(*binnacle/mean.run).variable' -/
def i240 : IFunc := ⟨.seq (.ops [⟨some 6, .e (.alloc 185 [.int .i64 0, .int .i64 0]) [], none⟩] [0, 1, 2, 6])
  (.seq (.ops [⟨some 9, .q (.mov (.t 0)), none⟩,
    ⟨some 10, .q (.nilc (.t 9)), none⟩,
    ⟨some 11, .q (.addr 1 (.t 10)), none⟩,
    ⟨some 12, .q (.addr 1 (.t 11)), none⟩,
    ⟨some 13, .q (.load none (.t 12)), none⟩,
    ⟨some 14, .q (.mov (.t 2)), none⟩,
    ⟨some 15, .q (.ixSl 1 (.t 13) (.t 14)), none⟩,
    ⟨some 16, .q (.load none (.t 15)), none⟩,
    ⟨some 7, .e (.set (.t 16)) [], none⟩] [0, 1, 6, 7])
  (.seq (.seq (.ops [⟨some 17, .q (.mov (.t 0)), none⟩,
    ⟨some 18, .q (.nilc (.t 17)), none⟩,
    ⟨some 19, .q (.addr 1 (.t 18)), none⟩,
    ⟨some 20, .q (.addr 0 (.t 19)), none⟩,
    ⟨some 21, .q (.load none (.t 20)), none⟩,
    ⟨some 22, .q (.mov (.t 7)), none⟩,
    ⟨some 23, .q (.ixSl 5 (.t 21) (.t 22)), none⟩,
    ⟨some 24, .q (.load (some 5) (.t 23)), none⟩,
    ⟨some 8, .e (.alloc 49 [.int .i64 0, .int .i64 0, .int .i64 0, .int .i64 0, .str []]) [], none⟩,
    ⟨none, .e (.store 5 (.t 8) (.t 24)) [], none⟩] [0, 1, 6, 7, 8])
  (.seq (.ops [⟨some 25, .q (.addr 0 (.t 8)), none⟩,
    ⟨some 26, .q (.load none (.t 25)), none⟩] [0, 1, 6, 7, 8, 26])
  (.block 0 (.seq (.ops [⟨some 28, .q (.bin .eql (.t 26) (.v (.int .i64 4))), none⟩,
    ⟨some 27, .e (.set (.t 28)) [], none⟩] [0, 1, 6, 7, 8, 26, 27])
  (.cond (.t 27) (.seq (.ops [⟨some 29, .q (.mov (.t 1)), none⟩,
    ⟨some 30, .q (.addr 2 (.t 8)), none⟩,
    ⟨some 31, .q (.load none (.t 30)), none⟩,
    ⟨some 32, .q (.nilc (.t 29)), none⟩,
    ⟨some 33, .q (.addr 0 (.t 32)), none⟩,
    ⟨some 34, .q (.ixArr 2 24 (.t 33) (.t 31)), none⟩,
    ⟨some 35, .q (.load (some 2) (.t 34)), none⟩,
    ⟨none, .e (.store 2 (.t 6) (.t 35)) [], none⟩] [6])
  (.ret)) (.seq (.ops [⟨some 37, .q (.bin .eql (.t 26) (.v (.int .i64 2))), none⟩,
    ⟨some 36, .e (.set (.t 37)) [], none⟩] [0, 6, 7, 36])
  (.cond (.t 36) (.seq (.ops [⟨some 38, .q (.mov (.t 0)), none⟩,
    ⟨some 39, .q (.nilc (.t 38)), none⟩,
    ⟨some 40, .q (.addr 9 (.t 39)), none⟩,
    ⟨some 41, .q (.load none (.t 40)), none⟩,
    ⟨some 42, .q (.mov (.t 7)), none⟩,
    ⟨some 43, .q (.lookup .int (.int .i64 0) false (.t 41) (.t 42)), none⟩,
    ⟨some 44, .q (.build [.int .i64 0, .int .i64 0] [(0, 1, .v (.int .i64 0)), (1, 1, .t 43)]), none⟩,
    ⟨none, .e (.store 2 (.t 6) (.t 44)) [], none⟩] [6])
  (.ret)) (.skip))))))))
  (.seq (.ops [⟨some 45, .q (.mov (.t 0)), none⟩,
    ⟨some 46, .q (.nilc (.t 45)), none⟩,
    ⟨some 47, .q (.addr 10 (.t 46)), none⟩,
    ⟨some 48, .q (.load none (.t 47)), none⟩,
    ⟨some 49, .q (.mov (.t 7)), none⟩,
    ⟨some 50, .q (.lookup .int (.agg [.int .i64 0, .int .i64 0]) false (.t 48) (.t 49)), none⟩,
    ⟨none, .e (.store 2 (.t 6) (.t 50)) [], none⟩] [6])
  (.ret)))), [.cell 6 (some 2)]⟩
/-- '(*binnacle/mean.run).element' -/
def i241 : IFunc := ⟨.seq (.ops [⟨some 4, .e (.box 185 (.t 1)) [], none⟩,
    ⟨some 6, .e (.set (.v (.nilptr))) [], none⟩,
    ⟨some 7, .e (.set (.v (.int .i64 0))) [], none⟩] [0, 2, 4])
  (.seq (.ops [⟨some 9, .q (.addr 0 (.t 4)), none⟩,
    ⟨some 10, .q (.load none (.t 9)), none⟩,
    ⟨some 11, .q (.mov (.t 2)), none⟩,
    ⟨some 12, .q (.bin .add (.t 10) (.t 11)), none⟩,
    ⟨some 8, .e (.set (.t 12)) [], none⟩] [0, 4, 8])
  (.seq (.seq (.ops [⟨some 13, .q (.addr 1 (.t 4)), none⟩,
    ⟨some 14, .q (.load none (.t 13)), none⟩,
    ⟨some 15, .q (.bin .lss (.t 14) (.v (.int .i64 0))), none⟩,
    ⟨some 16, .q (.mov (.t 15)), none⟩,
    ⟨some 17, .q (.mov (.t 8)), some (16, false)⟩,
    ⟨some 18, .q (.bin .lss (.t 17) (.v (.int .i64 0))), some (16, false)⟩,
    ⟨some 19, .q (.pick (.t 16) (.v (.bool true)) (.t 18)), none⟩,
    ⟨some 20, .q (.mov (.t 19)), none⟩,
    ⟨some 21, .q (.mov (.t 8)), some (20, false)⟩,
    ⟨some 22, .q (.mov (.t 0)), some (20, false)⟩,
    ⟨some 23, .q (.nilc (.t 22)), some (20, false)⟩,
    ⟨some 24, .q (.addr 8 (.t 23)), some (20, false)⟩,
    ⟨some 25, .q (.load none (.t 24)), some (20, false)⟩,
    ⟨some 26, .q (.addr 1 (.t 4)), some (20, false)⟩,
    ⟨some 27, .q (.load none (.t 26)), some (20, false)⟩,
    ⟨some 28, .q (.ixSl 3 (.t 25) (.t 27)), some (20, false)⟩,
    ⟨some 29, .q (.addr 0 (.t 28)), some (20, false)⟩,
    ⟨some 30, .q (.load none (.t 29)), some (20, false)⟩,
    ⟨some 31, .q (.len .slice (.t 30)), some (20, false)⟩,
    ⟨some 32, .q (.bin .geq (.t 21) (.t 31)), some (20, false)⟩,
    ⟨some 33, .q (.pick (.t 20) (.v (.bool true)) (.t 32)), none⟩] [0, 4, 8, 33])
  (.cond (.t 33) (.ops [⟨some 34, .q (.build [.int .i64 0, .int .i64 0] [(0, 1, .v (.int .i64 4))]), none⟩,
    ⟨some 35, .q (.iface 127 (.t 34)), none⟩,
    ⟨none, .e (.panic (.t 35)) [], none⟩] [0, 4, 8]) (.skip)))
  (.seq (.ops [⟨some 36, .q (.mov (.t 0)), none⟩,
    ⟨some 37, .q (.nilc (.t 36)), none⟩,
    ⟨some 38, .q (.addr 8 (.t 37)), none⟩,
    ⟨some 39, .q (.load none (.t 38)), none⟩,
    ⟨some 40, .q (.addr 1 (.t 4)), none⟩,
    ⟨some 41, .q (.load none (.t 40)), none⟩,
    ⟨some 42, .q (.ixSl 3 (.t 39) (.t 41)), none⟩,
    ⟨some 43, .q (.mov (.t 8)), none⟩,
    ⟨some 6, .e (.set (.t 42)) [], none⟩,
    ⟨some 7, .e (.set (.t 43)) [], none⟩] [6, 7])
  (.ret)))), [.slot 6, .slot 7]⟩
/-- 'binnacle/mean.truth' -/
def i242 : IFunc := ⟨.seq (.ops [⟨some 2, .e (.alloc 185 [.int .i64 0, .int .i64 0]) [], none⟩] [0, 2])
  (.seq (.seq (.ops [⟨some 3, .q (.mov (.t 0)), none⟩] [2, 3])
  (.cond (.t 3) (.seq (.ops [⟨some 4, .e (.call 119 [.v (.int .i64 1)]) [], none⟩,
    ⟨none, .e (.store 2 (.t 2) (.t 4)) [], none⟩] [2])
  (.ret)) (.skip)))
  (.seq (.ops [⟨some 5, .e (.call 119 [.v (.int .i64 0)]) [], none⟩,
    ⟨none, .e (.store 2 (.t 2) (.t 5)) [], none⟩] [2])
  (.ret))), [.cell 2 (some 2)]⟩
/-- '(*binnacle/mean.run).binary' -/
def i243 : IFunc := ⟨.seq (.ops [⟨some 4, .e (.box 47 (.t 1)) [], none⟩,
    ⟨some 6, .e (.alloc 185 [.int .i64 0, .int .i64 0]) [], none⟩] [2, 4, 6])
  (.seq (.ops [⟨some 12, .q (.mov (.t 2)), none⟩,
    ⟨some 13, .e (.callv (.t 12) [.v (.int .i64 0)]) [], none⟩,
    ⟨some 7, .e (.alloc 185 [.int .i64 0, .int .i64 0]) [], none⟩,
    ⟨none, .e (.store 2 (.t 7) (.t 13)) [], none⟩] [2, 4, 6, 7])
  (.seq (.block 0 (.seq (.seq (.ops [⟨some 15, .q (.addr 3 (.t 4)), none⟩,
    ⟨some 16, .q (.load none (.t 15)), none⟩,
    ⟨some 17, .q (.bin .eql (.t 16) (.v (.int .i64 20))), none⟩,
    ⟨some 18, .q (.mov (.t 17)), none⟩,
    ⟨some 19, .q (.addr 0 (.t 7)), some (18, true)⟩,
    ⟨some 20, .q (.load none (.t 19)), some (18, true)⟩,
    ⟨some 21, .q (.bin .eql (.t 20) (.v (.int .i64 0))), some (18, true)⟩,
    ⟨some 22, .q (.pick (.t 18) (.t 21) (.v (.bool false))), none⟩,
    ⟨some 14, .e (.set (.t 22)) [], none⟩] [2, 4, 6, 7, 14])
  (.cond (.t 14) (.skip) (.ops [⟨some 23, .q (.addr 3 (.t 4)), none⟩,
    ⟨some 24, .q (.load none (.t 23)), none⟩,
    ⟨some 25, .q (.bin .eql (.t 24) (.v (.int .i64 21))), none⟩,
    ⟨some 26, .q (.mov (.t 25)), none⟩,
    ⟨some 27, .q (.addr 0 (.t 7)), some (26, true)⟩,
    ⟨some 28, .q (.load none (.t 27)), some (26, true)⟩,
    ⟨some 29, .q (.bin .neq (.t 28) (.v (.int .i64 0))), some (26, true)⟩,
    ⟨some 30, .q (.pick (.t 26) (.t 29) (.v (.bool false))), none⟩,
    ⟨some 14, .e (.set (.t 30)) [], none⟩] [2, 4, 6, 7, 14])))
  (.cond (.t 14) (.seq (.ops [⟨some 31, .q (.addr 3 (.t 4)), none⟩,
    ⟨some 32, .q (.load none (.t 31)), none⟩,
    ⟨some 33, .q (.bin .eql (.t 32) (.v (.int .i64 21))), none⟩,
    ⟨some 34, .e (.call 242 [.t 33]) [], none⟩,
    ⟨none, .e (.store 2 (.t 6) (.t 34)) [], none⟩] [6])
  (.ret)) (.skip))))
  (.seq (.ops [⟨some 35, .q (.mov (.t 2)), none⟩,
    ⟨some 36, .e (.callv (.t 35) [.v (.int .i64 1)]) [], none⟩,
    ⟨some 8, .e (.alloc 185 [.int .i64 0, .int .i64 0]) [], none⟩,
    ⟨none, .e (.store 2 (.t 8) (.t 36)) [], none⟩] [4, 6, 7, 8])
  (.seq (.seq (.ops [⟨some 37, .q (.addr 3 (.t 4)), none⟩,
    ⟨some 38, .q (.load none (.t 37)), none⟩] [4, 6, 7, 8, 38])
  (.block 1 (.seq (.seq (.ops [⟨some 40, .q (.bin .eql (.t 38) (.v (.int .i64 20))), none⟩,
    ⟨some 39, .e (.set (.t 40)) [], none⟩] [4, 6, 7, 8, 38, 39])
  (.cond (.t 39) (.skip) (.seq (.ops [⟨some 41, .q (.bin .eql (.t 38) (.v (.int .i64 21))), none⟩,
    ⟨some 39, .e (.set (.t 41)) [], none⟩] [4, 6, 7, 8, 38, 39])
  (.cond (.t 39) (.skip) (.ops [⟨some 42, .q (.bin .eql (.t 38) (.v (.int .i64 16))), none⟩,
    ⟨some 39, .e (.set (.t 42)) [], none⟩] [4, 6, 7, 8, 38, 39])))))
  (.cond (.t 39) (.seq (.seq (.ops [⟨some 43, .q (.addr 3 (.t 4)), none⟩,
    ⟨some 44, .q (.load none (.t 43)), none⟩,
    ⟨some 45, .q (.bin .eql (.t 44) (.v (.int .i64 16))), none⟩] [6, 7, 8, 45])
  (.cond (.t 45) (.seq (.ops [⟨some 46, .q (.addr 0 (.t 7)), none⟩,
    ⟨some 47, .q (.load none (.t 46)), none⟩,
    ⟨some 48, .q (.addr 0 (.t 8)), none⟩,
    ⟨some 49, .q (.load none (.t 48)), none⟩,
    ⟨some 50, .q (.bin .neq (.t 47) (.t 49)), none⟩,
    ⟨some 51, .e (.call 242 [.t 50]) [], none⟩,
    ⟨none, .e (.store 2 (.t 6) (.t 51)) [], none⟩] [6])
  (.ret)) (.skip)))
  (.seq (.ops [⟨some 52, .q (.addr 0 (.t 8)), none⟩,
    ⟨some 53, .q (.load none (.t 52)), none⟩,
    ⟨some 54, .q (.bin .neq (.t 53) (.v (.int .i64 0))), none⟩,
    ⟨some 55, .e (.call 242 [.t 54]) [], none⟩,
    ⟨none, .e (.store 2 (.t 6) (.t 55)) [], none⟩] [6])
  (.ret))) (.seq (.ops [⟨some 57, .q (.bin .eql (.t 38) (.v (.int .i64 7))), none⟩,
    ⟨some 56, .e (.set (.t 57)) [], none⟩] [4, 6, 7, 8, 38, 56])
  (.cond (.t 56) (.seq (.ops [⟨some 58, .q (.addr 0 (.t 7)), none⟩,
    ⟨some 59, .q (.load none (.t 58)), none⟩,
    ⟨some 60, .q (.addr 0 (.t 8)), none⟩,
    ⟨some 61, .q (.load none (.t 60)), none⟩,
    ⟨some 62, .q (.bin .add (.t 59) (.t 61)), none⟩,
    ⟨some 63, .q (.addr 1 (.t 7)), none⟩,
    ⟨some 64, .q (.load none (.t 63)), none⟩,
    ⟨some 65, .q (.build [.int .i64 0, .int .i64 0] [(0, 1, .t 62), (1, 1, .t 64)]), none⟩,
    ⟨none, .e (.store 2 (.t 6) (.t 65)) [], none⟩] [6])
  (.ret)) (.seq (.ops [⟨some 67, .q (.bin .eql (.t 38) (.v (.int .i64 15))), none⟩,
    ⟨some 66, .e (.set (.t 67)) [], none⟩] [4, 6, 7, 8, 38, 66])
  (.cond (.t 66) (.seq (.ops [⟨some 68, .q (.addr 0 (.t 7)), none⟩,
    ⟨some 69, .q (.load none (.t 68)), none⟩,
    ⟨some 70, .q (.addr 0 (.t 8)), none⟩,
    ⟨some 71, .q (.load none (.t 70)), none⟩,
    ⟨some 72, .q (.bin .eql (.t 69) (.t 71)), none⟩,
    ⟨some 73, .e (.call 242 [.t 72]) [], none⟩,
    ⟨none, .e (.store 2 (.t 6) (.t 73)) [], none⟩] [6])
  (.ret)) (.seq (.ops [⟨some 75, .q (.bin .eql (.t 38) (.v (.int .i64 11))), none⟩,
    ⟨some 74, .e (.set (.t 75)) [], none⟩] [4, 6, 7, 8, 38, 74])
  (.cond (.t 74) (.seq (.ops [⟨some 76, .q (.addr 0 (.t 7)), none⟩,
    ⟨some 77, .q (.load none (.t 76)), none⟩,
    ⟨some 78, .q (.addr 0 (.t 8)), none⟩,
    ⟨some 79, .q (.load none (.t 78)), none⟩,
    ⟨some 80, .q (.bin .lss (.t 77) (.t 79)), none⟩,
    ⟨some 81, .e (.call 242 [.t 80]) [], none⟩,
    ⟨none, .e (.store 2 (.t 6) (.t 81)) [], none⟩] [6])
  (.ret)) (.seq (.ops [⟨some 83, .q (.bin .eql (.t 38) (.v (.int .i64 12))), none⟩,
    ⟨some 82, .e (.set (.t 83)) [], none⟩] [4, 6, 7, 8, 38, 82])
  (.cond (.t 82) (.seq (.ops [⟨some 84, .q (.addr 0 (.t 7)), none⟩,
    ⟨some 85, .q (.load none (.t 84)), none⟩,
    ⟨some 86, .q (.addr 0 (.t 8)), none⟩,
    ⟨some 87, .q (.load none (.t 86)), none⟩,
    ⟨some 88, .q (.bin .leq (.t 85) (.t 87)), none⟩,
    ⟨some 89, .e (.call 242 [.t 88]) [], none⟩,
    ⟨none, .e (.store 2 (.t 6) (.t 89)) [], none⟩] [6])
  (.ret)) (.seq (.ops [⟨some 91, .q (.bin .eql (.t 38) (.v (.int .i64 13))), none⟩,
    ⟨some 90, .e (.set (.t 91)) [], none⟩] [4, 6, 7, 8, 38, 90])
  (.cond (.t 90) (.seq (.ops [⟨some 92, .q (.addr 0 (.t 7)), none⟩,
    ⟨some 93, .q (.load none (.t 92)), none⟩,
    ⟨some 94, .q (.addr 0 (.t 8)), none⟩,
    ⟨some 95, .q (.load none (.t 94)), none⟩,
    ⟨some 96, .q (.bin .gtr (.t 93) (.t 95)), none⟩,
    ⟨some 97, .e (.call 242 [.t 96]) [], none⟩,
    ⟨none, .e (.store 2 (.t 6) (.t 97)) [], none⟩] [6])
  (.ret)) (.seq (.ops [⟨some 99, .q (.bin .eql (.t 38) (.v (.int .i64 14))), none⟩,
    ⟨some 98, .e (.set (.t 99)) [], none⟩] [4, 6, 7, 8, 98])
  (.cond (.t 98) (.seq (.ops [⟨some 100, .q (.addr 0 (.t 7)), none⟩,
    ⟨some 101, .q (.load none (.t 100)), none⟩,
    ⟨some 102, .q (.addr 0 (.t 8)), none⟩,
    ⟨some 103, .q (.load none (.t 102)), none⟩,
    ⟨some 104, .q (.bin .geq (.t 101) (.t 103)), none⟩,
    ⟨some 105, .e (.call 242 [.t 104]) [], none⟩,
    ⟨none, .e (.store 2 (.t 6) (.t 105)) [], none⟩] [6])
  (.ret)) (.skip)))))))))))))))))
  (.seq (.ops [⟨some 106, .e (.mkmap) [], none⟩,
    ⟨none, .e (.mapupd .int (.t 106) (.v (.int .i64 4)) (.v (.int .i64 50))) [], none⟩,
    ⟨none, .e (.mapupd .int (.t 106) (.v (.int .i64 5)) (.v (.int .i64 54))) [], none⟩,
    ⟨none, .e (.mapupd .int (.t 106) (.v (.int .i64 6)) (.v (.int .i64 56))) [], none⟩,
    ⟨none, .e (.mapupd .int (.t 106) (.v (.int .i64 8)) (.v (.int .i64 36))) [], none⟩,
    ⟨none, .e (.mapupd .int (.t 106) (.v (.int .i64 9)) (.v (.int .i64 37))) [], none⟩,
    ⟨none, .e (.mapupd .int (.t 106) (.v (.int .i64 10)) (.v (.int .i64 42))) [], none⟩,
    ⟨none, .e (.mapupd .int (.t 106) (.v (.int .i64 18)) (.v (.int .i64 40))) [], none⟩,
    ⟨none, .e (.mapupd .int (.t 106) (.v (.int .i64 17)) (.v (.int .i64 44))) [], none⟩,
    ⟨none, .e (.mapupd .int (.t 106) (.v (.int .i64 19)) (.v (.int .i64 43))) [], none⟩,
    ⟨some 107, .q (.mov (.t 106)), none⟩,
    ⟨some 108, .q (.addr 3 (.t 4)), none⟩,
    ⟨some 109, .q (.load none (.t 108)), none⟩,
    ⟨some 110, .q (.lookup .int (.int .i64 0) false (.t 107) (.t 109)), none⟩,
    ⟨some 9, .e (.set (.t 110)) [], none⟩] [6, 7, 8, 9])
  (.seq (.ops [⟨some 112, .q (.mov (.t 9)), none⟩,
    ⟨some 113, .q (.addr 0 (.t 7)), none⟩,
    ⟨some 114, .q (.load none (.t 113)), none⟩,
    ⟨some 115, .q (.conv .u64 (.t 114)), none⟩,
    ⟨some 116, .q (.addr 0 (.t 8)), none⟩,
    ⟨some 117, .q (.load none (.t 116)), none⟩,
    ⟨some 118, .q (.conv .u64 (.t 117)), none⟩,
    ⟨some 119, .e (.call 261 [.t 112, .t 115, .t 118]) [], none⟩,
    ⟨some 111, .q (.mov (.t 119)), none⟩,
    ⟨some 120, .q (.extr 0 (.t 111)), none⟩,
    ⟨some 121, .q (.extr 1 (.t 111)), none⟩,
    ⟨some 10, .e (.set (.t 120)) [], none⟩,
    ⟨some 11, .e (.set (.t 121)) [], none⟩] [6, 10])
  (.seq (.ops [⟨some 122, .q (.mov (.t 10)), none⟩,
    ⟨some 123, .q (.conv .i64 (.t 122)), none⟩,
    ⟨some 124, .e (.call 119 [.t 123]) [], none⟩,
    ⟨none, .e (.store 2 (.t 6) (.t 124)) [], none⟩] [6])
  (.ret)))))))), [.cell 6 (some 2)]⟩
/-- '(*binnacle/mean.run).calls' -/
def i244 : IFunc := ⟨.seq (.ops [⟨some 7, .e (.box 47 (.t 3)) [], none⟩,
    ⟨some 8, .e (.alloc 185 [.int .i64 0, .int .i64 0]) [], none⟩] [0, 1, 2, 7, 8])
  (.seq (.ops [⟨some 9, .e (.set (.v (.nilslice))) [], none⟩] [0, 1, 2, 7, 8, 9])
  (.seq (.seq (.ops [⟨some 14, .q (.addr 5 (.t 7)), none⟩,
    ⟨some 15, .q (.load none (.t 14)), none⟩,
    ⟨some 16, .q (.len .slice (.t 15)), none⟩,
    ⟨some 17, .q (.mov (.v (.int .i64 0))), none⟩] [0, 1, 2, 8, 9, 15, 16, 17])
  (.block 0 (.loop [0, 1, 2, 8, 9, 15, 16, 17] (.seq (.ops [⟨some 18, .q (.bin .lss (.t 17) (.t 16)), none⟩] [0, 1, 2, 8, 9, 15, 16, 17, 18])
  (.seq (.cond (.t 18) (.skip) (.exit 0))
  (.seq (.block 1 (.seq (.ops [⟨some 19, .q (.ixSl 1 (.t 15) (.t 17)), none⟩,
    ⟨some 20, .q (.load none (.t 19)), none⟩,
    ⟨some 11, .e (.set (.t 20)) [], none⟩] [0, 1, 2, 8, 9, 11, 15, 16, 17])
  (.ops [⟨some 21, .q (.mov (.t 9)), none⟩,
    ⟨some 22, .q (.mov (.t 0)), none⟩,
    ⟨some 23, .q (.mov (.t 1)), none⟩,
    ⟨some 24, .q (.mov (.t 11)), none⟩,
    ⟨some 25, .e (.call 201 [.t 22, .t 23, .t 24]) [], none⟩,
    ⟨some 26, .e (.bslice 185 2 1 [.int .i64 0, .int .i64 0] [(0, 2, .t 25)]) [], none⟩,
    ⟨some 27, .e (.append 185 2 16 (.t 21) (.t 26)) [], none⟩,
    ⟨some 9, .e (.set (.t 27)) [], none⟩] [0, 1, 2, 8, 9, 15, 16, 17])))
  (.ops [⟨some 28, .q (.bin .add (.t 17) (.v (.int .i64 1))), none⟩,
    ⟨some 17, .q (.mov (.t 28)), none⟩] [0, 1, 2, 8, 9, 15, 16, 17])))))))
  (.seq (.ops [⟨some 29, .q (.mov (.t 0)), none⟩,
    ⟨some 30, .q (.nilc (.t 29)), none⟩,
    ⟨some 31, .q (.addr 1 (.t 30)), none⟩,
    ⟨some 32, .q (.addr 0 (.t 31)), none⟩,
    ⟨some 33, .q (.load none (.t 32)), none⟩,
    ⟨some 34, .q (.mov (.t 0)), none⟩,
    ⟨some 35, .q (.nilc (.t 34)), none⟩,
    ⟨some 36, .q (.addr 1 (.t 35)), none⟩,
    ⟨some 37, .q (.addr 1 (.t 36)), none⟩,
    ⟨some 38, .q (.load none (.t 37)), none⟩,
    ⟨some 39, .q (.mov (.t 2)), none⟩,
    ⟨some 40, .q (.ixSl 1 (.t 38) (.t 39)), none⟩,
    ⟨some 41, .q (.load none (.t 40)), none⟩,
    ⟨some 42, .q (.ixSl 5 (.t 33) (.t 41)), none⟩,
    ⟨some 43, .q (.load (some 5) (.t 42)), none⟩,
    ⟨some 12, .e (.alloc 49 [.int .i64 0, .int .i64 0, .int .i64 0, .int .i64 0, .str []]) [], none⟩,
    ⟨none, .e (.store 5 (.t 12) (.t 43)) [], none⟩] [0, 8, 9, 12])
  (.seq (.seq (.ops [⟨some 44, .q (.addr 0 (.t 12)), none⟩,
    ⟨some 45, .q (.load none (.t 44)), none⟩,
    ⟨some 46, .q (.bin .eql (.t 45) (.v (.int .i64 3))), none⟩] [0, 8, 9, 12, 46])
  (.cond (.t 46) (.seq (.ops [⟨some 47, .q (.mov (.t 0)), none⟩,
    ⟨some 48, .q (.addr 3 (.t 12)), none⟩,
    ⟨some 49, .q (.load none (.t 48)), none⟩,
    ⟨some 50, .q (.mov (.t 9)), none⟩,
    ⟨some 51, .e (.call 122 [.t 47, .t 49, .t 50]) [], none⟩,
    ⟨none, .e (.store 2 (.t 8) (.t 51)) [], none⟩] [8])
  (.ret)) (.skip)))
  (.seq (.seq (.ops [⟨some 52, .q (.addr 4 (.t 12)), none⟩,
    ⟨some 53, .q (.load none (.t 52)), none⟩] [0, 8, 9, 53])
  (.block 2 (.seq (.ops [⟨some 55, .q (.bin .eql (.t 53) (.v (.str [112, 117, 116]))), none⟩,
    ⟨some 54, .e (.set (.t 55)) [], none⟩] [0, 8, 9, 53, 54])
  (.cond (.t 54) (.seq (.ops [⟨some 56, .q (.mov (.t 0)), none⟩,
    ⟨some 57, .q (.nilc (.t 56)), none⟩,
    ⟨some 58, .q (.addr 6 (.t 57)), none⟩,
    ⟨some 59, .q (.mov (.t 9)), none⟩,
    ⟨some 60, .q (.ixSl 2 (.t 59) (.v (.int .i64 0))), none⟩,
    ⟨some 61, .q (.addr 0 (.t 60)), none⟩,
    ⟨some 62, .q (.load none (.t 61)), none⟩,
    ⟨some 63, .q (.conv .u8 (.t 62)), none⟩,
    ⟨some 64, .e (.call 129 [.t 58, .t 63]) [], none⟩] [8, 9])
  (.seq (.ops [⟨some 65, .q (.mov (.t 9)), none⟩,
    ⟨some 66, .q (.ixSl 2 (.t 65) (.v (.int .i64 0))), none⟩,
    ⟨some 67, .q (.addr 0 (.t 66)), none⟩,
    ⟨some 68, .q (.load none (.t 67)), none⟩,
    ⟨some 69, .e (.call 119 [.t 68]) [], none⟩,
    ⟨none, .e (.store 2 (.t 8) (.t 69)) [], none⟩] [8])
  (.ret))) (.seq (.ops [⟨some 71, .q (.bin .eql (.t 53) (.v (.str [103, 101, 116]))), none⟩,
    ⟨some 70, .e (.set (.t 71)) [], none⟩] [0, 8, 9, 53, 70])
  (.cond (.t 70) (.seq (.seq (.ops [⟨some 72, .q (.mov (.t 0)), none⟩,
    ⟨some 73, .q (.nilc (.t 72)), none⟩,
    ⟨some 74, .q (.addr 4 (.t 73)), none⟩,
    ⟨some 75, .q (.load none (.t 74)), none⟩,
    ⟨some 76, .q (.bin .eql (.t 75) (.v (.str []))), none⟩] [0, 8, 76])
  (.cond (.t 76) (.ops [⟨some 77, .q (.build [.int .i64 0, .int .i64 0] [(0, 1, .v (.int .i64 2))]), none⟩,
    ⟨some 78, .q (.iface 127 (.t 77)), none⟩,
    ⟨none, .e (.panic (.t 78)) [], none⟩] [0, 8]) (.skip)))
  (.seq (.ops [⟨some 79, .q (.mov (.t 0)), none⟩,
    ⟨some 80, .q (.nilc (.t 79)), none⟩,
    ⟨some 81, .q (.addr 4 (.t 80)), none⟩,
    ⟨some 82, .q (.load none (.t 81)), none⟩,
    ⟨some 83, .q (.ixStr (.t 82) (.v (.int .i64 0))), none⟩,
    ⟨some 13, .e (.set (.t 83)) [], none⟩] [0, 8, 13])
  (.seq (.ops [⟨some 84, .q (.mov (.t 0)), none⟩,
    ⟨some 85, .q (.mov (.t 0)), none⟩,
    ⟨some 86, .q (.nilc (.t 85)), none⟩,
    ⟨some 87, .q (.addr 4 (.t 86)), none⟩,
    ⟨some 88, .q (.load none (.t 87)), none⟩,
    ⟨some 89, .q (.slStr (.t 88) (some (.v (.int .i64 1))) none), none⟩,
    ⟨some 90, .q (.nilc (.t 84)), none⟩,
    ⟨some 91, .q (.addr 4 (.t 90)), none⟩,
    ⟨none, .e (.store 1 (.t 91) (.t 89)) [], none⟩] [8, 13])
  (.seq (.ops [⟨some 92, .q (.mov (.t 13)), none⟩,
    ⟨some 93, .q (.conv .i64 (.t 92)), none⟩,
    ⟨some 94, .e (.call 119 [.t 93]) [], none⟩,
    ⟨none, .e (.store 2 (.t 8) (.t 94)) [], none⟩] [8])
  (.ret))))) (.seq (.ops [⟨some 96, .q (.bin .eql (.t 53) (.v (.str [101, 120, 105, 116]))), none⟩,
    ⟨some 95, .e (.set (.t 96)) [], none⟩] [0, 8, 9, 53, 95])
  (.cond (.t 95) (.ops [⟨some 97, .q (.mov (.t 9)), none⟩,
    ⟨some 98, .q (.ixSl 2 (.t 97) (.v (.int .i64 0))), none⟩,
    ⟨some 99, .q (.addr 0 (.t 98)), none⟩,
    ⟨some 100, .q (.load none (.t 99)), none⟩,
    ⟨some 101, .q (.build [.int .i64 0, .int .i64 0] [(0, 1, .v (.int .i64 1)), (1, 1, .t 100)]), none⟩,
    ⟨some 102, .q (.iface 127 (.t 101)), none⟩,
    ⟨none, .e (.panic (.t 102)) [], none⟩] [8]) (.seq (.ops [⟨some 104, .q (.bin .eql (.t 53) (.v (.str [97, 114, 103, 115]))), none⟩,
    ⟨some 103, .e (.set (.t 104)) [], none⟩] [0, 8, 9, 53, 103])
  (.cond (.t 103) (.seq (.ops [⟨some 105, .q (.mov (.t 0)), none⟩,
    ⟨some 106, .q (.nilc (.t 105)), none⟩,
    ⟨some 107, .q (.addr 12 (.t 106)), none⟩,
    ⟨some 108, .q (.load none (.t 107)), none⟩,
    ⟨some 109, .e (.call 119 [.t 108]) [], none⟩,
    ⟨none, .e (.store 2 (.t 8) (.t 109)) [], none⟩] [8])
  (.ret)) (.seq (.ops [⟨some 111, .q (.bin .eql (.t 53) (.v (.str [97, 114, 103]))), none⟩,
    ⟨some 110, .e (.set (.t 111)) [], none⟩] [0, 8, 9, 110])
  (.cond (.t 110) (.seq (.ops [⟨some 112, .q (.mov (.t 9)), none⟩,
    ⟨some 113, .q (.ixSl 2 (.t 112) (.v (.int .i64 0))), none⟩,
    ⟨some 114, .q (.addr 0 (.t 113)), none⟩,
    ⟨some 115, .q (.load none (.t 114)), none⟩,
    ⟨some 116, .q (.bin .geq (.t 115) (.v (.int .i64 0))), none⟩,
    ⟨some 117, .q (.mov (.t 116)), none⟩,
    ⟨some 118, .q (.mov (.t 9)), some (117, true)⟩,
    ⟨some 119, .q (.ixSl 2 (.t 118) (.v (.int .i64 0))), some (117, true)⟩,
    ⟨some 120, .q (.addr 0 (.t 119)), some (117, true)⟩,
    ⟨some 121, .q (.load none (.t 120)), some (117, true)⟩,
    ⟨some 122, .q (.mov (.t 0)), some (117, true)⟩,
    ⟨some 123, .q (.nilc (.t 122)), some (117, true)⟩,
    ⟨some 124, .q (.addr 12 (.t 123)), some (117, true)⟩,
    ⟨some 125, .q (.load none (.t 124)), some (117, true)⟩,
    ⟨some 126, .q (.bin .lss (.t 121) (.t 125)), some (117, true)⟩,
    ⟨some 127, .q (.pick (.t 117) (.t 126) (.v (.bool false))), none⟩] [0, 8, 9, 127])
  (.cond (.t 127) (.seq (.ops [⟨some 128, .q (.mov (.t 0)), none⟩,
    ⟨some 129, .q (.nilc (.t 128)), none⟩,
    ⟨some 130, .q (.addr 11 (.t 129)), none⟩,
    ⟨some 131, .q (.load none (.t 130)), none⟩,
    ⟨some 132, .q (.mov (.t 9)), none⟩,
    ⟨some 133, .q (.ixSl 2 (.t 132) (.v (.int .i64 0))), none⟩,
    ⟨some 134, .q (.addr 0 (.t 133)), none⟩,
    ⟨some 135, .q (.load none (.t 134)), none⟩,
    ⟨some 136, .q (.bin .add (.t 131) (.t 135)), none⟩,
    ⟨some 137, .q (.build [.int .i64 0, .int .i64 0] [(0, 1, .v (.int .i64 0)), (1, 1, .t 136)]), none⟩,
    ⟨none, .e (.store 2 (.t 8) (.t 137)) [], none⟩] [8])
  (.ret)) (.skip))) (.skip)))))))))))))
  (.ops [⟨some 138, .q (.build [.int .i64 0, .int .i64 0] [(0, 1, .v (.int .i64 4))]), none⟩,
    ⟨some 139, .q (.iface 127 (.t 138)), none⟩,
    ⟨none, .e (.panic (.t 139)) [], none⟩] [8])))))), [.cell 8 (some 2)]⟩
/-- '(*binnacle/front.reader).operand' -/
def i249 : IFunc := ⟨.seq (.ops [⟨some 2, .e (.set (.v (.int .i64 0))) [], none⟩] [0])
  (.seq (.ops [⟨some 9, .q (.mov (.t 0)), none⟩,
    ⟨some 10, .e (.call 218 [.t 9]) [], none⟩] [0])
  (.seq (.seq (.ops [⟨some 11, .q (.mov (.t 0)), none⟩] [0, 11])
  (.defer (.f 219) [.t 11]))
  (.seq (.ops [⟨some 12, .q (.mov (.t 0)), none⟩,
    ⟨some 13, .q (.nilc (.t 12)), none⟩,
    ⟨some 14, .q (.addr 2 (.t 13)), none⟩,
    ⟨some 15, .q (.addr 1 (.t 14)), none⟩,
    ⟨some 16, .q (.load none (.t 15)), none⟩,
    ⟨some 3, .e (.set (.t 16)) [], none⟩] [0, 3])
  (.seq (.seq (.ops [⟨some 17, .q (.build [.str [], .str [], .str [], .str []] [(0, 1, .v (.str [])), (1, 1, .v (.str [45])), (2, 1, .v (.str [33])), (3, 1, .v (.str [126]))]), none⟩,
    ⟨some 18, .q (.mov (.v (.int .i64 0))), none⟩] [0, 3, 17, 18])
  (.block 0 (.loop [0, 3, 17, 18] (.seq (.ops [⟨some 19, .q (.bin .lss (.t 18) (.v (.int .i64 4))), none⟩] [0, 3, 17, 18, 19])
  (.seq (.cond (.t 19) (.skip) (.exit 0))
  (.seq (.block 1 (.seq (.ops [⟨some 20, .q (.mov (.t 18)), none⟩,
    ⟨some 21, .q (.ixVal none 4 (.t 17) (.t 18)), none⟩,
    ⟨some 4, .e (.set (.t 20)) [], none⟩,
    ⟨some 5, .e (.set (.t 21)) [], none⟩] [0, 3, 4, 5, 17, 18])
  (.seq (.ops [⟨some 22, .q (.mov (.t 4)), none⟩,
    ⟨some 23, .q (.bin .gtr (.t 22) (.v (.int .i64 0))), none⟩,
    ⟨some 24, .q (.mov (.t 23)), none⟩,
    ⟨some 25, .q (.mov (.t 0)), some (24, true)⟩,
    ⟨some 26, .q (.mov (.t 5)), some (24, true)⟩,
    ⟨some 27, .e (.call 71 [.t 25, .t 26]) [], some (24, true)⟩,
    ⟨some 28, .q (.pick (.t 24) (.t 27) (.v (.bool false))), none⟩] [0, 3, 4, 17, 18, 28])
  (.cond (.t 28) (.seq (.ops [⟨some 29, .q (.mov (.t 0)), none⟩,
    ⟨some 30, .e (.call 249 [.t 29]) [], none⟩,
    ⟨some 6, .e (.set (.t 30)) [], none⟩] [0, 3, 4, 6])
  (.seq (.ops [⟨some 31, .q (.mov (.t 0)), none⟩,
    ⟨some 32, .q (.mov (.t 3)), none⟩,
    ⟨some 33, .q (.mov (.t 4)), none⟩,
    ⟨some 34, .q (.mov (.t 6)), none⟩,
    ⟨some 35, .e (.bslice 3 1 1 [.int .i64 0] [(0, 1, .t 34)]) [], none⟩,
    ⟨some 36, .q (.build [.int .i64 0, .int .i64 0, .str [], .int .i64 0, .int .i64 0, .nilslice] [(0, 1, .v (.int .i64 6)), (1, 1, .t 32), (3, 1, .t 33), (5, 1, .t 35)]), none⟩,
    ⟨some 37, .e (.call 36 [.t 31, .t 36]) [], none⟩,
    ⟨some 2, .e (.set (.t 37)) [], none⟩] [2])
  (.ret))) (.skip)))))
  (.ops [⟨some 38, .q (.bin .add (.t 18) (.v (.int .i64 1))), none⟩,
    ⟨some 18, .q (.mov (.t 38)), none⟩] [0, 3, 17, 18])))))))
  (.seq (.ops [⟨some 39, .q (.mov (.t 0)), none⟩,
    ⟨some 40, .e (.call 265 [.t 39]) [], none⟩,
    ⟨some 7, .e (.set (.t 40)) [], none⟩] [0, 7])
  (.seq (.block 2 (.loop [0, 7] (.seq (.seq (.ops [⟨some 41, .q (.mov (.t 0)), none⟩,
    ⟨some 42, .e (.call 71 [.t 41, .v (.str [91])]) [], none⟩] [0, 7, 42])
  (.cond (.t 42) (.skip) (.exit 2)))
  (.block 3 (.seq (.ops [⟨some 43, .q (.mov (.t 0)), none⟩,
    ⟨some 44, .e (.call 221 [.t 43, .v (.int .i64 1)]) [], none⟩,
    ⟨some 8, .e (.set (.t 44)) [], none⟩] [0, 7, 8])
  (.seq (.ops [⟨some 45, .q (.mov (.t 0)), none⟩,
    ⟨some 46, .e (.call 72 [.t 45, .v (.str [93])]) [], none⟩] [0, 7, 8])
  (.ops [⟨some 47, .q (.mov (.t 0)), none⟩,
    ⟨some 48, .q (.mov (.t 0)), none⟩,
    ⟨some 49, .q (.nilc (.t 48)), none⟩,
    ⟨some 50, .q (.addr 6 (.t 49)), none⟩,
    ⟨some 51, .q (.load none (.t 50)), none⟩,
    ⟨some 52, .q (.mov (.t 7)), none⟩,
    ⟨some 53, .q (.ixSl 6 (.t 51) (.t 52)), none⟩,
    ⟨some 54, .q (.addr 1 (.t 53)), none⟩,
    ⟨some 55, .q (.load none (.t 54)), none⟩,
    ⟨some 56, .q (.mov (.t 7)), none⟩,
    ⟨some 57, .q (.mov (.t 8)), none⟩,
    ⟨some 58, .e (.bslice 3 1 2 [.int .i64 0] [(0, 1, .t 56), (1, 1, .t 57)]) [], none⟩,
    ⟨some 59, .q (.build [.int .i64 0, .int .i64 0, .str [], .int .i64 0, .int .i64 0, .nilslice] [(0, 1, .v (.int .i64 5)), (1, 1, .t 55), (5, 1, .t 58)]), none⟩,
    ⟨some 60, .e (.call 36 [.t 47, .t 59]) [], none⟩,
    ⟨some 7, .e (.set (.t 60)) [], none⟩] [0, 7])))))))
  (.seq (.ops [⟨some 61, .q (.mov (.t 7)), none⟩,
    ⟨some 2, .e (.set (.t 61)) [], none⟩] [2])
  (.ret)))))))), [.slot 2]⟩
/-- 'binnacle/front.binary' -/
def i250 : IFunc := ⟨.seq (.ops [⟨some 2, .e (.set (.v (.int .i64 0))) [], none⟩] [0])
  (.seq (.ops [⟨some 6, .e (.call 124 [.v (.str [42, 32, 47, 32, 37, 32, 43, 32, 45, 32, 60, 60, 32, 62, 62, 32, 60, 32, 60, 61, 32, 62, 32, 62, 61, 32, 61, 61, 32, 33, 61, 32, 38, 32, 94, 32, 124, 32, 38, 38, 32, 124, 124])]) [], none⟩,
    ⟨some 3, .e (.set (.t 6)) [], none⟩] [0, 3])
  (.seq (.seq (.ops [⟨some 7, .q (.mov (.t 3)), none⟩,
    ⟨some 8, .q (.len .slice (.t 7)), none⟩,
    ⟨some 9, .q (.mov (.v (.int .i64 0))), none⟩] [0, 7, 8, 9])
  (.block 0 (.loop [0, 7, 8, 9] (.seq (.ops [⟨some 10, .q (.bin .lss (.t 9) (.t 8)), none⟩] [0, 7, 8, 9, 10])
  (.seq (.cond (.t 10) (.skip) (.exit 0))
  (.seq (.block 1 (.seq (.ops [⟨some 11, .q (.mov (.t 9)), none⟩,
    ⟨some 12, .q (.ixSl 1 (.t 7) (.t 9)), none⟩,
    ⟨some 13, .q (.load none (.t 12)), none⟩,
    ⟨some 4, .e (.set (.t 11)) [], none⟩,
    ⟨some 5, .e (.set (.t 13)) [], none⟩] [0, 4, 5, 7, 8, 9])
  (.seq (.ops [⟨some 14, .q (.mov (.t 5)), none⟩,
    ⟨some 15, .q (.mov (.t 0)), none⟩,
    ⟨some 16, .q (.bin .eql (.t 14) (.t 15)), none⟩] [0, 4, 7, 8, 9, 16])
  (.cond (.t 16) (.seq (.ops [⟨some 17, .q (.mov (.t 4)), none⟩,
    ⟨some 18, .q (.bin .add (.v (.int .i64 4)) (.t 17)), none⟩,
    ⟨some 2, .e (.set (.t 18)) [], none⟩] [2])
  (.ret)) (.skip)))))
  (.ops [⟨some 19, .q (.bin .add (.t 9) (.v (.int .i64 1))), none⟩,
    ⟨some 9, .q (.mov (.t 19)), none⟩] [0, 7, 8, 9])))))))
  (.seq (.ops [⟨some 2, .e (.set (.v (.int .i64 0))) [], none⟩] [2])
  (.ret)))), [.slot 2]⟩
/-- '(*binnacle/binnacleref17.Reader).down' -/
def i258 : IFunc := ⟨.seq (.seq (.ops [⟨some 2, .q (.mov (.t 0)), none⟩,
    ⟨some 3, .q (.nilc (.t 2)), none⟩,
    ⟨some 4, .q (.addr 4 (.t 3)), none⟩,
    ⟨some 5, .q (.load none (.t 4)), none⟩,
    ⟨some 6, .q (.bin .eql (.t 5) (.v (.int .i64 0))), none⟩,
    ⟨some 7, .q (.mov (.t 6)), none⟩,
    ⟨some 8, .q (.mov (.t 0)), some (7, true)⟩,
    ⟨some 9, .q (.nilc (.t 8)), some (7, true)⟩,
    ⟨some 10, .q (.addr 3 (.t 9)), some (7, true)⟩,
    ⟨some 11, .q (.load none (.t 10)), some (7, true)⟩,
    ⟨some 12, .q (.bin .geq (.t 11) (.v (.int .i64 40))), some (7, true)⟩,
    ⟨some 13, .q (.pick (.t 7) (.t 12) (.v (.bool false))), none⟩] [0, 13])
  (.cond (.t 13) (.ops [⟨some 14, .q (.mov (.t 0)), none⟩,
    ⟨some 15, .e (.call 83 [.t 14, .v (.int .i64 15)]) [], none⟩] [0]) (.skip)))
  (.ops [⟨some 16, .q (.mov (.t 0)), none⟩,
    ⟨some 17, .q (.nilc (.t 16)), none⟩,
    ⟨some 18, .q (.addr 3 (.t 17)), none⟩,
    ⟨some 19, .q (.load none (.t 18)), none⟩,
    ⟨some 20, .q (.bin .add (.t 19) (.v (.int .i64 1))), none⟩,
    ⟨some 21, .q (.nilc (.t 16)), none⟩,
    ⟨some 22, .q (.addr 3 (.t 21)), none⟩,
    ⟨none, .e (.store 1 (.t 22) (.t 20)) [], none⟩] []), []⟩
/-- '(*binnacle/binnacleref17.Reader).step' -/
def i259 : IFunc := ⟨.seq (.ops [⟨some 2, .e (.set (.v (.int .i64 0))) [], none⟩] [0])
  (.seq (.ops [⟨some 14, .q (.mov (.t 0)), none⟩,
    ⟨some 15, .q (.nilc (.t 14)), none⟩,
    ⟨some 16, .q (.addr 0 (.t 15)), none⟩,
    ⟨some 17, .q (.load none (.t 16)), none⟩,
    ⟨some 18, .q (.mov (.t 0)), none⟩,
    ⟨some 19, .q (.nilc (.t 18)), none⟩,
    ⟨some 20, .q (.addr 1 (.t 19)), none⟩,
    ⟨some 21, .q (.load none (.t 20)), none⟩,
    ⟨some 22, .q (.ixSl 4 (.t 17) (.t 21)), none⟩,
    ⟨some 23, .q (.load (some 4) (.t 22)), none⟩,
    ⟨some 3, .e (.alloc 56 [.int .i64 0, .int .i64 0, .str [], .int .i64 0]) [], none⟩,
    ⟨none, .e (.store 4 (.t 3) (.t 23)) [], none⟩] [0, 3])
  (.seq (.ops [⟨some 4, .e (.set (.v (.str []))) [], none⟩] [0, 3, 4])
  (.seq (.seq (.ops [⟨some 24, .q (.addr 0 (.t 3)), none⟩,
    ⟨some 25, .q (.load none (.t 24)), none⟩,
    ⟨some 26, .q (.bin .eql (.t 25) (.v (.int .i64 2))), none⟩] [0, 3, 4, 26])
  (.cond (.t 26) (.ops [⟨some 27, .q (.addr 2 (.t 3)), none⟩,
    ⟨some 28, .q (.load none (.t 27)), none⟩,
    ⟨some 4, .e (.set (.t 28)) [], none⟩] [0, 3, 4]) (.skip)))
  (.seq (.ops [⟨some 29, .q (.mov (.t 0)), none⟩,
    ⟨some 30, .e (.call 189 [.t 29, .v (.str [123])]) [], none⟩,
    ⟨some 5, .e (.set (.t 30)) [], none⟩] [0, 3, 4, 5])
  (.seq (.seq (.ops [⟨some 31, .q (.mov (.t 5)), none⟩] [0, 3, 4, 31])
  (.cond (.t 31) (.seq (.ops [⟨some 32, .q (.mov (.t 0)), none⟩,
    ⟨some 33, .e (.call 192 [.t 32]) [], none⟩,
    ⟨some 2, .e (.set (.t 33)) [], none⟩] [2])
  (.ret)) (.skip)))
  (.seq (.seq (.ops [⟨some 34, .q (.mov (.t 4)), none⟩] [0, 3, 4, 34])
  (.block 0 (.seq (.ops [⟨some 36, .q (.bin .eql (.t 34) (.v (.str [105, 102]))), none⟩,
    ⟨some 35, .e (.set (.t 36)) [], none⟩] [0, 3, 4, 34, 35])
  (.cond (.t 35) (.seq (.ops [⟨some 37, .q (.mov (.t 0)), none⟩,
    ⟨some 38, .e (.call 190 [.t 37]) [], none⟩] [0, 3])
  (.seq (.ops [⟨some 39, .q (.mov (.t 0)), none⟩,
    ⟨some 40, .e (.call 270 [.t 39]) [], none⟩,
    ⟨some 41, .e (.bslice 3 1 1 [.int .i64 0] [(0, 1, .t 40)]) [], none⟩,
    ⟨some 6, .e (.set (.t 41)) [], none⟩] [0, 3, 6])
  (.seq (.ops [⟨some 42, .q (.mov (.t 6)), none⟩,
    ⟨some 43, .q (.mov (.t 0)), none⟩,
    ⟨some 44, .e (.call 234 [.t 43]) [], none⟩,
    ⟨some 45, .e (.bslice 3 1 1 [.int .i64 0] [(0, 1, .t 44)]) [], none⟩,
    ⟨some 46, .e (.append 3 1 8 (.t 42) (.t 45)) [], none⟩,
    ⟨some 6, .e (.set (.t 46)) [], none⟩] [0, 3, 6])
  (.seq (.ops [⟨some 47, .q (.mov (.t 0)), none⟩,
    ⟨some 48, .e (.call 140 [.t 47, .v (.str [101, 108, 115, 101])]) [], none⟩,
    ⟨some 7, .e (.set (.t 48)) [], none⟩] [0, 3, 6, 7])
  (.seq (.seq (.ops [⟨some 49, .q (.mov (.t 7)), none⟩] [0, 3, 6, 49])
  (.cond (.t 49) (.ops [⟨some 50, .q (.mov (.t 6)), none⟩,
    ⟨some 51, .q (.mov (.t 0)), none⟩,
    ⟨some 52, .e (.call 234 [.t 51]) [], none⟩,
    ⟨some 53, .e (.bslice 3 1 1 [.int .i64 0] [(0, 1, .t 52)]) [], none⟩,
    ⟨some 54, .e (.append 3 1 8 (.t 50) (.t 53)) [], none⟩,
    ⟨some 6, .e (.set (.t 54)) [], none⟩] [0, 3, 6]) (.skip)))
  (.seq (.ops [⟨some 55, .q (.mov (.t 0)), none⟩,
    ⟨some 56, .q (.addr 1 (.t 3)), none⟩,
    ⟨some 57, .q (.load none (.t 56)), none⟩,
    ⟨some 58, .q (.mov (.t 6)), none⟩,
    ⟨some 59, .q (.build [.int .i64 0, .int .i64 0, .str [], .int .i64 0, .int .i64 0, .nilslice] [(0, 1, .v (.int .i64 12)), (1, 1, .t 57), (5, 1, .t 58)]), none⟩,
    ⟨some 60, .e (.call 85 [.t 55, .t 59]) [], none⟩,
    ⟨some 2, .e (.set (.t 60)) [], none⟩] [2])
  (.ret))))))) (.seq (.ops [⟨some 62, .q (.bin .eql (.t 34) (.v (.str [119, 104, 105, 108, 101]))), none⟩,
    ⟨some 61, .e (.set (.t 62)) [], none⟩] [0, 3, 4, 34, 61])
  (.cond (.t 61) (.seq (.ops [⟨some 63, .q (.mov (.t 0)), none⟩,
    ⟨some 64, .e (.call 190 [.t 63]) [], none⟩] [0, 3])
  (.seq (.ops [⟨some 65, .q (.mov (.t 0)), none⟩,
    ⟨some 66, .e (.call 270 [.t 65]) [], none⟩,
    ⟨some 8, .e (.set (.t 66)) [], none⟩] [0, 3, 8])
  (.seq (.ops [⟨some 67, .q (.mov (.t 0)), none⟩,
    ⟨some 68, .e (.call 234 [.t 67]) [], none⟩,
    ⟨some 9, .e (.set (.t 68)) [], none⟩] [0, 3, 8, 9])
  (.seq (.ops [⟨some 69, .q (.mov (.t 0)), none⟩,
    ⟨some 70, .q (.addr 1 (.t 3)), none⟩,
    ⟨some 71, .q (.load none (.t 70)), none⟩,
    ⟨some 72, .q (.mov (.t 8)), none⟩,
    ⟨some 73, .q (.mov (.t 9)), none⟩,
    ⟨some 74, .e (.bslice 3 1 2 [.int .i64 0] [(0, 1, .t 72), (1, 1, .t 73)]) [], none⟩,
    ⟨some 75, .q (.build [.int .i64 0, .int .i64 0, .str [], .int .i64 0, .int .i64 0, .nilslice] [(0, 1, .v (.int .i64 13)), (1, 1, .t 71), (5, 1, .t 74)]), none⟩,
    ⟨some 76, .e (.call 85 [.t 69, .t 75]) [], none⟩,
    ⟨some 2, .e (.set (.t 76)) [], none⟩] [2])
  (.ret))))) (.seq (.ops [⟨some 78, .q (.bin .eql (.t 34) (.v (.str [114, 101, 116, 117, 114, 110]))), none⟩,
    ⟨some 77, .e (.set (.t 78)) [], none⟩] [0, 3, 4, 34, 77])
  (.cond (.t 77) (.seq (.ops [⟨some 79, .q (.mov (.t 0)), none⟩,
    ⟨some 80, .e (.call 190 [.t 79]) [], none⟩] [0, 3])
  (.seq (.ops [⟨some 81, .q (.mov (.t 0)), none⟩,
    ⟨some 82, .e (.call 271 [.t 81]) [], none⟩,
    ⟨some 10, .e (.set (.t 82)) [], none⟩] [0, 3, 10])
  (.seq (.ops [⟨some 83, .q (.mov (.t 0)), none⟩,
    ⟨some 84, .e (.call 141 [.t 83, .v (.str [59])]) [], none⟩] [0, 3, 10])
  (.seq (.ops [⟨some 85, .q (.mov (.t 0)), none⟩,
    ⟨some 86, .q (.addr 1 (.t 3)), none⟩,
    ⟨some 87, .q (.load none (.t 86)), none⟩,
    ⟨some 88, .q (.mov (.t 10)), none⟩,
    ⟨some 89, .e (.bslice 3 1 1 [.int .i64 0] [(0, 1, .t 88)]) [], none⟩,
    ⟨some 90, .q (.build [.int .i64 0, .int .i64 0, .str [], .int .i64 0, .int .i64 0, .nilslice] [(0, 1, .v (.int .i64 14)), (1, 1, .t 87), (5, 1, .t 89)]), none⟩,
    ⟨some 91, .e (.call 85 [.t 85, .t 90]) [], none⟩,
    ⟨some 2, .e (.set (.t 91)) [], none⟩] [2])
  (.ret))))) (.seq (.seq (.ops [⟨some 93, .q (.bin .eql (.t 34) (.v (.str [98, 114, 101, 97, 107]))), none⟩,
    ⟨some 92, .e (.set (.t 93)) [], none⟩] [0, 3, 4, 34, 92])
  (.cond (.t 92) (.skip) (.ops [⟨some 94, .q (.bin .eql (.t 34) (.v (.str [99, 111, 110, 116, 105, 110, 117, 101]))), none⟩,
    ⟨some 92, .e (.set (.t 94)) [], none⟩] [0, 3, 4, 34, 92])))
  (.cond (.t 92) (.seq (.ops [⟨some 95, .q (.mov (.t 0)), none⟩,
    ⟨some 96, .e (.call 190 [.t 95]) [], none⟩] [0, 3, 4])
  (.seq (.ops [⟨some 97, .q (.mov (.t 0)), none⟩,
    ⟨some 98, .e (.call 141 [.t 97, .v (.str [59])]) [], none⟩] [0, 3, 4])
  (.seq (.ops [⟨some 11, .e (.set (.v (.int .i64 15))) [], none⟩] [0, 3, 4, 11])
  (.seq (.seq (.ops [⟨some 99, .q (.mov (.t 4)), none⟩,
    ⟨some 100, .q (.bin .eql (.t 99) (.v (.str [99, 111, 110, 116, 105, 110, 117, 101]))), none⟩] [0, 3, 11, 100])
  (.cond (.t 100) (.ops [⟨some 11, .e (.set (.v (.int .i64 16))) [], none⟩] [0, 3, 11]) (.skip)))
  (.seq (.ops [⟨some 101, .q (.mov (.t 0)), none⟩,
    ⟨some 102, .q (.mov (.t 11)), none⟩,
    ⟨some 103, .q (.addr 1 (.t 3)), none⟩,
    ⟨some 104, .q (.load none (.t 103)), none⟩,
    ⟨some 105, .q (.build [.int .i64 0, .int .i64 0, .str [], .int .i64 0, .int .i64 0, .nilslice] [(0, 1, .t 102), (1, 1, .t 104)]), none⟩,
    ⟨some 106, .e (.call 85 [.t 101, .t 105]) [], none⟩,
    ⟨some 2, .e (.set (.t 106)) [], none⟩] [2])
  (.ret)))))) (.seq (.seq (.ops [⟨some 108, .q (.bin .eql (.t 34) (.v (.str [105, 110, 116]))), none⟩,
    ⟨some 107, .e (.set (.t 108)) [], none⟩] [0, 3, 34, 107])
  (.cond (.t 107) (.skip) (.ops [⟨some 109, .q (.bin .eql (.t 34) (.v (.str [99, 104, 97, 114]))), none⟩,
    ⟨some 107, .e (.set (.t 109)) [], none⟩] [0, 3, 107])))
  (.cond (.t 107) (.seq (.ops [⟨some 110, .q (.mov (.t 0)), none⟩,
    ⟨some 111, .e (.call 191 [.t 110]) [], none⟩,
    ⟨some 12, .e (.alloc 47 [.int .i64 0, .int .i64 0, .str [], .int .i64 0, .int .i64 0, .nilslice]) [], none⟩,
    ⟨none, .e (.store 6 (.t 12) (.t 111)) [], none⟩] [0, 12])
  (.seq (.ops [⟨some 112, .q (.mov (.t 0)), none⟩,
    ⟨some 113, .e (.call 140 [.t 112, .v (.str [61])]) [], none⟩,
    ⟨some 13, .e (.set (.t 113)) [], none⟩] [0, 12, 13])
  (.seq (.seq (.ops [⟨some 114, .q (.mov (.t 13)), none⟩] [0, 12, 114])
  (.cond (.t 114) (.ops [⟨some 115, .q (.mov (.t 0)), none⟩,
    ⟨some 116, .e (.call 271 [.t 115]) [], none⟩,
    ⟨some 117, .e (.bslice 3 1 1 [.int .i64 0] [(0, 1, .t 116)]) [], none⟩,
    ⟨some 118, .q (.addr 5 (.t 12)), none⟩,
    ⟨none, .e (.store 1 (.t 118) (.t 117)) [], none⟩] [0, 12]) (.skip)))
  (.seq (.ops [⟨some 119, .q (.mov (.t 0)), none⟩,
    ⟨some 120, .e (.call 141 [.t 119, .v (.str [59])]) [], none⟩] [0, 12])
  (.seq (.ops [⟨some 121, .q (.mov (.t 0)), none⟩,
    ⟨some 122, .q (.load (some 6) (.t 12)), none⟩,
    ⟨some 123, .e (.call 85 [.t 121, .t 122]) [], none⟩,
    ⟨some 2, .e (.set (.t 123)) [], none⟩] [2])
  (.ret)))))) (.skip)))))))))))))
  (.seq (.ops [⟨some 124, .q (.mov (.t 0)), none⟩,
    ⟨some 125, .q (.addr 1 (.t 3)), none⟩,
    ⟨some 126, .q (.load none (.t 125)), none⟩,
    ⟨some 127, .e (.call 272 [.t 124, .t 126]) [], none⟩,
    ⟨some 2, .e (.set (.t 127)) [], none⟩] [2])
  (.ret)))))))), [.slot 2]⟩
/-- 'binnacle/word.Reckon' -/
def i261 : IFunc := ⟨.seq (.ops [⟨some 6, .e (.set (.v (.int .u64 0))) [], none⟩,
    ⟨some 7, .e (.set (.v (.bool false))) [], none⟩] [0, 1, 2])
  (.seq (.seq (.ops [⟨some 9, .q (.mov (.t 0)), none⟩,
    ⟨some 10, .q (.bin .lss (.t 9) (.v (.int .i64 35))), none⟩,
    ⟨some 11, .q (.mov (.t 10)), none⟩,
    ⟨some 12, .q (.mov (.t 0)), some (11, false)⟩,
    ⟨some 13, .q (.bin .gtr (.t 12) (.v (.int .i64 62))), some (11, false)⟩,
    ⟨some 14, .q (.pick (.t 11) (.v (.bool true)) (.t 13)), none⟩] [0, 1, 2, 14])
  (.cond (.t 14) (.seq (.ops [⟨some 6, .e (.set (.v (.int .u64 0))) [], none⟩,
    ⟨some 7, .e (.set (.v (.bool false))) [], none⟩] [6, 7])
  (.ret)) (.skip)))
  (.seq (.ops [⟨some 15, .q (.mov (.t 0)), none⟩,
    ⟨some 16, .e (.call 273 [.t 15]) [], none⟩,
    ⟨some 8, .e (.set (.t 16)) [], none⟩] [0, 1, 2, 8])
  (.seq (.seq (.ops [⟨some 17, .q (.mov (.t 8)), none⟩,
    ⟨some 18, .q (.bin .eql (.t 17) (.v (.int .i64 0))), none⟩] [0, 1, 2, 8, 18])
  (.cond (.t 18) (.seq (.ops [⟨some 19, .q (.mov (.t 0)), none⟩,
    ⟨some 20, .q (.mov (.t 1)), none⟩,
    ⟨some 21, .q (.mov (.t 2)), none⟩,
    ⟨some 22, .e (.call 274 [.t 19, .t 20, .t 21]) [], none⟩,
    ⟨some 6, .e (.set (.t 22)) [], none⟩,
    ⟨some 7, .e (.set (.v (.bool true))) [], none⟩] [6, 7])
  (.ret)) (.skip)))
  (.seq (.seq (.ops [⟨some 23, .q (.mov (.t 0)), none⟩] [0, 1, 2, 8, 23])
  (.block 0 (.seq (.block 2 (.seq (.block 1 (.seq (.seq (.seq (.ops [⟨some 25, .q (.bin .eql (.t 23) (.v (.int .i64 47))), none⟩,
    ⟨some 24, .e (.set (.t 25)) [], none⟩] [0, 1, 2, 8, 23, 24])
  (.cond (.t 24) (.skip) (.seq (.ops [⟨some 26, .q (.bin .eql (.t 23) (.v (.int .i64 49))), none⟩,
    ⟨some 24, .e (.set (.t 26)) [], none⟩] [0, 1, 2, 8, 23, 24])
  (.cond (.t 24) (.skip) (.ops [⟨some 27, .q (.bin .eql (.t 23) (.v (.int .i64 48))), none⟩,
    ⟨some 24, .e (.set (.t 27)) [], none⟩] [0, 1, 2, 8, 24])))))
  (.cond (.t 24) (.exit 1) (.skip)))
  (.exit 2)))
  (.ops [⟨some 28, .q (.mov (.t 2)), none⟩,
    ⟨some 29, .q (.bin .and (.t 28) (.v (.int .u64 31))), none⟩,
    ⟨some 2, .e (.set (.t 29)) [], none⟩] [0, 1, 2, 8])))
  (.seq (.ops [⟨some 30, .q (.mov (.t 1)), none⟩,
    ⟨some 31, .e (.call 275 [.t 30, .v (.int .i64 32)]) [], none⟩,
    ⟨some 32, .q (.mov (.t 2)), none⟩,
    ⟨some 33, .e (.call 275 [.t 32, .v (.int .i64 32)]) [], none⟩,
    ⟨some 1, .e (.set (.t 31)) [], none⟩,
    ⟨some 2, .e (.set (.t 33)) [], none⟩] [0, 1, 2, 8])
  (.exit 0)))))
  (.seq (.seq (.ops [⟨some 34, .q (.mov (.t 0)), none⟩,
    ⟨some 35, .q (.bin .eql (.t 34) (.v (.int .i64 60))), none⟩,
    ⟨some 36, .q (.mov (.t 35)), none⟩,
    ⟨some 37, .q (.mov (.t 0)), some (36, false)⟩,
    ⟨some 38, .q (.bin .eql (.t 37) (.v (.int .i64 62))), some (36, false)⟩,
    ⟨some 39, .q (.pick (.t 36) (.v (.bool true)) (.t 38)), none⟩,
    ⟨some 40, .q (.mov (.t 39)), none⟩,
    ⟨some 41, .q (.mov (.t 0)), some (40, false)⟩,
    ⟨some 42, .q (.bin .eql (.t 41) (.v (.int .i64 48))), some (40, false)⟩,
    ⟨some 43, .q (.pick (.t 40) (.v (.bool true)) (.t 42)), none⟩] [1, 2, 8, 43])
  (.cond (.t 43) (.ops [⟨some 44, .q (.mov (.t 1)), none⟩,
    ⟨some 45, .e (.call 276 [.t 44, .v (.int .i64 32)]) [], none⟩,
    ⟨some 46, .q (.mov (.t 2)), none⟩,
    ⟨some 47, .e (.call 276 [.t 46, .v (.int .i64 32)]) [], none⟩,
    ⟨some 1, .e (.set (.t 45)) [], none⟩,
    ⟨some 2, .e (.set (.t 47)) [], none⟩] [1, 2, 8]) (.skip)))
  (.seq (.ops [⟨some 48, .q (.mov (.t 8)), none⟩,
    ⟨some 49, .q (.mov (.t 1)), none⟩,
    ⟨some 50, .q (.mov (.t 2)), none⟩,
    ⟨some 51, .e (.call 274 [.t 48, .t 49, .t 50]) [], none⟩,
    ⟨some 52, .e (.call 275 [.t 51, .v (.int .i64 32)]) [], none⟩,
    ⟨some 6, .e (.set (.t 52)) [], none⟩,
    ⟨some 7, .e (.set (.v (.bool true))) [], none⟩] [6, 7])
  (.ret))))))), [.slot 6, .slot 7]⟩
/-- '(*binnacle/front.reader).primary' -/
def i265 : IFunc := ⟨.seq (.ops [⟨some 2, .e (.set (.v (.int .i64 0))) [], none⟩] [0])
  (.seq (.ops [⟨some 6, .q (.mov (.t 0)), none⟩,
    ⟨some 7, .q (.nilc (.t 6)), none⟩,
    ⟨some 8, .q (.addr 2 (.t 7)), none⟩,
    ⟨some 9, .q (.load (some 4) (.t 8)), none⟩,
    ⟨some 3, .e (.alloc 80 [.int .i64 0, .int .i64 0, .str [], .int .i64 0]) [], none⟩,
    ⟨none, .e (.store 4 (.t 3) (.t 9)) [], none⟩] [0, 3])
  (.seq (.seq (.ops [⟨some 10, .q (.addr 0 (.t 3)), none⟩,
    ⟨some 11, .q (.load none (.t 10)), none⟩] [0, 3, 11])
  (.block 0 (.seq (.ops [⟨some 13, .q (.bin .eql (.t 11) (.v (.int .i64 3))), none⟩,
    ⟨some 12, .e (.set (.t 13)) [], none⟩] [0, 3, 11, 12])
  (.cond (.t 12) (.seq (.ops [⟨some 14, .q (.mov (.t 0)), none⟩,
    ⟨some 15, .e (.call 131 [.t 14]) [], none⟩] [0, 3])
  (.seq (.ops [⟨some 16, .q (.mov (.t 0)), none⟩,
    ⟨some 17, .q (.addr 1 (.t 3)), none⟩,
    ⟨some 18, .q (.load none (.t 17)), none⟩,
    ⟨some 19, .q (.addr 3 (.t 3)), none⟩,
    ⟨some 20, .q (.load none (.t 19)), none⟩,
    ⟨some 21, .q (.build [.int .i64 0, .int .i64 0, .str [], .int .i64 0, .int .i64 0, .nilslice] [(0, 1, .v (.int .i64 1)), (1, 1, .t 18), (3, 1, .t 20)]), none⟩,
    ⟨some 22, .e (.call 36 [.t 16, .t 21]) [], none⟩,
    ⟨some 2, .e (.set (.t 22)) [], none⟩] [2])
  (.ret))) (.seq (.ops [⟨some 24, .q (.bin .eql (.t 11) (.v (.int .i64 4))), none⟩,
    ⟨some 23, .e (.set (.t 24)) [], none⟩] [0, 3, 11, 23])
  (.cond (.t 23) (.seq (.ops [⟨some 25, .q (.mov (.t 0)), none⟩,
    ⟨some 26, .e (.call 131 [.t 25]) [], none⟩] [0, 3])
  (.seq (.ops [⟨some 27, .q (.mov (.t 0)), none⟩,
    ⟨some 28, .q (.addr 1 (.t 3)), none⟩,
    ⟨some 29, .q (.load none (.t 28)), none⟩,
    ⟨some 30, .q (.addr 2 (.t 3)), none⟩,
    ⟨some 31, .q (.load none (.t 30)), none⟩,
    ⟨some 32, .q (.build [.int .i64 0, .int .i64 0, .str [], .int .i64 0, .int .i64 0, .nilslice] [(0, 1, .v (.int .i64 2)), (1, 1, .t 29), (2, 1, .t 31)]), none⟩,
    ⟨some 33, .e (.call 36 [.t 27, .t 32]) [], none⟩,
    ⟨some 2, .e (.set (.t 33)) [], none⟩] [2])
  (.ret))) (.seq (.ops [⟨some 35, .q (.bin .eql (.t 11) (.v (.int .i64 1))), none⟩,
    ⟨some 34, .e (.set (.t 35)) [], none⟩] [0, 3, 34])
  (.cond (.t 34) (.seq (.ops [⟨some 36, .q (.mov (.t 0)), none⟩,
    ⟨some 37, .e (.call 131 [.t 36]) [], none⟩] [0, 3])
  (.seq (.seq (.ops [⟨some 38, .q (.mov (.t 0)), none⟩,
    ⟨some 39, .e (.call 74 [.t 38, .v (.str [40])]) [], none⟩,
    ⟨some 40, .q (.un .not (.t 39)), none⟩] [0, 3, 40])
  (.cond (.t 40) (.seq (.ops [⟨some 41, .q (.mov (.t 0)), none⟩,
    ⟨some 42, .q (.addr 1 (.t 3)), none⟩,
    ⟨some 43, .q (.load none (.t 42)), none⟩,
    ⟨some 44, .q (.addr 2 (.t 3)), none⟩,
    ⟨some 45, .q (.load none (.t 44)), none⟩,
    ⟨some 46, .q (.build [.int .i64 0, .int .i64 0, .str [], .int .i64 0, .int .i64 0, .nilslice] [(0, 1, .v (.int .i64 3)), (1, 1, .t 43), (2, 1, .t 45)]), none⟩,
    ⟨some 47, .e (.call 36 [.t 41, .t 46]) [], none⟩,
    ⟨some 2, .e (.set (.t 47)) [], none⟩] [2])
  (.ret)) (.skip)))
  (.seq (.ops [⟨some 48, .q (.mov (.t 0)), none⟩,
    ⟨some 49, .e (.call 131 [.t 48]) [], none⟩] [0, 3])
  (.seq (.ops [⟨some 50, .q (.mov (.t 0)), none⟩,
    ⟨some 51, .e (.call 284 [.t 50]) [], none⟩,
    ⟨some 4, .e (.set (.t 51)) [], none⟩] [0, 3, 4])
  (.seq (.ops [⟨some 52, .q (.mov (.t 0)), none⟩,
    ⟨some 53, .q (.addr 1 (.t 3)), none⟩,
    ⟨some 54, .q (.load none (.t 53)), none⟩,
    ⟨some 55, .q (.addr 2 (.t 3)), none⟩,
    ⟨some 56, .q (.load none (.t 55)), none⟩,
    ⟨some 57, .q (.mov (.t 4)), none⟩,
    ⟨some 58, .q (.build [.int .i64 0, .int .i64 0, .str [], .int .i64 0, .int .i64 0, .nilslice] [(0, 1, .v (.int .i64 4)), (1, 1, .t 54), (2, 1, .t 56), (5, 1, .t 57)]), none⟩,
    ⟨some 59, .e (.call 36 [.t 52, .t 58]) [], none⟩,
    ⟨some 2, .e (.set (.t 59)) [], none⟩] [2])
  (.ret)))))) (.skip)))))))))
  (.seq (.ops [⟨some 60, .q (.mov (.t 0)), none⟩,
    ⟨some 61, .e (.call 72 [.t 60, .v (.str [40])]) [], none⟩] [0])
  (.seq (.ops [⟨some 62, .q (.mov (.t 0)), none⟩,
    ⟨some 63, .e (.call 221 [.t 62, .v (.int .i64 1)]) [], none⟩,
    ⟨some 5, .e (.set (.t 63)) [], none⟩] [0, 5])
  (.seq (.ops [⟨some 64, .q (.mov (.t 0)), none⟩,
    ⟨some 65, .e (.call 72 [.t 64, .v (.str [41])]) [], none⟩] [5])
  (.seq (.ops [⟨some 66, .q (.mov (.t 5)), none⟩,
    ⟨some 2, .e (.set (.t 66)) [], none⟩] [2])
  (.ret))))))), [.slot 2]⟩
/-- '(*binnacle/binnacleref17.Reader).condition' -/
def i270 : IFunc := ⟨.seq (.ops [⟨some 2, .e (.set (.v (.int .i64 0))) [], none⟩] [0])
  (.seq (.ops [⟨some 4, .q (.mov (.t 0)), none⟩,
    ⟨some 5, .e (.call 141 [.t 4, .v (.str [40])]) [], none⟩] [0])
  (.seq (.seq (.ops [⟨some 6, .q (.mov (.t 0)), none⟩,
    ⟨some 7, .q (.nilc (.t 6)), none⟩,
    ⟨some 8, .q (.addr 4 (.t 7)), none⟩,
    ⟨some 9, .q (.load none (.t 8)), none⟩,
    ⟨some 10, .q (.bin .neq (.t 9) (.v (.int .i64 0))), none⟩] [0, 10])
  (.cond (.t 10) (.seq (.ops [⟨some 2, .e (.set (.v (.int .i64 0))) [], none⟩] [2])
  (.ret)) (.skip)))
  (.seq (.ops [⟨some 11, .q (.mov (.t 0)), none⟩,
    ⟨some 12, .e (.call 291 [.t 11, .v (.int .i64 1)]) [], none⟩,
    ⟨some 3, .e (.set (.t 12)) [], none⟩] [0, 3])
  (.seq (.ops [⟨some 13, .q (.mov (.t 0)), none⟩,
    ⟨some 14, .e (.call 141 [.t 13, .v (.str [41])]) [], none⟩] [3])
  (.seq (.ops [⟨some 15, .q (.mov (.t 3)), none⟩,
    ⟨some 2, .e (.set (.t 15)) [], none⟩] [2])
  (.ret)))))), [.slot 2]⟩
/-- '(*binnacle/binnacleref17.Reader).value' -/
def i271 : IFunc := ⟨.seq (.ops [⟨some 2, .e (.set (.v (.int .i64 0))) [], none⟩] [0])
  (.seq (.seq (.ops [⟨some 3, .q (.mov (.t 0)), none⟩,
    ⟨some 4, .q (.nilc (.t 3)), none⟩,
    ⟨some 5, .q (.addr 4 (.t 4)), none⟩,
    ⟨some 6, .q (.load none (.t 5)), none⟩,
    ⟨some 7, .q (.bin .neq (.t 6) (.v (.int .i64 0))), none⟩] [0, 7])
  (.cond (.t 7) (.seq (.ops [⟨some 2, .e (.set (.v (.int .i64 0))) [], none⟩] [2])
  (.ret)) (.skip)))
  (.seq (.ops [⟨some 8, .q (.mov (.t 0)), none⟩,
    ⟨some 9, .e (.call 291 [.t 8, .v (.int .i64 1)]) [], none⟩,
    ⟨some 2, .e (.set (.t 9)) [], none⟩] [2])
  (.ret))), [.slot 2]⟩
/-- '(*binnacle/binnacleref17.Reader).plain' -/
def i272 : IFunc := ⟨.seq (.ops [⟨some 4, .e (.set (.v (.int .i64 0))) [], none⟩] [0, 1])
  (.seq (.ops [⟨some 9, .q (.mov (.t 0)), none⟩,
    ⟨some 10, .e (.call 291 [.t 9, .v (.int .i64 1)]) [], none⟩,
    ⟨some 5, .e (.set (.t 10)) [], none⟩] [0, 1, 5])
  (.seq (.ops [⟨some 11, .q (.mov (.t 0)), none⟩,
    ⟨some 12, .e (.call 189 [.t 11, .v (.str [61])]) [], none⟩,
    ⟨some 6, .e (.set (.t 12)) [], none⟩] [0, 1, 5, 6])
  (.seq (.seq (.ops [⟨some 13, .q (.mov (.t 6)), none⟩] [0, 1, 5, 13])
  (.cond (.t 13) (.seq (.ops [⟨some 14, .q (.mov (.t 0)), none⟩,
    ⟨some 15, .q (.nilc (.t 14)), none⟩,
    ⟨some 16, .q (.addr 2 (.t 15)), none⟩,
    ⟨some 17, .q (.load none (.t 16)), none⟩,
    ⟨some 18, .q (.mov (.t 5)), none⟩,
    ⟨some 19, .q (.ixSl 6 (.t 17) (.t 18)), none⟩,
    ⟨some 20, .q (.addr 0 (.t 19)), none⟩,
    ⟨some 21, .q (.load none (.t 20)), none⟩,
    ⟨some 7, .e (.set (.t 21)) [], none⟩] [0, 5, 7])
  (.seq (.seq (.ops [⟨some 22, .q (.mov (.t 7)), none⟩,
    ⟨some 23, .q (.bin .neq (.t 22) (.v (.int .i64 3))), none⟩,
    ⟨some 24, .q (.mov (.t 23)), none⟩,
    ⟨some 25, .q (.mov (.t 7)), some (24, true)⟩,
    ⟨some 26, .q (.bin .neq (.t 25) (.v (.int .i64 5))), some (24, true)⟩,
    ⟨some 27, .q (.pick (.t 24) (.t 26) (.v (.bool false))), none⟩] [0, 5, 27])
  (.cond (.t 27) (.seq (.ops [⟨some 28, .q (.mov (.t 0)), none⟩,
    ⟨some 29, .e (.call 83 [.t 28, .v (.int .i64 13)]) [], none⟩] [])
  (.seq (.ops [⟨some 4, .e (.set (.v (.int .i64 0))) [], none⟩] [4])
  (.ret))) (.skip)))
  (.seq (.ops [⟨some 30, .q (.mov (.t 0)), none⟩,
    ⟨some 31, .e (.call 190 [.t 30]) [], none⟩] [0, 5])
  (.seq (.ops [⟨some 32, .q (.mov (.t 0)), none⟩,
    ⟨some 33, .e (.call 271 [.t 32]) [], none⟩,
    ⟨some 8, .e (.set (.t 33)) [], none⟩] [0, 5, 8])
  (.seq (.ops [⟨some 34, .q (.mov (.t 0)), none⟩,
    ⟨some 35, .e (.call 141 [.t 34, .v (.str [59])]) [], none⟩] [0, 5, 8])
  (.seq (.ops [⟨some 36, .q (.mov (.t 0)), none⟩,
    ⟨some 37, .q (.mov (.t 0)), none⟩,
    ⟨some 38, .q (.mov (.t 5)), none⟩,
    ⟨some 39, .e (.call 292 [.t 37, .t 38]) [], none⟩,
    ⟨some 40, .q (.mov (.t 5)), none⟩,
    ⟨some 41, .q (.mov (.t 8)), none⟩,
    ⟨some 42, .e (.bslice 3 1 2 [.int .i64 0] [(0, 1, .t 40), (1, 1, .t 41)]) [], none⟩,
    ⟨some 43, .q (.build [.int .i64 0, .int .i64 0, .str [], .int .i64 0, .int .i64 0, .nilslice] [(0, 1, .v (.int .i64 11)), (1, 1, .t 39), (5, 1, .t 42)]), none⟩,
    ⟨some 44, .e (.call 85 [.t 36, .t 43]) [], none⟩,
    ⟨some 4, .e (.set (.t 44)) [], none⟩] [4])
  (.ret))))))) (.skip)))
  (.seq (.ops [⟨some 45, .q (.mov (.t 0)), none⟩,
    ⟨some 46, .e (.call 141 [.t 45, .v (.str [59])]) [], none⟩] [0, 1, 5])
  (.seq (.ops [⟨some 47, .q (.mov (.t 0)), none⟩,
    ⟨some 48, .q (.mov (.t 1)), none⟩,
    ⟨some 49, .q (.mov (.t 5)), none⟩,
    ⟨some 50, .e (.bslice 3 1 1 [.int .i64 0] [(0, 1, .t 49)]) [], none⟩,
    ⟨some 51, .q (.build [.int .i64 0, .int .i64 0, .str [], .int .i64 0, .int .i64 0, .nilslice] [(0, 1, .v (.int .i64 10)), (1, 1, .t 48), (5, 1, .t 50)]), none⟩,
    ⟨some 52, .e (.call 85 [.t 47, .t 51]) [], none⟩,
    ⟨some 4, .e (.set (.t 52)) [], none⟩] [4])
  (.ret)))))), [.slot 4]⟩
/-- 'binnacle/word.narrow' -/
def i273 : IFunc := ⟨.seq (.ops [⟨some 2, .e (.set (.v (.int .i64 0))) [], none⟩] [0])
  (.seq (.seq (.ops [⟨some 3, .q (.mov (.t 0)), none⟩] [3])
  (.block 0 (.seq (.ops [⟨some 5, .q (.bin .eql (.t 3) (.v (.int .i64 45))), none⟩,
    ⟨some 4, .e (.set (.t 5)) [], none⟩] [3, 4])
  (.cond (.t 4) (.seq (.ops [⟨some 2, .e (.set (.v (.int .i64 35))) [], none⟩] [2])
  (.ret)) (.seq (.ops [⟨some 7, .q (.bin .eql (.t 3) (.v (.int .i64 46))), none⟩,
    ⟨some 6, .e (.set (.t 7)) [], none⟩] [3, 6])
  (.cond (.t 6) (.seq (.ops [⟨some 2, .e (.set (.v (.int .i64 36))) [], none⟩] [2])
  (.ret)) (.seq (.ops [⟨some 9, .q (.bin .eql (.t 3) (.v (.int .i64 47))), none⟩,
    ⟨some 8, .e (.set (.t 9)) [], none⟩] [3, 8])
  (.cond (.t 8) (.seq (.ops [⟨some 2, .e (.set (.v (.int .i64 37))) [], none⟩] [2])
  (.ret)) (.seq (.ops [⟨some 11, .q (.bin .eql (.t 3) (.v (.int .i64 48))), none⟩,
    ⟨some 10, .e (.set (.t 11)) [], none⟩] [3, 10])
  (.cond (.t 10) (.seq (.ops [⟨some 2, .e (.set (.v (.int .i64 41))) [], none⟩] [2])
  (.ret)) (.seq (.ops [⟨some 13, .q (.bin .eql (.t 3) (.v (.int .i64 49))), none⟩,
    ⟨some 12, .e (.set (.t 13)) [], none⟩] [3, 12])
  (.cond (.t 12) (.seq (.ops [⟨some 2, .e (.set (.v (.int .i64 42))) [], none⟩] [2])
  (.ret)) (.seq (.ops [⟨some 15, .q (.bin .eql (.t 3) (.v (.int .i64 58))), none⟩,
    ⟨some 14, .e (.set (.t 15)) [], none⟩] [3, 14])
  (.cond (.t 14) (.seq (.ops [⟨some 2, .e (.set (.v (.int .i64 50))) [], none⟩] [2])
  (.ret)) (.seq (.ops [⟨some 17, .q (.bin .eql (.t 3) (.v (.int .i64 59))), none⟩,
    ⟨some 16, .e (.set (.t 17)) [], none⟩] [3, 16])
  (.cond (.t 16) (.seq (.ops [⟨some 2, .e (.set (.v (.int .i64 54))) [], none⟩] [2])
  (.ret)) (.seq (.ops [⟨some 19, .q (.bin .eql (.t 3) (.v (.int .i64 60))), none⟩,
    ⟨some 18, .e (.set (.t 19)) [], none⟩] [3, 18])
  (.cond (.t 18) (.seq (.ops [⟨some 2, .e (.set (.v (.int .i64 55))) [], none⟩] [2])
  (.ret)) (.seq (.ops [⟨some 21, .q (.bin .eql (.t 3) (.v (.int .i64 61))), none⟩,
    ⟨some 20, .e (.set (.t 21)) [], none⟩] [3, 20])
  (.cond (.t 20) (.seq (.ops [⟨some 2, .e (.set (.v (.int .i64 56))) [], none⟩] [2])
  (.ret)) (.seq (.ops [⟨some 23, .q (.bin .eql (.t 3) (.v (.int .i64 62))), none⟩,
    ⟨some 22, .e (.set (.t 23)) [], none⟩] [22])
  (.cond (.t 22) (.seq (.ops [⟨some 2, .e (.set (.v (.int .i64 57))) [], none⟩] [2])
  (.ret)) (.skip)))))))))))))))))))))))
  (.seq (.ops [⟨some 2, .e (.set (.v (.int .i64 0))) [], none⟩] [2])
  (.ret))), [.slot 2]⟩
/-- 'binnacle/word.wide' -/
def i274 : IFunc := ⟨.seq (.ops [⟨some 6, .e (.set (.v (.int .u64 0))) [], none⟩] [0, 1, 2])
  (.seq (.seq (.ops [⟨some 11, .q (.mov (.t 0)), none⟩] [0, 1, 2, 11])
  (.block 0 (.seq (.ops [⟨some 13, .q (.bin .eql (.t 11) (.v (.int .i64 35))), none⟩,
    ⟨some 12, .e (.set (.t 13)) [], none⟩] [0, 1, 2, 11, 12])
  (.cond (.t 12) (.seq (.ops [⟨some 14, .q (.mov (.t 1)), none⟩,
    ⟨some 15, .q (.mov (.t 2)), none⟩,
    ⟨some 16, .q (.bin .add (.t 14) (.t 15)), none⟩,
    ⟨some 6, .e (.set (.t 16)) [], none⟩] [6])
  (.ret)) (.seq (.ops [⟨some 18, .q (.bin .eql (.t 11) (.v (.int .i64 36))), none⟩,
    ⟨some 17, .e (.set (.t 18)) [], none⟩] [0, 1, 2, 11, 17])
  (.cond (.t 17) (.seq (.ops [⟨some 19, .q (.mov (.t 1)), none⟩,
    ⟨some 20, .q (.mov (.t 2)), none⟩,
    ⟨some 21, .q (.bin .sub (.t 19) (.t 20)), none⟩,
    ⟨some 6, .e (.set (.t 21)) [], none⟩] [6])
  (.ret)) (.seq (.ops [⟨some 23, .q (.bin .eql (.t 11) (.v (.int .i64 50))), none⟩,
    ⟨some 22, .e (.set (.t 23)) [], none⟩] [0, 1, 2, 11, 22])
  (.cond (.t 22) (.seq (.ops [⟨some 24, .q (.mov (.t 1)), none⟩,
    ⟨some 25, .q (.mov (.t 2)), none⟩,
    ⟨some 26, .q (.bin .mul (.t 24) (.t 25)), none⟩,
    ⟨some 6, .e (.set (.t 26)) [], none⟩] [6])
  (.ret)) (.seq (.ops [⟨some 28, .q (.bin .eql (.t 11) (.v (.int .i64 40))), none⟩,
    ⟨some 27, .e (.set (.t 28)) [], none⟩] [0, 1, 2, 11, 27])
  (.cond (.t 27) (.seq (.ops [⟨some 29, .q (.mov (.t 1)), none⟩,
    ⟨some 30, .q (.mov (.t 2)), none⟩,
    ⟨some 31, .q (.bin .xor (.t 29) (.t 30)), none⟩,
    ⟨some 6, .e (.set (.t 31)) [], none⟩] [6])
  (.ret)) (.seq (.ops [⟨some 33, .q (.bin .eql (.t 11) (.v (.int .i64 43))), none⟩,
    ⟨some 32, .e (.set (.t 33)) [], none⟩] [0, 1, 2, 11, 32])
  (.cond (.t 32) (.seq (.ops [⟨some 34, .q (.mov (.t 1)), none⟩,
    ⟨some 35, .q (.mov (.t 2)), none⟩,
    ⟨some 36, .q (.bin .or (.t 34) (.t 35)), none⟩,
    ⟨some 6, .e (.set (.t 36)) [], none⟩] [6])
  (.ret)) (.seq (.ops [⟨some 38, .q (.bin .eql (.t 11) (.v (.int .i64 44))), none⟩,
    ⟨some 37, .e (.set (.t 38)) [], none⟩] [0, 1, 2, 11, 37])
  (.cond (.t 37) (.seq (.ops [⟨some 39, .q (.mov (.t 1)), none⟩,
    ⟨some 40, .q (.mov (.t 2)), none⟩,
    ⟨some 41, .q (.bin .and (.t 39) (.t 40)), none⟩,
    ⟨some 6, .e (.set (.t 41)) [], none⟩] [6])
  (.ret)) (.seq (.ops [⟨some 43, .q (.bin .eql (.t 11) (.v (.int .i64 37))), none⟩,
    ⟨some 42, .e (.set (.t 43)) [], none⟩] [0, 1, 2, 11, 42])
  (.cond (.t 42) (.seq (.ops [⟨some 44, .q (.mov (.t 1)), none⟩,
    ⟨some 45, .q (.mov (.t 2)), none⟩,
    ⟨some 46, .q (.bin .and (.t 45) (.v (.int .u64 63))), none⟩,
    ⟨some 47, .q (.bin .shl (.t 44) (.t 46)), none⟩,
    ⟨some 6, .e (.set (.t 47)) [], none⟩] [6])
  (.ret)) (.seq (.ops [⟨some 49, .q (.bin .eql (.t 11) (.v (.int .i64 41))), none⟩,
    ⟨some 48, .e (.set (.t 49)) [], none⟩] [0, 1, 2, 11, 48])
  (.cond (.t 48) (.seq (.ops [⟨some 50, .q (.mov (.t 1)), none⟩,
    ⟨some 51, .q (.mov (.t 2)), none⟩,
    ⟨some 52, .q (.bin .and (.t 51) (.v (.int .u64 63))), none⟩,
    ⟨some 53, .q (.bin .shr (.t 50) (.t 52)), none⟩,
    ⟨some 6, .e (.set (.t 53)) [], none⟩] [6])
  (.ret)) (.seq (.ops [⟨some 55, .q (.bin .eql (.t 11) (.v (.int .i64 42))), none⟩,
    ⟨some 54, .e (.set (.t 55)) [], none⟩] [0, 1, 2, 11, 54])
  (.cond (.t 54) (.seq (.ops [⟨some 56, .q (.mov (.t 1)), none⟩,
    ⟨some 57, .q (.conv .i64 (.t 56)), none⟩,
    ⟨some 58, .q (.mov (.t 2)), none⟩,
    ⟨some 59, .q (.bin .and (.t 58) (.v (.int .u64 63))), none⟩,
    ⟨some 60, .q (.bin .shr (.t 57) (.t 59)), none⟩,
    ⟨some 61, .q (.conv .u64 (.t 60)), none⟩,
    ⟨some 6, .e (.set (.t 61)) [], none⟩] [6])
  (.ret)) (.seq (.ops [⟨some 63, .q (.bin .eql (.t 11) (.v (.int .i64 38))), none⟩,
    ⟨some 62, .e (.set (.t 63)) [], none⟩] [0, 1, 2, 11, 62])
  (.cond (.t 62) (.seq (.ops [⟨some 64, .q (.mov (.t 1)), none⟩,
    ⟨some 65, .q (.conv .i64 (.t 64)), none⟩,
    ⟨some 66, .q (.mov (.t 2)), none⟩,
    ⟨some 67, .q (.conv .i64 (.t 66)), none⟩,
    ⟨some 68, .q (.bin .lss (.t 65) (.t 67)), none⟩,
    ⟨some 69, .e (.call 293 [.t 68]) [], none⟩,
    ⟨some 6, .e (.set (.t 69)) [], none⟩] [6])
  (.ret)) (.seq (.ops [⟨some 71, .q (.bin .eql (.t 11) (.v (.int .i64 39))), none⟩,
    ⟨some 70, .e (.set (.t 71)) [], none⟩] [0, 1, 2, 11, 70])
  (.cond (.t 70) (.seq (.ops [⟨some 72, .q (.mov (.t 1)), none⟩,
    ⟨some 73, .q (.mov (.t 2)), none⟩,
    ⟨some 74, .q (.bin .lss (.t 72) (.t 73)), none⟩,
    ⟨some 75, .e (.call 293 [.t 74]) [], none⟩,
    ⟨some 6, .e (.set (.t 75)) [], none⟩] [6])
  (.ret)) (.seq (.ops [⟨some 77, .q (.bin .eql (.t 11) (.v (.int .i64 53))), none⟩,
    ⟨some 76, .e (.set (.t 77)) [], none⟩] [0, 1, 2, 11, 76])
  (.cond (.t 76) (.seq (.ops [⟨some 78, .q (.mov (.t 1)), none⟩,
    ⟨some 79, .q (.mov (.t 2)), none⟩,
    ⟨some 80, .e (.call 294 [.t 78, .t 79]) [], none⟩,
    ⟨some 6, .e (.set (.t 80)) [], none⟩] [6])
  (.ret)) (.seq (.ops [⟨some 82, .q (.bin .eql (.t 11) (.v (.int .i64 51))), none⟩,
    ⟨some 81, .e (.set (.t 82)) [], none⟩] [0, 1, 2, 11, 81])
  (.cond (.t 81) (.seq (.ops [⟨some 83, .q (.mov (.t 1)), none⟩,
    ⟨some 84, .q (.mov (.t 2)), none⟩,
    ⟨some 85, .e (.call 294 [.t 83, .t 84]) [], none⟩,
    ⟨some 86, .q (.mov (.t 1)), none⟩,
    ⟨some 87, .q (.conv .i64 (.t 86)), none⟩,
    ⟨some 88, .q (.bin .lss (.t 87) (.v (.int .i64 0))), none⟩,
    ⟨some 89, .e (.call 293 [.t 88]) [], none⟩,
    ⟨some 90, .q (.mov (.t 2)), none⟩,
    ⟨some 91, .q (.bin .mul (.t 89) (.t 90)), none⟩,
    ⟨some 92, .q (.bin .sub (.t 85) (.t 91)), none⟩,
    ⟨some 93, .q (.mov (.t 2)), none⟩,
    ⟨some 94, .q (.conv .i64 (.t 93)), none⟩,
    ⟨some 95, .q (.bin .lss (.t 94) (.v (.int .i64 0))), none⟩,
    ⟨some 96, .e (.call 293 [.t 95]) [], none⟩,
    ⟨some 97, .q (.mov (.t 1)), none⟩,
    ⟨some 98, .q (.bin .mul (.t 96) (.t 97)), none⟩,
    ⟨some 99, .q (.bin .sub (.t 92) (.t 98)), none⟩,
    ⟨some 6, .e (.set (.t 99)) [], none⟩] [6])
  (.ret)) (.seq (.ops [⟨some 101, .q (.bin .eql (.t 11) (.v (.int .i64 52))), none⟩,
    ⟨some 100, .e (.set (.t 101)) [], none⟩] [0, 1, 2, 11, 100])
  (.cond (.t 100) (.seq (.ops [⟨some 102, .q (.mov (.t 1)), none⟩,
    ⟨some 103, .q (.mov (.t 2)), none⟩,
    ⟨some 104, .e (.call 294 [.t 102, .t 103]) [], none⟩,
    ⟨some 105, .q (.mov (.t 1)), none⟩,
    ⟨some 106, .q (.conv .i64 (.t 105)), none⟩,
    ⟨some 107, .q (.bin .lss (.t 106) (.v (.int .i64 0))), none⟩,
    ⟨some 108, .e (.call 293 [.t 107]) [], none⟩,
    ⟨some 109, .q (.mov (.t 2)), none⟩,
    ⟨some 110, .q (.bin .mul (.t 108) (.t 109)), none⟩,
    ⟨some 111, .q (.bin .sub (.t 104) (.t 110)), none⟩,
    ⟨some 6, .e (.set (.t 111)) [], none⟩] [6])
  (.ret)) (.seq (.seq (.ops [⟨some 113, .q (.bin .eql (.t 11) (.v (.int .i64 54))), none⟩,
    ⟨some 112, .e (.set (.t 113)) [], none⟩] [0, 1, 2, 11, 112])
  (.cond (.t 112) (.skip) (.ops [⟨some 114, .q (.bin .eql (.t 11) (.v (.int .i64 56))), none⟩,
    ⟨some 112, .e (.set (.t 114)) [], none⟩] [0, 1, 2, 112])))
  (.cond (.t 112) (.seq (.ops [⟨some 116, .q (.mov (.t 1)), none⟩,
    ⟨some 117, .q (.conv .i64 (.t 116)), none⟩,
    ⟨some 118, .q (.mov (.t 2)), none⟩,
    ⟨some 119, .q (.conv .i64 (.t 118)), none⟩,
    ⟨some 120, .e (.call 295 [.t 117, .t 119]) [], none⟩,
    ⟨some 115, .q (.mov (.t 120)), none⟩,
    ⟨some 121, .q (.extr 0 (.t 115)), none⟩,
    ⟨some 122, .q (.extr 1 (.t 115)), none⟩,
    ⟨some 7, .e (.set (.t 121)) [], none⟩,
    ⟨some 8, .e (.set (.t 122)) [], none⟩] [0, 7, 8])
  (.seq (.seq (.ops [⟨some 123, .q (.mov (.t 0)), none⟩,
    ⟨some 124, .q (.bin .eql (.t 123) (.v (.int .i64 56))), none⟩] [7, 8, 124])
  (.cond (.t 124) (.seq (.ops [⟨some 125, .q (.mov (.t 8)), none⟩,
    ⟨some 126, .q (.conv .u64 (.t 125)), none⟩,
    ⟨some 6, .e (.set (.t 126)) [], none⟩] [6])
  (.ret)) (.skip)))
  (.seq (.ops [⟨some 127, .q (.mov (.t 7)), none⟩,
    ⟨some 128, .q (.conv .u64 (.t 127)), none⟩,
    ⟨some 6, .e (.set (.t 128)) [], none⟩] [6])
  (.ret)))) (.skip)))))))))))))))))))))))))))))))))
  (.seq (.ops [⟨some 130, .q (.mov (.t 1)), none⟩,
    ⟨some 131, .q (.mov (.t 2)), none⟩,
    ⟨some 132, .e (.call 296 [.t 130, .t 131]) [], none⟩,
    ⟨some 129, .q (.mov (.t 132)), none⟩,
    ⟨some 133, .q (.extr 0 (.t 129)), none⟩,
    ⟨some 134, .q (.extr 1 (.t 129)), none⟩,
    ⟨some 9, .e (.set (.t 133)) [], none⟩,
    ⟨some 10, .e (.set (.t 134)) [], none⟩] [0, 9, 10])
  (.seq (.seq (.ops [⟨some 135, .q (.mov (.t 0)), none⟩,
    ⟨some 136, .q (.bin .eql (.t 135) (.v (.int .i64 57))), none⟩] [9, 10, 136])
  (.cond (.t 136) (.seq (.ops [⟨some 137, .q (.mov (.t 10)), none⟩,
    ⟨some 6, .e (.set (.t 137)) [], none⟩] [6])
  (.ret)) (.skip)))
  (.seq (.ops [⟨some 138, .q (.mov (.t 9)), none⟩,
    ⟨some 6, .e (.set (.t 138)) [], none⟩] [6])
  (.ret))))), [.slot 6]⟩
/-- 'binnacle/word.Sign' -/
def i275 : IFunc := ⟨.seq (.ops [⟨some 4, .e (.set (.v (.int .u64 0))) [], none⟩] [0, 1])
  (.seq (.block 0 (.seq (.ops [⟨some 6, .q (.mov (.t 1)), none⟩,
    ⟨some 7, .q (.bin .leq (.t 6) (.v (.int .i64 0))), none⟩,
    ⟨some 5, .e (.set (.t 7)) [], none⟩] [0, 1, 5])
  (.cond (.t 5) (.seq (.ops [⟨some 4, .e (.set (.v (.int .u64 0))) [], none⟩] [4])
  (.ret)) (.seq (.ops [⟨some 9, .q (.mov (.t 1)), none⟩,
    ⟨some 10, .q (.bin .geq (.t 9) (.v (.int .i64 64))), none⟩,
    ⟨some 8, .e (.set (.t 10)) [], none⟩] [0, 1, 8])
  (.cond (.t 8) (.seq (.ops [⟨some 11, .q (.mov (.t 0)), none⟩,
    ⟨some 4, .e (.set (.t 11)) [], none⟩] [4])
  (.ret)) (.skip))))))
  (.seq (.ops [⟨some 12, .q (.mov (.t 0)), none⟩,
    ⟨some 13, .q (.mov (.t 1)), none⟩,
    ⟨some 14, .q (.bin .sub (.v (.int .i64 64)) (.t 13)), none⟩,
    ⟨some 15, .q (.bin .shl (.t 12) (.t 14)), none⟩,
    ⟨some 16, .q (.conv .i64 (.t 15)), none⟩,
    ⟨some 17, .q (.mov (.t 1)), none⟩,
    ⟨some 18, .q (.bin .sub (.v (.int .i64 64)) (.t 17)), none⟩,
    ⟨some 19, .q (.bin .shr (.t 16) (.t 18)), none⟩,
    ⟨some 20, .q (.conv .u64 (.t 19)), none⟩,
    ⟨some 4, .e (.set (.t 20)) [], none⟩] [4])
  (.ret))), [.slot 4]⟩
/-- 'binnacle/word.Low' -/
def i276 : IFunc := ⟨.seq (.ops [⟨some 4, .e (.set (.v (.int .u64 0))) [], none⟩] [0, 1])
  (.seq (.block 0 (.seq (.ops [⟨some 6, .q (.mov (.t 1)), none⟩,
    ⟨some 7, .q (.bin .leq (.t 6) (.v (.int .i64 0))), none⟩,
    ⟨some 5, .e (.set (.t 7)) [], none⟩] [0, 1, 5])
  (.cond (.t 5) (.seq (.ops [⟨some 4, .e (.set (.v (.int .u64 0))) [], none⟩] [4])
  (.ret)) (.seq (.ops [⟨some 9, .q (.mov (.t 1)), none⟩,
    ⟨some 10, .q (.bin .geq (.t 9) (.v (.int .i64 64))), none⟩,
    ⟨some 8, .e (.set (.t 10)) [], none⟩] [0, 1, 8])
  (.cond (.t 8) (.seq (.ops [⟨some 11, .q (.mov (.t 0)), none⟩,
    ⟨some 4, .e (.set (.t 11)) [], none⟩] [4])
  (.ret)) (.skip))))))
  (.seq (.ops [⟨some 12, .q (.mov (.t 0)), none⟩,
    ⟨some 13, .q (.mov (.t 1)), none⟩,
    ⟨some 14, .q (.bin .shl (.v (.int .u64 1)) (.t 13)), none⟩,
    ⟨some 15, .q (.bin .sub (.t 14) (.v (.int .u64 1))), none⟩,
    ⟨some 16, .q (.bin .and (.t 12) (.t 15)), none⟩,
    ⟨some 4, .e (.set (.t 16)) [], none⟩] [4])
  (.ret))), [.slot 4]⟩
/-- '(*binnacle/front.reader).list' -/
def i284 : IFunc := ⟨.seq (.ops [⟨some 2, .e (.set (.v (.nilslice))) [], none⟩] [0])
  (.seq (.ops [⟨some 3, .e (.set (.v (.nilslice))) [], none⟩] [0, 3])
  (.seq (.seq (.ops [⟨some 4, .q (.mov (.t 0)), none⟩,
    ⟨some 5, .e (.call 71 [.t 4, .v (.str [41])]) [], none⟩] [0, 3, 5])
  (.cond (.t 5) (.seq (.ops [⟨some 2, .e (.set (.v (.nilslice))) [], none⟩] [2])
  (.ret)) (.skip)))
  (.block 0 (.loop [0, 3] (.block 1 (.seq (.ops [⟨some 6, .q (.mov (.t 3)), none⟩,
    ⟨some 7, .q (.mov (.t 0)), none⟩,
    ⟨some 8, .e (.call 221 [.t 7, .v (.int .i64 1)]) [], none⟩,
    ⟨some 9, .e (.bslice 3 1 1 [.int .i64 0] [(0, 1, .t 8)]) [], none⟩,
    ⟨some 10, .e (.append 3 1 8 (.t 6) (.t 9)) [], none⟩,
    ⟨some 3, .e (.set (.t 10)) [], none⟩] [0, 3])
  (.seq (.seq (.ops [⟨some 11, .q (.mov (.t 0)), none⟩,
    ⟨some 12, .e (.call 71 [.t 11, .v (.str [41])]) [], none⟩] [0, 3, 12])
  (.cond (.t 12) (.seq (.ops [⟨some 13, .q (.mov (.t 3)), none⟩,
    ⟨some 2, .e (.set (.t 13)) [], none⟩] [2])
  (.ret)) (.skip)))
  (.ops [⟨some 14, .q (.mov (.t 0)), none⟩,
    ⟨some 15, .e (.call 72 [.t 14, .v (.str [44])]) [], none⟩] [0, 3])))))))), [.slot 2]⟩
/-- '(*binnacle/binnacleref17.Reader).expr' -/
def i291 : IFunc := ⟨.seq (.ops [⟨some 4, .e (.set (.v (.int .i64 0))) [], none⟩] [0, 1])
  (.seq (.ops [⟨some 9, .q (.mov (.t 0)), none⟩,
    ⟨some 10, .e (.call 304 [.t 9]) [], none⟩,
    ⟨some 5, .e (.set (.t 10)) [], none⟩] [0, 1, 5])
  (.seq (.block 0 (.loop [0, 1, 5] (.seq (.seq (.ops [⟨some 11, .q (.mov (.t 0)), none⟩,
    ⟨some 12, .q (.nilc (.t 11)), none⟩,
    ⟨some 13, .q (.addr 4 (.t 12)), none⟩,
    ⟨some 14, .q (.load none (.t 13)), none⟩,
    ⟨some 15, .q (.bin .eql (.t 14) (.v (.int .i64 0))), none⟩] [0, 1, 5, 15])
  (.cond (.t 15) (.skip) (.exit 0)))
  (.block 1 (.seq (.ops [⟨some 16, .q (.mov (.t 0)), none⟩,
    ⟨some 17, .q (.nilc (.t 16)), none⟩,
    ⟨some 18, .q (.addr 0 (.t 17)), none⟩,
    ⟨some 19, .q (.load none (.t 18)), none⟩,
    ⟨some 20, .q (.mov (.t 0)), none⟩,
    ⟨some 21, .q (.nilc (.t 20)), none⟩,
    ⟨some 22, .q (.addr 1 (.t 21)), none⟩,
    ⟨some 23, .q (.load none (.t 22)), none⟩,
    ⟨some 24, .q (.ixSl 4 (.t 19) (.t 23)), none⟩,
    ⟨some 25, .q (.load (some 4) (.t 24)), none⟩,
    ⟨some 6, .e (.alloc 56 [.int .i64 0, .int .i64 0, .str [], .int .i64 0]) [], none⟩,
    ⟨none, .e (.store 4 (.t 6) (.t 25)) [], none⟩] [0, 1, 5, 6])
  (.seq (.ops [⟨some 7, .e (.set (.v (.int .i64 0))) [], none⟩] [0, 1, 5, 6, 7])
  (.seq (.seq (.ops [⟨some 26, .q (.addr 0 (.t 6)), none⟩,
    ⟨some 27, .q (.load none (.t 26)), none⟩,
    ⟨some 28, .q (.bin .eql (.t 27) (.v (.int .i64 5))), none⟩] [0, 1, 5, 6, 7, 28])
  (.cond (.t 28) (.ops [⟨some 29, .q (.addr 2 (.t 6)), none⟩,
    ⟨some 30, .q (.load none (.t 29)), none⟩,
    ⟨some 31, .e (.call 305 [.t 30]) [], none⟩,
    ⟨some 7, .e (.set (.t 31)) [], none⟩] [0, 1, 5, 7]) (.skip)))
  (.seq (.seq (.ops [⟨some 32, .q (.mov (.t 7)), none⟩,
    ⟨some 33, .q (.bin .eql (.t 32) (.v (.int .i64 0))), none⟩,
    ⟨some 34, .q (.mov (.t 33)), none⟩,
    ⟨some 35, .q (.mov (.t 7)), some (34, false)⟩,
    ⟨some 36, .e (.call 235 [.t 35]) [], some (34, false)⟩,
    ⟨some 37, .q (.mov (.t 1)), some (34, false)⟩,
    ⟨some 38, .q (.bin .lss (.t 36) (.t 37)), some (34, false)⟩,
    ⟨some 39, .q (.pick (.t 34) (.v (.bool true)) (.t 38)), none⟩] [0, 1, 5, 7, 39])
  (.cond (.t 39) (.exit 0) (.skip)))
  (.seq (.ops [⟨some 40, .q (.mov (.t 0)), none⟩,
    ⟨some 41, .e (.call 190 [.t 40]) [], none⟩] [0, 1, 5, 7])
  (.seq (.ops [⟨some 42, .q (.mov (.t 0)), none⟩,
    ⟨some 43, .q (.mov (.t 7)), none⟩,
    ⟨some 44, .e (.call 235 [.t 43]) [], none⟩,
    ⟨some 45, .q (.bin .add (.t 44) (.v (.int .i64 1))), none⟩,
    ⟨some 46, .e (.call 291 [.t 42, .t 45]) [], none⟩,
    ⟨some 8, .e (.set (.t 46)) [], none⟩] [0, 1, 5, 7, 8])
  (.ops [⟨some 47, .q (.mov (.t 0)), none⟩,
    ⟨some 48, .q (.mov (.t 0)), none⟩,
    ⟨some 49, .q (.mov (.t 5)), none⟩,
    ⟨some 50, .e (.call 292 [.t 48, .t 49]) [], none⟩,
    ⟨some 51, .q (.mov (.t 7)), none⟩,
    ⟨some 52, .q (.mov (.t 5)), none⟩,
    ⟨some 53, .q (.mov (.t 8)), none⟩,
    ⟨some 54, .e (.bslice 3 1 2 [.int .i64 0] [(0, 1, .t 52), (1, 1, .t 53)]) [], none⟩,
    ⟨some 55, .q (.build [.int .i64 0, .int .i64 0, .str [], .int .i64 0, .int .i64 0, .nilslice] [(0, 1, .v (.int .i64 7)), (1, 1, .t 50), (3, 1, .t 51), (5, 1, .t 54)]), none⟩,
    ⟨some 56, .e (.call 85 [.t 47, .t 55]) [], none⟩,
    ⟨some 5, .e (.set (.t 56)) [], none⟩] [0, 1, 5])))))))))))
  (.seq (.ops [⟨some 57, .q (.mov (.t 5)), none⟩,
    ⟨some 4, .e (.set (.t 57)) [], none⟩] [4])
  (.ret)))), [.slot 4]⟩
/-- '(*binnacle/binnacleref17.Reader).at' -/
def i292 : IFunc := ⟨.seq (.ops [⟨some 4, .e (.set (.v (.int .i64 0))) [], none⟩] [0, 1])
  (.seq (.seq (.ops [⟨some 5, .q (.mov (.t 1)), none⟩,
    ⟨some 6, .q (.bin .lss (.t 5) (.v (.int .i64 0))), none⟩,
    ⟨some 7, .q (.mov (.t 6)), none⟩,
    ⟨some 8, .q (.mov (.t 1)), some (7, false)⟩,
    ⟨some 9, .q (.mov (.t 0)), some (7, false)⟩,
    ⟨some 10, .q (.nilc (.t 9)), some (7, false)⟩,
    ⟨some 11, .q (.addr 2 (.t 10)), some (7, false)⟩,
    ⟨some 12, .q (.load none (.t 11)), some (7, false)⟩,
    ⟨some 13, .q (.len .slice (.t 12)), some (7, false)⟩,
    ⟨some 14, .q (.bin .geq (.t 8) (.t 13)), some (7, false)⟩,
    ⟨some 15, .q (.pick (.t 7) (.v (.bool true)) (.t 14)), none⟩] [0, 1, 15])
  (.cond (.t 15) (.seq (.ops [⟨some 4, .e (.set (.v (.int .i64 0))) [], none⟩] [4])
  (.ret)) (.skip)))
  (.seq (.ops [⟨some 16, .q (.mov (.t 0)), none⟩,
    ⟨some 17, .q (.nilc (.t 16)), none⟩,
    ⟨some 18, .q (.addr 2 (.t 17)), none⟩,
    ⟨some 19, .q (.load none (.t 18)), none⟩,
    ⟨some 20, .q (.mov (.t 1)), none⟩,
    ⟨some 21, .q (.ixSl 6 (.t 19) (.t 20)), none⟩,
    ⟨some 22, .q (.addr 1 (.t 21)), none⟩,
    ⟨some 23, .q (.load none (.t 22)), none⟩,
    ⟨some 4, .e (.set (.t 23)) [], none⟩] [4])
  (.ret))), [.slot 4]⟩
/-- 'binnacle/word.truth' -/
def i293 : IFunc := ⟨.seq (.ops [⟨some 2, .e (.set (.v (.int .u64 0))) [], none⟩] [0])
  (.seq (.seq (.ops [⟨some 3, .q (.mov (.t 0)), none⟩] [3])
  (.cond (.t 3) (.seq (.ops [⟨some 2, .e (.set (.v (.int .u64 1))) [], none⟩] [2])
  (.ret)) (.skip)))
  (.seq (.ops [⟨some 2, .e (.set (.v (.int .u64 0))) [], none⟩] [2])
  (.ret))), [.slot 2]⟩
/-- 'binnacle/word.high' -/
def i294 : IFunc := ⟨.seq (.ops [⟨some 4, .e (.set (.v (.int .u64 0))) [], none⟩] [0, 1])
  (.seq (.ops [⟨some 5, .e (.set (.f 306)) [], none⟩] [0, 1, 5])
  (.seq (.ops [⟨some 9, .q (.mov (.t 5)), none⟩,
    ⟨some 10, .q (.mov (.t 0)), none⟩,
    ⟨some 11, .q (.mov (.t 1)), none⟩,
    ⟨some 12, .e (.callv (.t 9) [.t 10, .t 11]) [], none⟩,
    ⟨some 6, .e (.set (.t 12)) [], none⟩] [0, 1, 5, 6])
  (.seq (.ops [⟨some 13, .q (.mov (.t 5)), none⟩,
    ⟨some 14, .q (.mov (.t 0)), none⟩,
    ⟨some 15, .q (.bin .shr (.t 14) (.v (.int .u64 32))), none⟩,
    ⟨some 16, .q (.mov (.t 1)), none⟩,
    ⟨some 17, .e (.callv (.t 13) [.t 15, .t 16]) [], none⟩,
    ⟨some 18, .q (.mov (.t 6)), none⟩,
    ⟨some 19, .q (.bin .shr (.t 18) (.v (.int .u64 32))), none⟩,
    ⟨some 20, .q (.bin .add (.t 17) (.t 19)), none⟩,
    ⟨some 7, .e (.set (.t 20)) [], none⟩] [0, 1, 5, 7])
  (.seq (.ops [⟨some 21, .q (.mov (.t 5)), none⟩,
    ⟨some 22, .q (.mov (.t 0)), none⟩,
    ⟨some 23, .q (.mov (.t 1)), none⟩,
    ⟨some 24, .q (.bin .shr (.t 23) (.v (.int .u64 32))), none⟩,
    ⟨some 25, .e (.callv (.t 21) [.t 22, .t 24]) [], none⟩,
    ⟨some 26, .q (.mov (.t 7)), none⟩,
    ⟨some 27, .q (.bin .and (.t 26) (.v (.int .u64 4294967295))), none⟩,
    ⟨some 28, .q (.bin .add (.t 25) (.t 27)), none⟩,
    ⟨some 8, .e (.set (.t 28)) [], none⟩] [0, 1, 5, 7, 8])
  (.seq (.ops [⟨some 29, .q (.mov (.t 5)), none⟩,
    ⟨some 30, .q (.mov (.t 0)), none⟩,
    ⟨some 31, .q (.bin .shr (.t 30) (.v (.int .u64 32))), none⟩,
    ⟨some 32, .q (.mov (.t 1)), none⟩,
    ⟨some 33, .q (.bin .shr (.t 32) (.v (.int .u64 32))), none⟩,
    ⟨some 34, .e (.callv (.t 29) [.t 31, .t 33]) [], none⟩,
    ⟨some 35, .q (.mov (.t 7)), none⟩,
    ⟨some 36, .q (.bin .shr (.t 35) (.v (.int .u64 32))), none⟩,
    ⟨some 37, .q (.bin .add (.t 34) (.t 36)), none⟩,
    ⟨some 38, .q (.mov (.t 8)), none⟩,
    ⟨some 39, .q (.bin .shr (.t 38) (.v (.int .u64 32))), none⟩,
    ⟨some 40, .q (.bin .add (.t 37) (.t 39)), none⟩,
    ⟨some 4, .e (.set (.t 40)) [], none⟩] [4])
  (.ret)))))), [.slot 4]⟩
/-- 'binnacle/word.divides' -/
def i295 : IFunc := ⟨.seq (.ops [⟨some 4, .e (.set (.v (.int .i64 0))) [], none⟩,
    ⟨some 5, .e (.set (.v (.int .i64 0))) [], none⟩] [0, 1])
  (.seq (.block 0 (.seq (.ops [⟨some 7, .q (.mov (.t 1)), none⟩,
    ⟨some 8, .q (.bin .eql (.t 7) (.v (.int .i64 0))), none⟩,
    ⟨some 6, .e (.set (.t 8)) [], none⟩] [0, 1, 6])
  (.cond (.t 6) (.seq (.ops [⟨some 9, .q (.mov (.t 0)), none⟩,
    ⟨some 4, .e (.set (.v (.int .i64 (-1)))) [], none⟩,
    ⟨some 5, .e (.set (.t 9)) [], none⟩] [4, 5])
  (.ret)) (.seq (.ops [⟨some 11, .q (.mov (.t 1)), none⟩,
    ⟨some 12, .q (.bin .eql (.t 11) (.v (.int .i64 (-1)))), none⟩,
    ⟨some 10, .e (.set (.t 12)) [], none⟩] [0, 1, 10])
  (.cond (.t 10) (.seq (.ops [⟨some 13, .q (.mov (.t 0)), none⟩,
    ⟨some 14, .q (.un .neg (.t 13)), none⟩,
    ⟨some 4, .e (.set (.t 14)) [], none⟩,
    ⟨some 5, .e (.set (.v (.int .i64 0))) [], none⟩] [4, 5])
  (.ret)) (.skip))))))
  (.seq (.ops [⟨some 15, .q (.mov (.t 0)), none⟩,
    ⟨some 16, .q (.mov (.t 1)), none⟩,
    ⟨some 17, .q (.bin .quo (.t 15) (.t 16)), none⟩,
    ⟨some 18, .q (.mov (.t 0)), none⟩,
    ⟨some 19, .q (.mov (.t 1)), none⟩,
    ⟨some 20, .q (.bin .rem (.t 18) (.t 19)), none⟩,
    ⟨some 4, .e (.set (.t 17)) [], none⟩,
    ⟨some 5, .e (.set (.t 20)) [], none⟩] [4, 5])
  (.ret))), [.slot 4, .slot 5]⟩
/-- 'binnacle/word.plainly' -/
def i296 : IFunc := ⟨.seq (.ops [⟨some 4, .e (.set (.v (.int .u64 0))) [], none⟩,
    ⟨some 5, .e (.set (.v (.int .u64 0))) [], none⟩] [0, 1])
  (.seq (.seq (.ops [⟨some 6, .q (.mov (.t 1)), none⟩,
    ⟨some 7, .q (.bin .eql (.t 6) (.v (.int .u64 0))), none⟩] [0, 1, 7])
  (.cond (.t 7) (.seq (.ops [⟨some 8, .q (.mov (.t 0)), none⟩,
    ⟨some 4, .e (.set (.v (.int .u64 18446744073709551615))) [], none⟩,
    ⟨some 5, .e (.set (.t 8)) [], none⟩] [4, 5])
  (.ret)) (.skip)))
  (.seq (.ops [⟨some 9, .q (.mov (.t 0)), none⟩,
    ⟨some 10, .q (.mov (.t 1)), none⟩,
    ⟨some 11, .q (.bin .quo (.t 9) (.t 10)), none⟩,
    ⟨some 12, .q (.mov (.t 0)), none⟩,
    ⟨some 13, .q (.mov (.t 1)), none⟩,
    ⟨some 14, .q (.bin .rem (.t 12) (.t 13)), none⟩,
    ⟨some 4, .e (.set (.t 11)) [], none⟩,
    ⟨some 5, .e (.set (.t 14)) [], none⟩] [4, 5])
  (.ret))), [.slot 4, .slot 5]⟩
/-- '(*binnacle/binnacleref17.Reader).operand' -/
def i304 : IFunc := ⟨.seq (.ops [⟨some 2, .e (.set (.v (.int .i64 0))) [], none⟩] [0])
  (.seq (.ops [⟨some 4, .q (.mov (.t 0)), none⟩,
    ⟨some 5, .e (.call 258 [.t 4]) [], none⟩] [0])
  (.seq (.ops [⟨some 6, .q (.mov (.t 0)), none⟩,
    ⟨some 7, .e (.call 316 [.t 6]) [], none⟩,
    ⟨some 3, .e (.set (.t 7)) [], none⟩] [0, 3])
  (.seq (.ops [⟨some 8, .q (.mov (.t 0)), none⟩,
    ⟨some 9, .q (.nilc (.t 8)), none⟩,
    ⟨some 10, .q (.addr 3 (.t 9)), none⟩,
    ⟨some 11, .q (.load none (.t 10)), none⟩,
    ⟨some 12, .q (.bin .sub (.t 11) (.v (.int .i64 1))), none⟩,
    ⟨some 13, .q (.nilc (.t 8)), none⟩,
    ⟨some 14, .q (.addr 3 (.t 13)), none⟩,
    ⟨none, .e (.store 1 (.t 14) (.t 12)) [], none⟩] [3])
  (.seq (.ops [⟨some 15, .q (.mov (.t 3)), none⟩,
    ⟨some 2, .e (.set (.t 15)) [], none⟩] [2])
  (.ret))))), [.slot 2]⟩
/-- 'binnacle/binnacleref17.Binary' -/
def i305 : IFunc := ⟨.seq (.ops [⟨some 2, .e (.set (.v (.int .i64 0))) [], none⟩] [0])
  (.seq (.ops [⟨some 5, .e (.bslice 9 1 18 [.str []] [(0, 1, .v (.str [42])), (1, 1, .v (.str [47])), (2, 1, .v (.str [37])), (3, 1, .v (.str [43])), (4, 1, .v (.str [45])), (5, 1, .v (.str [60, 60])), (6, 1, .v (.str [62, 62])), (7, 1, .v (.str [60])), (8, 1, .v (.str [60, 61])), (9, 1, .v (.str [62])), (10, 1, .v (.str [62, 61])), (11, 1, .v (.str [61, 61])), (12, 1, .v (.str [33, 61])), (13, 1, .v (.str [38])), (14, 1, .v (.str [94])), (15, 1, .v (.str [124])), (16, 1, .v (.str [38, 38])), (17, 1, .v (.str [124, 124]))]) [], none⟩,
    ⟨some 3, .e (.set (.t 5)) [], none⟩] [0, 3])
  (.seq (.seq (.ops [⟨some 4, .e (.set (.v (.int .i64 0))) [], none⟩] [0, 3, 4])
  (.block 0 (.loop [0, 3, 4] (.seq (.seq (.ops [⟨some 6, .q (.mov (.t 4)), none⟩,
    ⟨some 7, .q (.mov (.t 3)), none⟩,
    ⟨some 8, .q (.len .slice (.t 7)), none⟩,
    ⟨some 9, .q (.bin .lss (.t 6) (.t 8)), none⟩] [0, 3, 4, 9])
  (.cond (.t 9) (.skip) (.exit 0)))
  (.seq (.block 1 (.seq (.ops [⟨some 12, .q (.mov (.t 3)), none⟩,
    ⟨some 13, .q (.mov (.t 4)), none⟩,
    ⟨some 14, .q (.ixSl 1 (.t 12) (.t 13)), none⟩,
    ⟨some 15, .q (.load none (.t 14)), none⟩,
    ⟨some 16, .q (.mov (.t 0)), none⟩,
    ⟨some 17, .q (.bin .eql (.t 15) (.t 16)), none⟩] [0, 3, 4, 17])
  (.cond (.t 17) (.seq (.ops [⟨some 18, .q (.mov (.t 4)), none⟩,
    ⟨some 19, .q (.bin .add (.v (.int .i64 4)) (.t 18)), none⟩,
    ⟨some 2, .e (.set (.t 19)) [], none⟩] [2])
  (.ret)) (.skip))))
  (.ops [⟨some 10, .q (.mov (.t 4)), none⟩,
    ⟨some 11, .q (.bin .add (.t 10) (.v (.int .i64 1))), none⟩,
    ⟨some 4, .e (.set (.t 11)) [], none⟩] [0, 3, 4]))))))
  (.seq (.ops [⟨some 2, .e (.set (.v (.int .i64 0))) [], none⟩] [2])
  (.ret)))), [.slot 2]⟩
/-- 'binnacle/word.high$1' -/
def i306 : IFunc := ⟨.seq (.ops [⟨some 4, .e (.set (.v (.int .u64 0))) [], none⟩] [0, 1])
  (.seq (.ops [⟨some 5, .q (.mov (.t 0)), none⟩,
    ⟨some 6, .q (.bin .and (.t 5) (.v (.int .u64 4294967295))), none⟩,
    ⟨some 7, .q (.mov (.t 1)), none⟩,
    ⟨some 8, .q (.bin .and (.t 7) (.v (.int .u64 4294967295))), none⟩,
    ⟨some 9, .q (.bin .mul (.t 6) (.t 8)), none⟩,
    ⟨some 4, .e (.set (.t 9)) [], none⟩] [4])
  (.ret)), [.slot 4]⟩
/-- '(*binnacle/binnacleref17.Reader).inner' -/
def i316 : IFunc := ⟨.seq (.ops [⟨some 2, .e (.set (.v (.int .i64 0))) [], none⟩] [0])
  (.seq (.seq (.ops [⟨some 10, .q (.mov (.t 0)), none⟩,
    ⟨some 11, .q (.nilc (.t 10)), none⟩,
    ⟨some 12, .q (.addr 4 (.t 11)), none⟩,
    ⟨some 13, .q (.load none (.t 12)), none⟩,
    ⟨some 14, .q (.bin .neq (.t 13) (.v (.int .i64 0))), none⟩] [0, 14])
  (.cond (.t 14) (.seq (.ops [⟨some 2, .e (.set (.v (.int .i64 0))) [], none⟩] [2])
  (.ret)) (.skip)))
  (.seq (.ops [⟨some 15, .q (.mov (.t 0)), none⟩,
    ⟨some 16, .q (.nilc (.t 15)), none⟩,
    ⟨some 17, .q (.addr 0 (.t 16)), none⟩,
    ⟨some 18, .q (.load none (.t 17)), none⟩,
    ⟨some 19, .q (.mov (.t 0)), none⟩,
    ⟨some 20, .q (.nilc (.t 19)), none⟩,
    ⟨some 21, .q (.addr 1 (.t 20)), none⟩,
    ⟨some 22, .q (.load none (.t 21)), none⟩,
    ⟨some 23, .q (.ixSl 4 (.t 18) (.t 22)), none⟩,
    ⟨some 24, .q (.addr 1 (.t 23)), none⟩,
    ⟨some 25, .q (.load none (.t 24)), none⟩,
    ⟨some 3, .e (.set (.t 25)) [], none⟩] [0, 3])
  (.seq (.ops [⟨some 26, .e (.bslice 9 1 3 [.str []] [(0, 1, .v (.str [45])), (1, 1, .v (.str [33])), (2, 1, .v (.str [126]))]) [], none⟩,
    ⟨some 4, .e (.set (.t 26)) [], none⟩] [0, 3, 4])
  (.seq (.seq (.ops [⟨some 5, .e (.set (.v (.int .i64 0))) [], none⟩] [0, 3, 4, 5])
  (.block 0 (.loop [0, 3, 4, 5] (.seq (.seq (.ops [⟨some 27, .q (.mov (.t 5)), none⟩,
    ⟨some 28, .q (.bin .lss (.t 27) (.v (.int .i64 3))), none⟩] [0, 3, 4, 5, 28])
  (.cond (.t 28) (.skip) (.exit 0)))
  (.seq (.block 1 (.seq (.ops [⟨some 31, .q (.mov (.t 0)), none⟩,
    ⟨some 32, .q (.mov (.t 4)), none⟩,
    ⟨some 33, .q (.mov (.t 5)), none⟩,
    ⟨some 34, .q (.ixSl 1 (.t 32) (.t 33)), none⟩,
    ⟨some 35, .q (.load none (.t 34)), none⟩,
    ⟨some 36, .e (.call 140 [.t 31, .t 35]) [], none⟩,
    ⟨some 6, .e (.set (.t 36)) [], none⟩] [0, 3, 4, 5, 6])
  (.seq (.ops [⟨some 37, .q (.mov (.t 6)), none⟩] [0, 3, 4, 5, 37])
  (.cond (.t 37) (.seq (.ops [⟨some 38, .q (.mov (.t 0)), none⟩,
    ⟨some 39, .e (.call 304 [.t 38]) [], none⟩,
    ⟨some 7, .e (.set (.t 39)) [], none⟩] [0, 3, 5, 7])
  (.seq (.ops [⟨some 40, .q (.mov (.t 0)), none⟩,
    ⟨some 41, .q (.mov (.t 3)), none⟩,
    ⟨some 42, .q (.mov (.t 5)), none⟩,
    ⟨some 43, .q (.bin .add (.t 42) (.v (.int .i64 1))), none⟩,
    ⟨some 44, .q (.mov (.t 7)), none⟩,
    ⟨some 45, .e (.bslice 3 1 1 [.int .i64 0] [(0, 1, .t 44)]) [], none⟩,
    ⟨some 46, .q (.build [.int .i64 0, .int .i64 0, .str [], .int .i64 0, .int .i64 0, .nilslice] [(0, 1, .v (.int .i64 6)), (1, 1, .t 41), (3, 1, .t 43), (5, 1, .t 45)]), none⟩,
    ⟨some 47, .e (.call 85 [.t 40, .t 46]) [], none⟩,
    ⟨some 2, .e (.set (.t 47)) [], none⟩] [2])
  (.ret))) (.skip)))))
  (.ops [⟨some 29, .q (.mov (.t 5)), none⟩,
    ⟨some 30, .q (.bin .add (.t 29) (.v (.int .i64 1))), none⟩,
    ⟨some 5, .e (.set (.t 30)) [], none⟩] [0, 3, 4, 5]))))))
  (.seq (.ops [⟨some 48, .q (.mov (.t 0)), none⟩,
    ⟨some 49, .e (.call 324 [.t 48]) [], none⟩,
    ⟨some 8, .e (.set (.t 49)) [], none⟩] [0, 8])
  (.seq (.block 2 (.loop [0, 8] (.seq (.seq (.ops [⟨some 50, .q (.mov (.t 0)), none⟩,
    ⟨some 51, .e (.call 140 [.t 50, .v (.str [91])]) [], none⟩] [0, 8, 51])
  (.cond (.t 51) (.skip) (.exit 2)))
  (.block 3 (.seq (.ops [⟨some 52, .q (.mov (.t 0)), none⟩,
    ⟨some 53, .e (.call 291 [.t 52, .v (.int .i64 1)]) [], none⟩,
    ⟨some 9, .e (.set (.t 53)) [], none⟩] [0, 8, 9])
  (.seq (.ops [⟨some 54, .q (.mov (.t 0)), none⟩,
    ⟨some 55, .e (.call 141 [.t 54, .v (.str [93])]) [], none⟩] [0, 8, 9])
  (.ops [⟨some 56, .q (.mov (.t 0)), none⟩,
    ⟨some 57, .q (.mov (.t 0)), none⟩,
    ⟨some 58, .q (.mov (.t 8)), none⟩,
    ⟨some 59, .e (.call 292 [.t 57, .t 58]) [], none⟩,
    ⟨some 60, .q (.mov (.t 8)), none⟩,
    ⟨some 61, .q (.mov (.t 9)), none⟩,
    ⟨some 62, .e (.bslice 3 1 2 [.int .i64 0] [(0, 1, .t 60), (1, 1, .t 61)]) [], none⟩,
    ⟨some 63, .q (.build [.int .i64 0, .int .i64 0, .str [], .int .i64 0, .int .i64 0, .nilslice] [(0, 1, .v (.int .i64 5)), (1, 1, .t 59), (5, 1, .t 62)]), none⟩,
    ⟨some 64, .e (.call 85 [.t 56, .t 63]) [], none⟩,
    ⟨some 8, .e (.set (.t 64)) [], none⟩] [0, 8])))))))
  (.seq (.ops [⟨some 65, .q (.mov (.t 8)), none⟩,
    ⟨some 2, .e (.set (.t 65)) [], none⟩] [2])
  (.ret)))))))), [.slot 2]⟩
/-- '(*binnacle/binnacleref17.Reader).primary' -/
def i324 : IFunc := ⟨.seq (.ops [⟨some 2, .e (.set (.v (.int .i64 0))) [], none⟩] [0])
  (.seq (.ops [⟨some 8, .q (.mov (.t 0)), none⟩,
    ⟨some 9, .q (.nilc (.t 8)), none⟩,
    ⟨some 10, .q (.addr 0 (.t 9)), none⟩,
    ⟨some 11, .q (.load none (.t 10)), none⟩,
    ⟨some 12, .q (.mov (.t 0)), none⟩,
    ⟨some 13, .q (.nilc (.t 12)), none⟩,
    ⟨some 14, .q (.addr 1 (.t 13)), none⟩,
    ⟨some 15, .q (.load none (.t 14)), none⟩,
    ⟨some 16, .q (.ixSl 4 (.t 11) (.t 15)), none⟩,
    ⟨some 17, .q (.load (some 4) (.t 16)), none⟩,
    ⟨some 3, .e (.alloc 56 [.int .i64 0, .int .i64 0, .str [], .int .i64 0]) [], none⟩,
    ⟨none, .e (.store 4 (.t 3) (.t 17)) [], none⟩] [0, 3])
  (.seq (.seq (.ops [⟨some 18, .q (.addr 0 (.t 3)), none⟩,
    ⟨some 19, .q (.load none (.t 18)), none⟩] [0, 3, 19])
  (.block 0 (.seq (.ops [⟨some 21, .q (.bin .eql (.t 19) (.v (.int .i64 3))), none⟩,
    ⟨some 20, .e (.set (.t 21)) [], none⟩] [0, 3, 19, 20])
  (.cond (.t 20) (.seq (.ops [⟨some 22, .q (.mov (.t 0)), none⟩,
    ⟨some 23, .e (.call 190 [.t 22]) [], none⟩] [0, 3])
  (.seq (.ops [⟨some 24, .q (.mov (.t 0)), none⟩,
    ⟨some 25, .q (.addr 1 (.t 3)), none⟩,
    ⟨some 26, .q (.load none (.t 25)), none⟩,
    ⟨some 27, .q (.addr 3 (.t 3)), none⟩,
    ⟨some 28, .q (.load none (.t 27)), none⟩,
    ⟨some 29, .q (.build [.int .i64 0, .int .i64 0, .str [], .int .i64 0, .int .i64 0, .nilslice] [(0, 1, .v (.int .i64 1)), (1, 1, .t 26), (3, 1, .t 28)]), none⟩,
    ⟨some 30, .e (.call 85 [.t 24, .t 29]) [], none⟩,
    ⟨some 2, .e (.set (.t 30)) [], none⟩] [2])
  (.ret))) (.seq (.ops [⟨some 32, .q (.bin .eql (.t 19) (.v (.int .i64 4))), none⟩,
    ⟨some 31, .e (.set (.t 32)) [], none⟩] [0, 3, 19, 31])
  (.cond (.t 31) (.seq (.ops [⟨some 33, .q (.mov (.t 0)), none⟩,
    ⟨some 34, .e (.call 190 [.t 33]) [], none⟩] [0, 3])
  (.seq (.ops [⟨some 35, .q (.mov (.t 0)), none⟩,
    ⟨some 36, .q (.addr 1 (.t 3)), none⟩,
    ⟨some 37, .q (.load none (.t 36)), none⟩,
    ⟨some 38, .q (.addr 2 (.t 3)), none⟩,
    ⟨some 39, .q (.load none (.t 38)), none⟩,
    ⟨some 40, .q (.build [.int .i64 0, .int .i64 0, .str [], .int .i64 0, .int .i64 0, .nilslice] [(0, 1, .v (.int .i64 2)), (1, 1, .t 37), (2, 1, .t 39)]), none⟩,
    ⟨some 41, .e (.call 85 [.t 35, .t 40]) [], none⟩,
    ⟨some 2, .e (.set (.t 41)) [], none⟩] [2])
  (.ret))) (.seq (.ops [⟨some 43, .q (.bin .eql (.t 19) (.v (.int .i64 1))), none⟩,
    ⟨some 42, .e (.set (.t 43)) [], none⟩] [0, 3, 42])
  (.cond (.t 42) (.seq (.ops [⟨some 44, .q (.mov (.t 0)), none⟩,
    ⟨some 45, .e (.call 190 [.t 44]) [], none⟩] [0, 3])
  (.seq (.ops [⟨some 46, .q (.mov (.t 0)), none⟩,
    ⟨some 47, .e (.call 140 [.t 46, .v (.str [40])]) [], none⟩,
    ⟨some 4, .e (.set (.t 47)) [], none⟩] [0, 3, 4])
  (.seq (.seq (.ops [⟨some 48, .q (.mov (.t 4)), none⟩,
    ⟨some 49, .q (.un .not (.t 48)), none⟩] [0, 3, 49])
  (.cond (.t 49) (.seq (.ops [⟨some 50, .q (.mov (.t 0)), none⟩,
    ⟨some 51, .q (.addr 1 (.t 3)), none⟩,
    ⟨some 52, .q (.load none (.t 51)), none⟩,
    ⟨some 53, .q (.addr 2 (.t 3)), none⟩,
    ⟨some 54, .q (.load none (.t 53)), none⟩,
    ⟨some 55, .q (.build [.int .i64 0, .int .i64 0, .str [], .int .i64 0, .int .i64 0, .nilslice] [(0, 1, .v (.int .i64 3)), (1, 1, .t 52), (2, 1, .t 54)]), none⟩,
    ⟨some 56, .e (.call 85 [.t 50, .t 55]) [], none⟩,
    ⟨some 2, .e (.set (.t 56)) [], none⟩] [2])
  (.ret)) (.skip)))
  (.seq (.ops [⟨some 5, .e (.set (.v (.nilslice))) [], none⟩] [0, 3, 5])
  (.seq (.ops [⟨some 57, .q (.mov (.t 0)), none⟩,
    ⟨some 58, .e (.call 140 [.t 57, .v (.str [41])]) [], none⟩,
    ⟨some 6, .e (.set (.t 58)) [], none⟩] [0, 3, 5, 6])
  (.seq (.block 1 (.loop [0, 3, 5, 6] (.seq (.seq (.ops [⟨some 59, .q (.mov (.t 6)), none⟩,
    ⟨some 60, .q (.un .not (.t 59)), none⟩,
    ⟨some 61, .q (.mov (.t 60)), none⟩,
    ⟨some 62, .q (.mov (.t 0)), some (61, true)⟩,
    ⟨some 63, .q (.nilc (.t 62)), some (61, true)⟩,
    ⟨some 64, .q (.addr 4 (.t 63)), some (61, true)⟩,
    ⟨some 65, .q (.load none (.t 64)), some (61, true)⟩,
    ⟨some 66, .q (.bin .eql (.t 65) (.v (.int .i64 0))), some (61, true)⟩,
    ⟨some 67, .q (.pick (.t 61) (.t 66) (.v (.bool false))), none⟩] [0, 3, 5, 67])
  (.cond (.t 67) (.skip) (.exit 1)))
  (.block 2 (.seq (.ops [⟨some 68, .q (.mov (.t 5)), none⟩,
    ⟨some 69, .q (.mov (.t 0)), none⟩,
    ⟨some 70, .e (.call 291 [.t 69, .v (.int .i64 1)]) [], none⟩,
    ⟨some 71, .e (.bslice 3 1 1 [.int .i64 0] [(0, 1, .t 70)]) [], none⟩,
    ⟨some 72, .e (.append 3 1 8 (.t 68) (.t 71)) [], none⟩,
    ⟨some 5, .e (.set (.t 72)) [], none⟩] [0, 3, 5])
  (.seq (.ops [⟨some 73, .q (.mov (.t 0)), none⟩,
    ⟨some 74, .e (.call 140 [.t 73, .v (.str [41])]) [], none⟩,
    ⟨some 6, .e (.set (.t 74)) [], none⟩] [0, 3, 5, 6])
  (.seq (.ops [⟨some 75, .q (.mov (.t 6)), none⟩,
    ⟨some 76, .q (.un .not (.t 75)), none⟩] [0, 3, 5, 6, 76])
  (.cond (.t 76) (.ops [⟨some 77, .q (.mov (.t 0)), none⟩,
    ⟨some 78, .e (.call 141 [.t 77, .v (.str [44])]) [], none⟩] [0, 3, 5, 6]) (.skip)))))))))
  (.seq (.ops [⟨some 79, .q (.mov (.t 0)), none⟩,
    ⟨some 80, .q (.addr 1 (.t 3)), none⟩,
    ⟨some 81, .q (.load none (.t 80)), none⟩,
    ⟨some 82, .q (.addr 2 (.t 3)), none⟩,
    ⟨some 83, .q (.load none (.t 82)), none⟩,
    ⟨some 84, .q (.mov (.t 5)), none⟩,
    ⟨some 85, .q (.build [.int .i64 0, .int .i64 0, .str [], .int .i64 0, .int .i64 0, .nilslice] [(0, 1, .v (.int .i64 4)), (1, 1, .t 81), (2, 1, .t 83), (5, 1, .t 84)]), none⟩,
    ⟨some 86, .e (.call 85 [.t 79, .t 85]) [], none⟩,
    ⟨some 2, .e (.set (.t 86)) [], none⟩] [2])
  (.ret)))))))) (.skip)))))))))
  (.seq (.ops [⟨some 87, .q (.mov (.t 0)), none⟩,
    ⟨some 88, .e (.call 141 [.t 87, .v (.str [40])]) [], none⟩] [0])
  (.seq (.seq (.ops [⟨some 89, .q (.mov (.t 0)), none⟩,
    ⟨some 90, .q (.nilc (.t 89)), none⟩,
    ⟨some 91, .q (.addr 4 (.t 90)), none⟩,
    ⟨some 92, .q (.load none (.t 91)), none⟩,
    ⟨some 93, .q (.bin .neq (.t 92) (.v (.int .i64 0))), none⟩] [0, 93])
  (.cond (.t 93) (.seq (.ops [⟨some 2, .e (.set (.v (.int .i64 0))) [], none⟩] [2])
  (.ret)) (.skip)))
  (.seq (.ops [⟨some 94, .q (.mov (.t 0)), none⟩,
    ⟨some 95, .e (.call 291 [.t 94, .v (.int .i64 1)]) [], none⟩,
    ⟨some 7, .e (.set (.t 95)) [], none⟩] [0, 7])
  (.seq (.ops [⟨some 96, .q (.mov (.t 0)), none⟩,
    ⟨some 97, .e (.call 141 [.t 96, .v (.str [41])]) [], none⟩] [7])
  (.seq (.ops [⟨some 98, .q (.mov (.t 7)), none⟩,
    ⟨some 2, .e (.set (.t 98)) [], none⟩] [2])
  (.ret)))))))), [.slot 2]⟩
end Go.Am

