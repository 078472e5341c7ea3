/-
  Stretches of shown (1). Conditions: none.
-/
import Derived.Test.YthgemggkogfhaaaGreatDoorS0
import Derived.Test.YthgemggkogfhaaaGreatDoorEnv
namespace Go.Am
open Go Go.RowKit
set_option maxRecDepth 100000
theorem okt0 : mt0.Ok EF := memo_ok repT (n := 4000) (by kernel_rfl)
end Go.Am

namespace Go.Am
open Go Go.RowKit
set_option maxRecDepth 100000
theorem okt1 : mt1.Ok EF := memo_ok repT (n := 4000) (by kernel_rfl)
end Go.Am

namespace Go.Am
open Go Go.RowKit
set_option maxRecDepth 100000
theorem okt2 : mt2.Ok EF := memo_ok repT (n := 4000) (by kernel_rfl)
end Go.Am

namespace Go.Am
open Go Go.RowKit
set_option maxRecDepth 100000
theorem okt3 : mt3.Ok EF := memo_ok repT (n := 4000) (by kernel_rfl)
end Go.Am

