/-
  Stretches of shown (2). Conditions: none.
-/
import Derived.Test.YthgemggkogfhaaaGreatDoorS0
import Derived.Test.YthgemggkogfhaaaGreatDoorEnv
namespace Go.Am
open Go Go.RowKit
set_option maxRecDepth 100000
theorem okr0 : mr0.Ok EF := memo_ok repT (n := 4000) (by kernel_rfl)
end Go.Am

namespace Go.Am
open Go Go.RowKit
set_option maxRecDepth 100000
theorem okr2 : mr2.Ok EF := memo_ok repT (n := 4000) (by kernel_rfl)
end Go.Am

namespace Go.Am
open Go Go.RowKit
set_option maxRecDepth 100000
theorem okr3 : mr3.Ok EF := memo_ok repT (n := 4000) (by kernel_rfl)
end Go.Am

