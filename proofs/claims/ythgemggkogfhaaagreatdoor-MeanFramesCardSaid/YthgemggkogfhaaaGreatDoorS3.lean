/-
  Stretches of shown (3). Conditions: none.
-/
import Derived.Test.YthgemggkogfhaaaGreatDoorS0
import Derived.Test.YthgemggkogfhaaaGreatDoorEnv
namespace Go.Am
open Go Go.RowKit
set_option maxRecDepth 100000
theorem okr1 : mr1.Ok EF := memo_ok repT (n := 4000) (by kernel_rfl)
end Go.Am

