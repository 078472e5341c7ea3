/-
  Forms tied to the program (1). Conditions: none.
-/
import Derived.Test.YthgemggkogfhaaaGreatDoorF0
import Derived.KernelRfl
import Derived.Test.YthgemggkogfhaaaGreatDoorChecked
namespace Go.Am
open Go Go.RowKit Go.Proofs
set_option maxRecDepth 100000
theorem h11 : Holds Tryz.prog 11 i11 := ⟨_, _, rfl, by decide, rfl, by kernel_rfl, by kernel_rfl⟩
theorem h16 : Holds Tryz.prog 16 i16 := ⟨_, _, rfl, by decide, rfl, by kernel_rfl, by kernel_rfl⟩
theorem h19 : Holds Tryz.prog 19 i19 := ⟨_, _, rfl, by decide, rfl, by kernel_rfl, by kernel_rfl⟩
theorem h20 : Holds Tryz.prog 20 i20 := ⟨_, _, rfl, by decide, rfl, by kernel_rfl, by kernel_rfl⟩
theorem h25 : Holds Tryz.prog 25 i25 := ⟨_, _, rfl, by decide, rfl, by kernel_rfl, by kernel_rfl⟩
theorem h26 : Holds Tryz.prog 26 i26 := ⟨_, _, rfl, by decide, rfl, by kernel_rfl, by kernel_rfl⟩
theorem h27 : Holds Tryz.prog 27 i27 := ⟨_, _, rfl, by decide, rfl, by kernel_rfl, by kernel_rfl⟩
theorem h29 : Holds Tryz.prog 29 i29 := ⟨_, _, rfl, by decide, rfl, by kernel_rfl, by kernel_rfl⟩
theorem h30 : Holds Tryz.prog 30 i30 := ⟨_, _, rfl, by decide, rfl, by kernel_rfl, by kernel_rfl⟩
theorem h31 : Holds Tryz.prog 31 i31 := ⟨_, _, rfl, by decide, rfl, by kernel_rfl, by kernel_rfl⟩
theorem h34 : Holds Tryz.prog 34 i34 := ⟨_, _, rfl, by decide, rfl, by kernel_rfl, by kernel_rfl⟩
theorem h35 : Holds Tryz.prog 35 i35 := ⟨_, _, rfl, by decide, rfl, by kernel_rfl, by kernel_rfl⟩
theorem h36 : Holds Tryz.prog 36 i36 := ⟨_, _, rfl, by decide, rfl, by kernel_rfl, by kernel_rfl⟩
theorem h37 : Holds Tryz.prog 37 i37 := ⟨_, _, rfl, by decide, rfl, by kernel_rfl, by kernel_rfl⟩
theorem h38 : Holds Tryz.prog 38 i38 := ⟨_, _, rfl, by decide, rfl, by kernel_rfl, by kernel_rfl⟩
theorem h39 : Holds Tryz.prog 39 i39 := ⟨_, _, rfl, by decide, rfl, by kernel_rfl, by kernel_rfl⟩
theorem h40 : Holds Tryz.prog 40 i40 := ⟨_, _, rfl, by decide, rfl, by kernel_rfl, by kernel_rfl⟩
theorem h41 : Holds Tryz.prog 41 i41 := ⟨_, _, rfl, by decide, rfl, by kernel_rfl, by kernel_rfl⟩
theorem h42 : Holds Tryz.prog 42 i42 := ⟨_, _, rfl, by decide, rfl, by kernel_rfl, by kernel_rfl⟩
theorem h43 : Holds Tryz.prog 43 i43 := ⟨_, _, rfl, by decide, rfl, by kernel_rfl, by kernel_rfl⟩
theorem h44 : Holds Tryz.prog 44 i44 := ⟨_, _, rfl, by decide, rfl, by kernel_rfl, by kernel_rfl⟩
theorem h45 : Holds Tryz.prog 45 i45 := ⟨_, _, rfl, by decide, rfl, by kernel_rfl, by kernel_rfl⟩
theorem h51 : Holds Tryz.prog 51 i51 := ⟨_, _, rfl, by decide, rfl, by kernel_rfl, by kernel_rfl⟩
theorem h52 : Holds Tryz.prog 52 i52 := ⟨_, _, rfl, by decide, rfl, by kernel_rfl, by kernel_rfl⟩
theorem h53 : Holds Tryz.prog 53 i53 := ⟨_, _, rfl, by decide, rfl, by kernel_rfl, by kernel_rfl⟩
theorem h54 : Holds Tryz.prog 54 i54 := ⟨_, _, rfl, by decide, rfl, by kernel_rfl, by kernel_rfl⟩
theorem h55 : Holds Tryz.prog 55 i55 := ⟨_, _, rfl, by decide, rfl, by kernel_rfl, by kernel_rfl⟩
theorem h61 : Holds Tryz.prog 61 i61 := ⟨_, _, rfl, by decide, rfl, by kernel_rfl, by kernel_rfl⟩
theorem h62 : Holds Tryz.prog 62 i62 := ⟨_, _, rfl, by decide, rfl, by kernel_rfl, by kernel_rfl⟩
theorem h63 : Holds Tryz.prog 63 i63 := ⟨_, _, rfl, by decide, rfl, by kernel_rfl, by kernel_rfl⟩
theorem h64 : Holds Tryz.prog 64 i64 := ⟨_, _, rfl, by decide, rfl, by kernel_rfl, by kernel_rfl⟩
theorem h65 : Holds Tryz.prog 65 i65 := ⟨_, _, rfl, by decide, rfl, by kernel_rfl, by kernel_rfl⟩
theorem h66 : Holds Tryz.prog 66 i66 := ⟨_, _, rfl, by decide, rfl, by kernel_rfl, by kernel_rfl⟩
theorem h68 : Holds Tryz.prog 68 i68 := ⟨_, _, rfl, by decide, rfl, by kernel_rfl, by kernel_rfl⟩
theorem h69 : Holds Tryz.prog 69 i69 := ⟨_, _, rfl, by decide, rfl, by kernel_rfl, by kernel_rfl⟩
theorem h70 : Holds Tryz.prog 70 i70 := ⟨_, _, rfl, by decide, rfl, by kernel_rfl, by kernel_rfl⟩
theorem h71 : Holds Tryz.prog 71 i71 := ⟨_, _, rfl, by decide, rfl, by kernel_rfl, by kernel_rfl⟩
theorem h72 : Holds Tryz.prog 72 i72 := ⟨_, _, rfl, by decide, rfl, by kernel_rfl, by kernel_rfl⟩
theorem h73 : Holds Tryz.prog 73 i73 := ⟨_, _, rfl, by decide, rfl, by kernel_rfl, by kernel_rfl⟩
theorem h74 : Holds Tryz.prog 74 i74 := ⟨_, _, rfl, by decide, rfl, by kernel_rfl, by kernel_rfl⟩
theorem h75 : Holds Tryz.prog 75 i75 := ⟨_, _, rfl, by decide, rfl, by kernel_rfl, by kernel_rfl⟩
theorem h76 : Holds Tryz.prog 76 i76 := ⟨_, _, rfl, by decide, rfl, by kernel_rfl, by kernel_rfl⟩
theorem h77 : Holds Tryz.prog 77 i77 := ⟨_, _, rfl, by decide, rfl, by kernel_rfl, by kernel_rfl⟩
theorem h79 : Holds Tryz.prog 79 i79 := ⟨_, _, rfl, by decide, rfl, by kernel_rfl, by kernel_rfl⟩
theorem h80 : Holds Tryz.prog 80 i80 := ⟨_, _, rfl, by decide, rfl, by kernel_rfl, by kernel_rfl⟩
end Go.Am

