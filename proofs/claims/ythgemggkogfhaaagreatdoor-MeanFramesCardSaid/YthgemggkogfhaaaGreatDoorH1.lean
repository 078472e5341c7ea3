/-
  Forms tied to the program (2). Conditions: none.
-/
import Derived.Test.YthgemggkogfhaaaGreatDoorF1
import Derived.KernelRfl
import Derived.Test.YthgemggkogfhaaaGreatDoorChecked
namespace Go.Am
open Go Go.RowKit Go.Proofs
set_option maxRecDepth 100000
theorem h81 : Holds Tryz.prog 81 i81 := ⟨_, _, rfl, by decide, rfl, by kernel_rfl, by kernel_rfl⟩
theorem h82 : HoldsR Tryz.prog 82 i82 := ⟨_, _, _, _, _, _, _, rfl, by decide, rfl, rfl, rfl, rfl, rfl, by decide, by kernel_rfl, by kernel_rfl, by kernel_rfl⟩
theorem h83 : Holds Tryz.prog 83 i83 := ⟨_, _, rfl, by decide, rfl, by kernel_rfl, by kernel_rfl⟩
theorem h84 : Holds Tryz.prog 84 i84 := ⟨_, _, rfl, by decide, rfl, by kernel_rfl, by kernel_rfl⟩
theorem h85 : Holds Tryz.prog 85 i85 := ⟨_, _, rfl, by decide, rfl, by kernel_rfl, by kernel_rfl⟩
theorem h86 : Holds Tryz.prog 86 i86 := ⟨_, _, rfl, by decide, rfl, by kernel_rfl, by kernel_rfl⟩
theorem h87 : Holds Tryz.prog 87 i87 := ⟨_, _, rfl, by decide, rfl, by kernel_rfl, by kernel_rfl⟩
theorem h88 : Holds Tryz.prog 88 i88 := ⟨_, _, rfl, by decide, rfl, by kernel_rfl, by kernel_rfl⟩
theorem h89 : Holds Tryz.prog 89 i89 := ⟨_, _, rfl, by decide, rfl, by kernel_rfl, by kernel_rfl⟩
theorem h90 : Holds Tryz.prog 90 i90 := ⟨_, _, rfl, by decide, rfl, by kernel_rfl, by kernel_rfl⟩
theorem h91 : Holds Tryz.prog 91 i91 := ⟨_, _, rfl, by decide, rfl, by kernel_rfl, by kernel_rfl⟩
theorem h92 : Holds Tryz.prog 92 i92 := ⟨_, _, rfl, by decide, rfl, by kernel_rfl, by kernel_rfl⟩
theorem h93 : Holds Tryz.prog 93 i93 := ⟨_, _, rfl, by decide, rfl, by kernel_rfl, by kernel_rfl⟩
theorem h94 : Holds Tryz.prog 94 i94 := ⟨_, _, rfl, by decide, rfl, by kernel_rfl, by kernel_rfl⟩
theorem h95 : Holds Tryz.prog 95 i95 := ⟨_, _, rfl, by decide, rfl, by kernel_rfl, by kernel_rfl⟩
theorem h96 : Holds Tryz.prog 96 i96 := ⟨_, _, rfl, by decide, rfl, by kernel_rfl, by kernel_rfl⟩
theorem h97 : Holds Tryz.prog 97 i97 := ⟨_, _, rfl, by decide, rfl, by kernel_rfl, by kernel_rfl⟩
theorem h98 : Holds Tryz.prog 98 i98 := ⟨_, _, rfl, by decide, rfl, by kernel_rfl, by kernel_rfl⟩
theorem h99 : Holds Tryz.prog 99 i99 := ⟨_, _, rfl, by decide, rfl, by kernel_rfl, by kernel_rfl⟩
theorem h100 : Holds Tryz.prog 100 i100 := ⟨_, _, rfl, by decide, rfl, by kernel_rfl, by kernel_rfl⟩
theorem h110 : Holds Tryz.prog 110 i110 := ⟨_, _, rfl, by decide, rfl, by kernel_rfl, by kernel_rfl⟩
theorem h111 : Holds Tryz.prog 111 i111 := ⟨_, _, rfl, by decide, rfl, by kernel_rfl, by kernel_rfl⟩
theorem h112 : Holds Tryz.prog 112 i112 := ⟨_, _, rfl, by decide, rfl, by kernel_rfl, by kernel_rfl⟩
theorem h113 : Holds Tryz.prog 113 i113 := ⟨_, _, rfl, by decide, rfl, by kernel_rfl, by kernel_rfl⟩
theorem h114 : Holds Tryz.prog 114 i114 := ⟨_, _, rfl, by decide, rfl, by kernel_rfl, by kernel_rfl⟩
theorem h115 : Holds Tryz.prog 115 i115 := ⟨_, _, rfl, by decide, rfl, by kernel_rfl, by kernel_rfl⟩
theorem h116 : Holds Tryz.prog 116 i116 := ⟨_, _, rfl, by decide, rfl, by kernel_rfl, by kernel_rfl⟩
theorem h118 : Holds Tryz.prog 118 i118 := ⟨_, _, rfl, by decide, rfl, by kernel_rfl, by kernel_rfl⟩
theorem h119 : Holds Tryz.prog 119 i119 := ⟨_, _, rfl, by decide, rfl, by kernel_rfl, by kernel_rfl⟩
theorem h120 : Holds Tryz.prog 120 i120 := ⟨_, _, rfl, by decide, rfl, by kernel_rfl, by kernel_rfl⟩
theorem h121 : HoldsR Tryz.prog 121 i121 := ⟨_, _, _, _, _, _, _, rfl, by decide, rfl, rfl, rfl, rfl, rfl, by decide, by kernel_rfl, by kernel_rfl, by kernel_rfl⟩
theorem h122 : Holds Tryz.prog 122 i122 := ⟨_, _, rfl, by decide, rfl, by kernel_rfl, by kernel_rfl⟩
theorem h127 : Holds Tryz.prog 127 i127 := ⟨_, _, rfl, by decide, rfl, by kernel_rfl, by kernel_rfl⟩
theorem h128 : Holds Tryz.prog 128 i128 := ⟨_, _, rfl, by decide, rfl, by kernel_rfl, by kernel_rfl⟩
theorem h129 : Holds Tryz.prog 129 i129 := ⟨_, _, rfl, by decide, rfl, by kernel_rfl, by kernel_rfl⟩
theorem h130 : Holds Tryz.prog 130 i130 := ⟨_, _, rfl, by decide, rfl, by kernel_rfl, by kernel_rfl⟩
theorem h131 : Holds Tryz.prog 131 i131 := ⟨_, _, rfl, by decide, rfl, by kernel_rfl, by kernel_rfl⟩
theorem h132 : Holds Tryz.prog 132 i132 := ⟨_, _, rfl, by decide, rfl, by kernel_rfl, by kernel_rfl⟩
theorem h133 : Holds Tryz.prog 133 i133 := ⟨_, _, rfl, by decide, rfl, by kernel_rfl, by kernel_rfl⟩
theorem h135 : Holds Tryz.prog 135 i135 := ⟨_, _, rfl, by decide, rfl, by kernel_rfl, by kernel_rfl⟩
theorem h136 : Holds Tryz.prog 136 i136 := ⟨_, _, rfl, by decide, rfl, by kernel_rfl, by kernel_rfl⟩
theorem h137 : Holds Tryz.prog 137 i137 := ⟨_, _, rfl, by decide, rfl, by kernel_rfl, by kernel_rfl⟩
theorem h139 : Holds Tryz.prog 139 i139 := ⟨_, _, rfl, by decide, rfl, by kernel_rfl, by kernel_rfl⟩
theorem h140 : Holds Tryz.prog 140 i140 := ⟨_, _, rfl, by decide, rfl, by kernel_rfl, by kernel_rfl⟩
theorem h141 : Holds Tryz.prog 141 i141 := ⟨_, _, rfl, by decide, rfl, by kernel_rfl, by kernel_rfl⟩
theorem h142 : Holds Tryz.prog 142 i142 := ⟨_, _, rfl, by decide, rfl, by kernel_rfl, by kernel_rfl⟩
theorem h143 : Holds Tryz.prog 143 i143 := ⟨_, _, rfl, by decide, rfl, by kernel_rfl, by kernel_rfl⟩
theorem h144 : Holds Tryz.prog 144 i144 := ⟨_, _, rfl, by decide, rfl, by kernel_rfl, by kernel_rfl⟩
theorem h145 : Holds Tryz.prog 145 i145 := ⟨_, _, rfl, by decide, rfl, by kernel_rfl, by kernel_rfl⟩
theorem h146 : Holds Tryz.prog 146 i146 := ⟨_, _, rfl, by decide, rfl, by kernel_rfl, by kernel_rfl⟩
theorem h147 : Holds Tryz.prog 147 i147 := ⟨_, _, rfl, by decide, rfl, by kernel_rfl, by kernel_rfl⟩
theorem h148 : Holds Tryz.prog 148 i148 := ⟨_, _, rfl, by decide, rfl, by kernel_rfl, by kernel_rfl⟩
theorem h152 : Holds Tryz.prog 152 i152 := ⟨_, _, rfl, by decide, rfl, by kernel_rfl, by kernel_rfl⟩
theorem h154 : Holds Tryz.prog 154 i154 := ⟨_, _, rfl, by decide, rfl, by kernel_rfl, by kernel_rfl⟩
theorem h155 : Holds Tryz.prog 155 i155 := ⟨_, _, rfl, by decide, rfl, by kernel_rfl, by kernel_rfl⟩
theorem h168 : Holds Tryz.prog 168 i168 := ⟨_, _, rfl, by decide, rfl, by kernel_rfl, by kernel_rfl⟩
theorem h169 : Holds Tryz.prog 169 i169 := ⟨_, _, rfl, by decide, rfl, by kernel_rfl, by kernel_rfl⟩
theorem h170 : Holds Tryz.prog 170 i170 := ⟨_, _, rfl, by decide, rfl, by kernel_rfl, by kernel_rfl⟩
theorem h172 : Holds Tryz.prog 172 i172 := ⟨_, _, rfl, by decide, rfl, by kernel_rfl, by kernel_rfl⟩
theorem h173 : Holds Tryz.prog 173 i173 := ⟨_, _, rfl, by decide, rfl, by kernel_rfl, by kernel_rfl⟩
theorem h183 : Holds Tryz.prog 183 i183 := ⟨_, _, rfl, by decide, rfl, by kernel_rfl, by kernel_rfl⟩
theorem h184 : Holds Tryz.prog 184 i184 := ⟨_, _, rfl, by decide, rfl, by kernel_rfl, by kernel_rfl⟩
theorem h185 : Holds Tryz.prog 185 i185 := ⟨_, _, rfl, by decide, rfl, by kernel_rfl, by kernel_rfl⟩
theorem h186 : Holds Tryz.prog 186 i186 := ⟨_, _, rfl, by decide, rfl, by kernel_rfl, by kernel_rfl⟩
theorem h187 : Holds Tryz.prog 187 i187 := ⟨_, _, rfl, by decide, rfl, by kernel_rfl, by kernel_rfl⟩
theorem h188 : Holds Tryz.prog 188 i188 := ⟨_, _, rfl, by decide, rfl, by kernel_rfl, by kernel_rfl⟩
theorem h189 : Holds Tryz.prog 189 i189 := ⟨_, _, rfl, by decide, rfl, by kernel_rfl, by kernel_rfl⟩
end Go.Am

