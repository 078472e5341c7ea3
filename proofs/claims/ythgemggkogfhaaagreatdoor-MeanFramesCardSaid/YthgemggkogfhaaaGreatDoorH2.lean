/-
  Forms tied to the program (3). Conditions: none.
-/
import Derived.Test.YthgemggkogfhaaaGreatDoorF2
import Derived.KernelRfl
import Derived.Test.YthgemggkogfhaaaGreatDoorChecked
namespace Go.Am
open Go Go.RowKit Go.Proofs
set_option maxRecDepth 100000
theorem h190 : Holds Tryz.prog 190 i190 := ⟨_, _, rfl, by decide, rfl, by kernel_rfl, by kernel_rfl⟩
theorem h191 : Holds Tryz.prog 191 i191 := ⟨_, _, rfl, by decide, rfl, by kernel_rfl, by kernel_rfl⟩
theorem h192 : Holds Tryz.prog 192 i192 := ⟨_, _, rfl, by decide, rfl, by kernel_rfl, by kernel_rfl⟩
theorem h199 : Holds Tryz.prog 199 i199 := ⟨_, _, rfl, by decide, rfl, by kernel_rfl, by kernel_rfl⟩
theorem h200 : Holds Tryz.prog 200 i200 := ⟨_, _, rfl, by decide, rfl, by kernel_rfl, by kernel_rfl⟩
theorem h201 : Holds Tryz.prog 201 i201 := ⟨_, _, rfl, by decide, rfl, by kernel_rfl, by kernel_rfl⟩
theorem h202 : Holds Tryz.prog 202 i202 := ⟨_, _, rfl, by decide, rfl, by kernel_rfl, by kernel_rfl⟩
theorem h203 : Holds Tryz.prog 203 i203 := ⟨_, _, rfl, by decide, rfl, by kernel_rfl, by kernel_rfl⟩
theorem h204 : Holds Tryz.prog 204 i204 := ⟨_, _, rfl, by decide, rfl, by kernel_rfl, by kernel_rfl⟩
theorem h218 : Holds Tryz.prog 218 i218 := ⟨_, _, rfl, by decide, rfl, by kernel_rfl, by kernel_rfl⟩
theorem h219 : Holds Tryz.prog 219 i219 := ⟨_, _, rfl, by decide, rfl, by kernel_rfl, by kernel_rfl⟩
theorem h220 : Holds Tryz.prog 220 i220 := ⟨_, _, rfl, by decide, rfl, by kernel_rfl, by kernel_rfl⟩
theorem h221 : Holds Tryz.prog 221 i221 := ⟨_, _, rfl, by decide, rfl, by kernel_rfl, by kernel_rfl⟩
theorem h222 : Holds Tryz.prog 222 i222 := ⟨_, _, rfl, by decide, rfl, by kernel_rfl, by kernel_rfl⟩
theorem h234 : Holds Tryz.prog 234 i234 := ⟨_, _, rfl, by decide, rfl, by kernel_rfl, by kernel_rfl⟩
theorem h235 : Holds Tryz.prog 235 i235 := ⟨_, _, rfl, by decide, rfl, by kernel_rfl, by kernel_rfl⟩
theorem h239 : Holds Tryz.prog 239 i239 := ⟨_, _, rfl, by decide, rfl, by kernel_rfl, by kernel_rfl⟩
theorem h240 : Holds Tryz.prog 240 i240 := ⟨_, _, rfl, by decide, rfl, by kernel_rfl, by kernel_rfl⟩
theorem h241 : Holds Tryz.prog 241 i241 := ⟨_, _, rfl, by decide, rfl, by kernel_rfl, by kernel_rfl⟩
theorem h242 : Holds Tryz.prog 242 i242 := ⟨_, _, rfl, by decide, rfl, by kernel_rfl, by kernel_rfl⟩
theorem h243 : Holds Tryz.prog 243 i243 := ⟨_, _, rfl, by decide, rfl, by kernel_rfl, by kernel_rfl⟩
theorem h244 : Holds Tryz.prog 244 i244 := ⟨_, _, rfl, by decide, rfl, by kernel_rfl, by kernel_rfl⟩
theorem h249 : Holds Tryz.prog 249 i249 := ⟨_, _, rfl, by decide, rfl, by kernel_rfl, by kernel_rfl⟩
theorem h250 : Holds Tryz.prog 250 i250 := ⟨_, _, rfl, by decide, rfl, by kernel_rfl, by kernel_rfl⟩
theorem h258 : Holds Tryz.prog 258 i258 := ⟨_, _, rfl, by decide, rfl, by kernel_rfl, by kernel_rfl⟩
theorem h259 : Holds Tryz.prog 259 i259 := ⟨_, _, rfl, by decide, rfl, by kernel_rfl, by kernel_rfl⟩
theorem h261 : Holds Tryz.prog 261 i261 := ⟨_, _, rfl, by decide, rfl, by kernel_rfl, by kernel_rfl⟩
theorem h265 : Holds Tryz.prog 265 i265 := ⟨_, _, rfl, by decide, rfl, by kernel_rfl, by kernel_rfl⟩
theorem h270 : Holds Tryz.prog 270 i270 := ⟨_, _, rfl, by decide, rfl, by kernel_rfl, by kernel_rfl⟩
theorem h271 : Holds Tryz.prog 271 i271 := ⟨_, _, rfl, by decide, rfl, by kernel_rfl, by kernel_rfl⟩
theorem h272 : Holds Tryz.prog 272 i272 := ⟨_, _, rfl, by decide, rfl, by kernel_rfl, by kernel_rfl⟩
theorem h273 : Holds Tryz.prog 273 i273 := ⟨_, _, rfl, by decide, rfl, by kernel_rfl, by kernel_rfl⟩
theorem h274 : Holds Tryz.prog 274 i274 := ⟨_, _, rfl, by decide, rfl, by kernel_rfl, by kernel_rfl⟩
theorem h275 : Holds Tryz.prog 275 i275 := ⟨_, _, rfl, by decide, rfl, by kernel_rfl, by kernel_rfl⟩
theorem h276 : Holds Tryz.prog 276 i276 := ⟨_, _, rfl, by decide, rfl, by kernel_rfl, by kernel_rfl⟩
theorem h284 : Holds Tryz.prog 284 i284 := ⟨_, _, rfl, by decide, rfl, by kernel_rfl, by kernel_rfl⟩
theorem h291 : Holds Tryz.prog 291 i291 := ⟨_, _, rfl, by decide, rfl, by kernel_rfl, by kernel_rfl⟩
theorem h292 : Holds Tryz.prog 292 i292 := ⟨_, _, rfl, by decide, rfl, by kernel_rfl, by kernel_rfl⟩
theorem h293 : Holds Tryz.prog 293 i293 := ⟨_, _, rfl, by decide, rfl, by kernel_rfl, by kernel_rfl⟩
theorem h294 : Holds Tryz.prog 294 i294 := ⟨_, _, rfl, by decide, rfl, by kernel_rfl, by kernel_rfl⟩
theorem h295 : Holds Tryz.prog 295 i295 := ⟨_, _, rfl, by decide, rfl, by kernel_rfl, by kernel_rfl⟩
theorem h296 : Holds Tryz.prog 296 i296 := ⟨_, _, rfl, by decide, rfl, by kernel_rfl, by kernel_rfl⟩
theorem h304 : Holds Tryz.prog 304 i304 := ⟨_, _, rfl, by decide, rfl, by kernel_rfl, by kernel_rfl⟩
theorem h305 : Holds Tryz.prog 305 i305 := ⟨_, _, rfl, by decide, rfl, by kernel_rfl, by kernel_rfl⟩
theorem h306 : Holds Tryz.prog 306 i306 := ⟨_, _, rfl, by decide, rfl, by kernel_rfl, by kernel_rfl⟩
theorem h316 : Holds Tryz.prog 316 i316 := ⟨_, _, rfl, by decide, rfl, by kernel_rfl, by kernel_rfl⟩
theorem h324 : Holds Tryz.prog 324 i324 := ⟨_, _, rfl, by decide, rfl, by kernel_rfl, by kernel_rfl⟩
end Go.Am

