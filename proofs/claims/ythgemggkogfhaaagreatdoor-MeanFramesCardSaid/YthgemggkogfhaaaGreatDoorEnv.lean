/-
  The functions that a law reaches. Conditions: none.
-/
import Derived.Test.YthgemggkogfhaaaGreatDoorH0
import Derived.Test.YthgemggkogfhaaaGreatDoorH1
import Derived.Test.YthgemggkogfhaaaGreatDoorH2
import Derived.Test.YthgemggkogfhaaaGreatDoorB3
import Derived.Test.YthgemggkogfhaaaGreatDoorB5
namespace Go.Am
open Go Go.RowKit Go.Proofs
set_option maxRecDepth 100000

theorem cb1 {f n : FuncId} {i : IFunc} (h : Holds Tryz.prog n i) : ∀ fn, (bif Nat.beq f n then some i else none) = some fn → Holds Tryz.prog f fn := by
  intro fn hf
  cases hb : Nat.beq f n with
  | true => rw [hb] at hf; cases hf; rw [beq_nat hb]; exact h
  | false => rw [hb] at hf; cases hf
theorem cbn {f : FuncId} {b : Bool} {x y : Option IFunc} (hx : ∀ fn, x = some fn → Holds Tryz.prog f fn) (hy : ∀ fn, y = some fn → Holds Tryz.prog f fn) : ∀ fn, (bif b then x else y) = some fn → Holds Tryz.prog f fn := by
  cases b
  · exact hy
  · exact hx

def fnsT (f : FuncId) : Option IFunc :=
  bif Nat.blt f 130 then (bif Nat.blt f 74 then (bif Nat.blt f 43 then (bif Nat.blt f 31 then (bif Nat.blt f 25 then (bif Nat.blt f 19 then (bif Nat.blt f 16 then (bif Nat.beq f 11 then some i11 else none) else (bif Nat.beq f 16 then some i16 else none)) else (bif Nat.blt f 20 then (bif Nat.beq f 19 then some i19 else none) else (bif Nat.beq f 20 then some i20 else none))) else (bif Nat.blt f 27 then (bif Nat.blt f 26 then (bif Nat.beq f 25 then some i25 else none) else (bif Nat.beq f 26 then some i26 else none)) else (bif Nat.blt f 29 then (bif Nat.beq f 27 then some i27 else none) else (bif Nat.blt f 30 then (bif Nat.beq f 29 then some i29 else none) else (bif Nat.beq f 30 then some i30 else none))))) else (bif Nat.blt f 38 then (bif Nat.blt f 35 then (bif Nat.blt f 34 then (bif Nat.beq f 31 then some i31 else none) else (bif Nat.beq f 34 then some i34 else none)) else (bif Nat.blt f 36 then (bif Nat.beq f 35 then some i35 else none) else (bif Nat.blt f 37 then (bif Nat.beq f 36 then some i36 else none) else (bif Nat.beq f 37 then some i37 else none)))) else (bif Nat.blt f 40 then (bif Nat.blt f 39 then (bif Nat.beq f 38 then some i38 else none) else (bif Nat.beq f 39 then some i39 else none)) else (bif Nat.blt f 41 then (bif Nat.beq f 40 then some i40 else none) else (bif Nat.blt f 42 then (bif Nat.beq f 41 then some i41 else none) else (bif Nat.beq f 42 then some i42 else none)))))) else (bif Nat.blt f 63 then (bif Nat.blt f 53 then (bif Nat.blt f 45 then (bif Nat.blt f 44 then (bif Nat.beq f 43 then some i43 else none) else (bif Nat.beq f 44 then some i44 else none)) else (bif Nat.blt f 51 then (bif Nat.beq f 45 then some i45 else none) else (bif Nat.blt f 52 then (bif Nat.beq f 51 then some i51 else none) else (bif Nat.beq f 52 then some i52 else none)))) else (bif Nat.blt f 55 then (bif Nat.blt f 54 then (bif Nat.beq f 53 then some i53 else none) else (bif Nat.beq f 54 then some i54 else none)) else (bif Nat.blt f 61 then (bif Nat.beq f 55 then some i55 else none) else (bif Nat.blt f 62 then (bif Nat.beq f 61 then some i61 else none) else (bif Nat.beq f 62 then some i62 else none))))) else (bif Nat.blt f 69 then (bif Nat.blt f 65 then (bif Nat.blt f 64 then (bif Nat.beq f 63 then some i63 else none) else (bif Nat.beq f 64 then some i64 else none)) else (bif Nat.blt f 66 then (bif Nat.beq f 65 then some i65 else none) else (bif Nat.blt f 68 then (bif Nat.beq f 66 then some i66 else none) else (bif Nat.beq f 68 then some i68 else none)))) else (bif Nat.blt f 71 then (bif Nat.blt f 70 then (bif Nat.beq f 69 then some i69 else none) else (bif Nat.beq f 70 then some i70 else none)) else (bif Nat.blt f 72 then (bif Nat.beq f 71 then some i71 else none) else (bif Nat.blt f 73 then (bif Nat.beq f 72 then some i72 else none) else (bif Nat.beq f 73 then some i73 else none))))))) else (bif Nat.blt f 95 then (bif Nat.blt f 85 then (bif Nat.blt f 79 then (bif Nat.blt f 76 then (bif Nat.blt f 75 then (bif Nat.beq f 74 then some i74 else none) else (bif Nat.beq f 75 then some i75 else none)) else (bif Nat.blt f 77 then (bif Nat.beq f 76 then some i76 else none) else (bif Nat.beq f 77 then some i77 else none))) else (bif Nat.blt f 81 then (bif Nat.blt f 80 then (bif Nat.beq f 79 then some i79 else none) else (bif Nat.beq f 80 then some i80 else none)) else (bif Nat.blt f 83 then (bif Nat.beq f 81 then some i81 else none) else (bif Nat.blt f 84 then (bif Nat.beq f 83 then some i83 else none) else (bif Nat.beq f 84 then some i84 else none))))) else (bif Nat.blt f 90 then (bif Nat.blt f 87 then (bif Nat.blt f 86 then (bif Nat.beq f 85 then some i85 else none) else (bif Nat.beq f 86 then some i86 else none)) else (bif Nat.blt f 88 then (bif Nat.beq f 87 then some i87 else none) else (bif Nat.blt f 89 then (bif Nat.beq f 88 then some i88 else none) else (bif Nat.beq f 89 then some i89 else none)))) else (bif Nat.blt f 92 then (bif Nat.blt f 91 then (bif Nat.beq f 90 then some i90 else none) else (bif Nat.beq f 91 then some i91 else none)) else (bif Nat.blt f 93 then (bif Nat.beq f 92 then some i92 else none) else (bif Nat.blt f 94 then (bif Nat.beq f 93 then some i93 else none) else (bif Nat.beq f 94 then some i94 else none)))))) else (bif Nat.blt f 114 then (bif Nat.blt f 100 then (bif Nat.blt f 97 then (bif Nat.blt f 96 then (bif Nat.beq f 95 then some i95 else none) else (bif Nat.beq f 96 then some i96 else none)) else (bif Nat.blt f 98 then (bif Nat.beq f 97 then some i97 else none) else (bif Nat.blt f 99 then (bif Nat.beq f 98 then some i98 else none) else (bif Nat.beq f 99 then some i99 else none)))) else (bif Nat.blt f 111 then (bif Nat.blt f 110 then (bif Nat.beq f 100 then some i100 else none) else (bif Nat.beq f 110 then some i110 else none)) else (bif Nat.blt f 112 then (bif Nat.beq f 111 then some i111 else none) else (bif Nat.blt f 113 then (bif Nat.beq f 112 then some i112 else none) else (bif Nat.beq f 113 then some i113 else none))))) else (bif Nat.blt f 120 then (bif Nat.blt f 116 then (bif Nat.blt f 115 then (bif Nat.beq f 114 then some i114 else none) else (bif Nat.beq f 115 then some i115 else none)) else (bif Nat.blt f 118 then (bif Nat.beq f 116 then some i116 else none) else (bif Nat.blt f 119 then (bif Nat.beq f 118 then some i118 else none) else (bif Nat.beq f 119 then some i119 else none)))) else (bif Nat.blt f 127 then (bif Nat.blt f 122 then (bif Nat.beq f 120 then some i120 else none) else (bif Nat.beq f 122 then some i122 else none)) else (bif Nat.blt f 128 then (bif Nat.beq f 127 then some i127 else none) else (bif Nat.blt f 129 then (bif Nat.beq f 128 then some i128 else none) else (bif Nat.beq f 129 then some i129 else none)))))))) else (bif Nat.blt f 203 then (bif Nat.blt f 155 then (bif Nat.blt f 141 then (bif Nat.blt f 135 then (bif Nat.blt f 132 then (bif Nat.blt f 131 then (bif Nat.beq f 130 then some i130 else none) else (bif Nat.beq f 131 then some i131 else none)) else (bif Nat.blt f 133 then (bif Nat.beq f 132 then some i132 else none) else (bif Nat.beq f 133 then some i133 else none))) else (bif Nat.blt f 137 then (bif Nat.blt f 136 then (bif Nat.beq f 135 then some i135 else none) else (bif Nat.beq f 136 then some i136 else none)) else (bif Nat.blt f 139 then (bif Nat.beq f 137 then some i137 else none) else (bif Nat.blt f 140 then (bif Nat.beq f 139 then some i139 else none) else (bif Nat.beq f 140 then some i140 else none))))) else (bif Nat.blt f 146 then (bif Nat.blt f 143 then (bif Nat.blt f 142 then (bif Nat.beq f 141 then some i141 else none) else (bif Nat.beq f 142 then some i142 else none)) else (bif Nat.blt f 144 then (bif Nat.beq f 143 then some i143 else none) else (bif Nat.blt f 145 then (bif Nat.beq f 144 then some i144 else none) else (bif Nat.beq f 145 then some i145 else none)))) else (bif Nat.blt f 148 then (bif Nat.blt f 147 then (bif Nat.beq f 146 then some i146 else none) else (bif Nat.beq f 147 then some i147 else none)) else (bif Nat.blt f 152 then (bif Nat.beq f 148 then some i148 else none) else (bif Nat.blt f 154 then (bif Nat.beq f 152 then some i152 else none) else (bif Nat.beq f 154 then some i154 else none)))))) else (bif Nat.blt f 187 then (bif Nat.blt f 173 then (bif Nat.blt f 169 then (bif Nat.blt f 168 then (bif Nat.beq f 155 then some i155 else none) else (bif Nat.beq f 168 then some i168 else none)) else (bif Nat.blt f 170 then (bif Nat.beq f 169 then some i169 else none) else (bif Nat.blt f 172 then (bif Nat.beq f 170 then some i170 else none) else (bif Nat.beq f 172 then some i172 else none)))) else (bif Nat.blt f 184 then (bif Nat.blt f 183 then (bif Nat.beq f 173 then some i173 else none) else (bif Nat.beq f 183 then some i183 else none)) else (bif Nat.blt f 185 then (bif Nat.beq f 184 then some i184 else none) else (bif Nat.blt f 186 then (bif Nat.beq f 185 then some i185 else none) else (bif Nat.beq f 186 then some i186 else none))))) else (bif Nat.blt f 192 then (bif Nat.blt f 189 then (bif Nat.blt f 188 then (bif Nat.beq f 187 then some i187 else none) else (bif Nat.beq f 188 then some i188 else none)) else (bif Nat.blt f 190 then (bif Nat.beq f 189 then some i189 else none) else (bif Nat.blt f 191 then (bif Nat.beq f 190 then some i190 else none) else (bif Nat.beq f 191 then some i191 else none)))) else (bif Nat.blt f 200 then (bif Nat.blt f 199 then (bif Nat.beq f 192 then some i192 else none) else (bif Nat.beq f 199 then some i199 else none)) else (bif Nat.blt f 201 then (bif Nat.beq f 200 then some i200 else none) else (bif Nat.blt f 202 then (bif Nat.beq f 201 then some i201 else none) else (bif Nat.beq f 202 then some i202 else none))))))) else (bif Nat.blt f 265 then (bif Nat.blt f 240 then (bif Nat.blt f 221 then (bif Nat.blt f 218 then (bif Nat.blt f 204 then (bif Nat.beq f 203 then some i203 else none) else (bif Nat.beq f 204 then some i204 else none)) else (bif Nat.blt f 219 then (bif Nat.beq f 218 then some i218 else none) else (bif Nat.blt f 220 then (bif Nat.beq f 219 then some i219 else none) else (bif Nat.beq f 220 then some i220 else none)))) else (bif Nat.blt f 234 then (bif Nat.blt f 222 then (bif Nat.beq f 221 then some i221 else none) else (bif Nat.beq f 222 then some i222 else none)) else (bif Nat.blt f 235 then (bif Nat.beq f 234 then some i234 else none) else (bif Nat.blt f 239 then (bif Nat.beq f 235 then some i235 else none) else (bif Nat.beq f 239 then some i239 else none))))) else (bif Nat.blt f 249 then (bif Nat.blt f 242 then (bif Nat.blt f 241 then (bif Nat.beq f 240 then some i240 else none) else (bif Nat.beq f 241 then some i241 else none)) else (bif Nat.blt f 243 then (bif Nat.beq f 242 then some i242 else none) else (bif Nat.blt f 244 then (bif Nat.beq f 243 then some i243 else none) else (bif Nat.beq f 244 then some i244 else none)))) else (bif Nat.blt f 258 then (bif Nat.blt f 250 then (bif Nat.beq f 249 then some i249 else none) else (bif Nat.beq f 250 then some i250 else none)) else (bif Nat.blt f 259 then (bif Nat.beq f 258 then some i258 else none) else (bif Nat.blt f 261 then (bif Nat.beq f 259 then some i259 else none) else (bif Nat.beq f 261 then some i261 else none)))))) else (bif Nat.blt f 292 then (bif Nat.blt f 274 then (bif Nat.blt f 271 then (bif Nat.blt f 270 then (bif Nat.beq f 265 then some i265 else none) else (bif Nat.beq f 270 then some i270 else none)) else (bif Nat.blt f 272 then (bif Nat.beq f 271 then some i271 else none) else (bif Nat.blt f 273 then (bif Nat.beq f 272 then some i272 else none) else (bif Nat.beq f 273 then some i273 else none)))) else (bif Nat.blt f 276 then (bif Nat.blt f 275 then (bif Nat.beq f 274 then some i274 else none) else (bif Nat.beq f 275 then some i275 else none)) else (bif Nat.blt f 284 then (bif Nat.beq f 276 then some i276 else none) else (bif Nat.blt f 291 then (bif Nat.beq f 284 then some i284 else none) else (bif Nat.beq f 291 then some i291 else none))))) else (bif Nat.blt f 304 then (bif Nat.blt f 294 then (bif Nat.blt f 293 then (bif Nat.beq f 292 then some i292 else none) else (bif Nat.beq f 293 then some i293 else none)) else (bif Nat.blt f 295 then (bif Nat.beq f 294 then some i294 else none) else (bif Nat.blt f 296 then (bif Nat.beq f 295 then some i295 else none) else (bif Nat.beq f 296 then some i296 else none)))) else (bif Nat.blt f 306 then (bif Nat.blt f 305 then (bif Nat.beq f 304 then some i304 else none) else (bif Nat.beq f 305 then some i305 else none)) else (bif Nat.blt f 316 then (bif Nat.beq f 306 then some i306 else none) else (bif Nat.blt f 324 then (bif Nat.beq f 316 then some i316 else none) else (bif Nat.beq f 324 then some i324 else none))))))))

theorem fnsT_ok (f : FuncId) : ∀ fn, fnsT f = some fn → Holds Tryz.prog f fn :=
  cbn (cbn (cbn (cbn (cbn (cbn (cbn (cb1 h11) (cb1 h16)) (cbn (cb1 h19) (cb1 h20))) (cbn (cbn (cb1 h25) (cb1 h26)) (cbn (cb1 h27) (cbn (cb1 h29) (cb1 h30))))) (cbn (cbn (cbn (cb1 h31) (cb1 h34)) (cbn (cb1 h35) (cbn (cb1 h36) (cb1 h37)))) (cbn (cbn (cb1 h38) (cb1 h39)) (cbn (cb1 h40) (cbn (cb1 h41) (cb1 h42)))))) (cbn (cbn (cbn (cbn (cb1 h43) (cb1 h44)) (cbn (cb1 h45) (cbn (cb1 h51) (cb1 h52)))) (cbn (cbn (cb1 h53) (cb1 h54)) (cbn (cb1 h55) (cbn (cb1 h61) (cb1 h62))))) (cbn (cbn (cbn (cb1 h63) (cb1 h64)) (cbn (cb1 h65) (cbn (cb1 h66) (cb1 h68)))) (cbn (cbn (cb1 h69) (cb1 h70)) (cbn (cb1 h71) (cbn (cb1 h72) (cb1 h73))))))) (cbn (cbn (cbn (cbn (cbn (cb1 h74) (cb1 h75)) (cbn (cb1 h76) (cb1 h77))) (cbn (cbn (cb1 h79) (cb1 h80)) (cbn (cb1 h81) (cbn (cb1 h83) (cb1 h84))))) (cbn (cbn (cbn (cb1 h85) (cb1 h86)) (cbn (cb1 h87) (cbn (cb1 h88) (cb1 h89)))) (cbn (cbn (cb1 h90) (cb1 h91)) (cbn (cb1 h92) (cbn (cb1 h93) (cb1 h94)))))) (cbn (cbn (cbn (cbn (cb1 h95) (cb1 h96)) (cbn (cb1 h97) (cbn (cb1 h98) (cb1 h99)))) (cbn (cbn (cb1 h100) (cb1 h110)) (cbn (cb1 h111) (cbn (cb1 h112) (cb1 h113))))) (cbn (cbn (cbn (cb1 h114) (cb1 h115)) (cbn (cb1 h116) (cbn (cb1 h118) (cb1 h119)))) (cbn (cbn (cb1 h120) (cb1 h122)) (cbn (cb1 h127) (cbn (cb1 h128) (cb1 h129)))))))) (cbn (cbn (cbn (cbn (cbn (cbn (cb1 h130) (cb1 h131)) (cbn (cb1 h132) (cb1 h133))) (cbn (cbn (cb1 h135) (cb1 h136)) (cbn (cb1 h137) (cbn (cb1 h139) (cb1 h140))))) (cbn (cbn (cbn (cb1 h141) (cb1 h142)) (cbn (cb1 h143) (cbn (cb1 h144) (cb1 h145)))) (cbn (cbn (cb1 h146) (cb1 h147)) (cbn (cb1 h148) (cbn (cb1 h152) (cb1 h154)))))) (cbn (cbn (cbn (cbn (cb1 h155) (cb1 h168)) (cbn (cb1 h169) (cbn (cb1 h170) (cb1 h172)))) (cbn (cbn (cb1 h173) (cb1 h183)) (cbn (cb1 h184) (cbn (cb1 h185) (cb1 h186))))) (cbn (cbn (cbn (cb1 h187) (cb1 h188)) (cbn (cb1 h189) (cbn (cb1 h190) (cb1 h191)))) (cbn (cbn (cb1 h192) (cb1 h199)) (cbn (cb1 h200) (cbn (cb1 h201) (cb1 h202))))))) (cbn (cbn (cbn (cbn (cbn (cb1 h203) (cb1 h204)) (cbn (cb1 h218) (cbn (cb1 h219) (cb1 h220)))) (cbn (cbn (cb1 h221) (cb1 h222)) (cbn (cb1 h234) (cbn (cb1 h235) (cb1 h239))))) (cbn (cbn (cbn (cb1 h240) (cb1 h241)) (cbn (cb1 h242) (cbn (cb1 h243) (cb1 h244)))) (cbn (cbn (cb1 h249) (cb1 h250)) (cbn (cb1 h258) (cbn (cb1 h259) (cb1 h261)))))) (cbn (cbn (cbn (cbn (cb1 h265) (cb1 h270)) (cbn (cb1 h271) (cbn (cb1 h272) (cb1 h273)))) (cbn (cbn (cb1 h274) (cb1 h275)) (cbn (cb1 h276) (cbn (cb1 h284) (cb1 h291))))) (cbn (cbn (cbn (cb1 h292) (cb1 h293)) (cbn (cb1 h294) (cbn (cb1 h295) (cb1 h296)))) (cbn (cbn (cb1 h304) (cb1 h305)) (cbn (cb1 h306) (cbn (cb1 h316) (cb1 h324))))))))

def kIndexByte (args : List AVal) : MK AVal := fun τ =>
  match args with
  | [.str s, .int .u8 c] => .ok (.int .i64 (Lib.indexByte s c.toNat.toUInt8)) τ
  | _ => .bad
def kContains (args : List AVal) : MK AVal := fun τ =>
  match args with
  | [.str s, .str [c]] => .ok (.bool (decide (0 ≤ Lib.indexByte s c))) τ
  | _ => .bad
noncomputable def kFields (args : List AVal) : MK AVal := fun τ =>
  match args with
  | [.str s] => if s.length < 4294967281 ∧ s.all (fun b => decide (b.toNat < 128)) = true then
      match (Cmd.push (.tok (Lib.fields s).length 9)).runK τ with
      | some τ' => .ok (.list (some τ.n) 1 ((Lib.fields s).map .str)) τ'
      | none => .bad
    else .bad
  | _ => .bad
def kItoa (args : List AVal) : MK AVal := fun τ =>
  match args with
  | [.int .i64 n] => if -9223372036854775808 ≤ n ∧ n ≤ 9223372036854775807 then .ok (.str (Lib.itoa n)) τ else .bad
  | _ => .bad
def kParseInt (args : List AVal) : MK AVal := fun τ =>
  match args with
  | [.str s, .int .i64 10, .int .i64 64] =>
    if s.length ≤ 281474976710656 then
      match Lib.parseIntB 64 s with
      | .ok v => .ok (.tuple [.int .i64 v, .nilIface]) τ
      | .range => .ok (.tuple [.int .i64 (Lib.intSat 64 s), .iface 229 .undef]) τ
      | _ => .ok (.tuple [.int .i64 0, .iface 229 .undef]) τ
    else .bad
  | _ => .bad

/-- One function of the library, by both. -/
structure PrimBoth where
  k : List AVal → MK AVal
  q : List AVal → M AVal
  rep : ∀ args τ σ, Rep τ σ → RepR (k args τ) (q args σ)

theorem w229 : Tryz.laysC174_ren.t 168 = 229 := by kernel_rfl

noncomputable def bFields : PrimBoth := ⟨kFields, pFields, by
  intro args τ σ r
  unfold kFields pFields
  split
  · split
    · rename_i hc
      simp only [if_pos hc]
      split
      · rename_i hr; rw [r.len]; exact ⟨_, rfl, runK_ok r hr⟩
      · trivial
    · trivial
  · trivial⟩
def bIndexByte : PrimBoth := ⟨kIndexByte, pIndexByte, by
  intro args τ σ r
  unfold kIndexByte pIndexByte
  split
  · exact ⟨σ, rfl, r⟩
  · trivial⟩
def bContains : PrimBoth := ⟨kContains, pContains, by
  intro args τ σ r
  unfold kContains pContains
  split
  · exact ⟨σ, rfl, r⟩
  · trivial⟩
def bItoa : PrimBoth := ⟨kItoa, pItoa, by
  intro args τ σ r
  unfold kItoa pItoa
  split
  · split
    · rename_i hc; simp only [if_pos hc]; exact ⟨σ, rfl, r⟩
    · trivial
  · trivial⟩
def bParseInt : PrimBoth := ⟨kParseInt, pParseInt, by
  intro args τ σ r
  unfold kParseInt pParseInt
  split
  · split
    · rename_i hc
      simp only [if_pos hc, w229]
      cases Lib.parseIntB 64 _ <;> exact ⟨σ, rfl, r⟩
    · trivial
  · trivial⟩

noncomputable def primB (f : FuncId) : Option PrimBoth :=
  bif Nat.beq f 124 then some bFields else bif Nat.beq f 216 then some bIndexByte else bif Nat.beq f 67 then some bParseInt else bif Nat.beq f 134 then some bItoa else bif Nat.beq f 117 then some bContains else none
noncomputable def primT (f : FuncId) : Option (List AVal → MK AVal) :=
  bif Nat.beq f 124 then some kFields else bif Nat.beq f 216 then some kIndexByte else bif Nat.beq f 67 then some kParseInt else bif Nat.beq f 134 then some kItoa else bif Nat.beq f 117 then some kContains else none
def primF (f : FuncId) : Option (List AVal → M AVal) :=
  bif Nat.beq f 124 then some pFields else bif Nat.beq f 216 then some pIndexByte else bif Nat.beq f 67 then some pParseInt else bif Nat.beq f 134 then some pItoa else bif Nat.beq f 117 then some pContains else none
def dfnT (f : FuncId) : Option DFn :=
  bif Nat.beq f 82 then some (.recs i82) else bif Nat.beq f 121 then some (.recs i121) else bif Nat.beq f 219 then some (.plain i219) else none
def badCall : Call := fun _ _ _ => .bad
noncomputable def dpF (f : FuncId) : Option (List AVal → Mode → M Mode) :=
  bif Nat.beq f 82 then some (dpRec 8 badCall i82) else bif Nat.beq f 121 then some (dpRec 8 badCall i121) else bif Nat.beq f 219 then some (dpFun 8 badCall i219) else none

noncomputable def ET : EnvK := ⟨fnsT, primT, dfnT⟩
noncomputable def EF : Env := ⟨fnsT, primF, dpF⟩

theorem bad_ok {P : Program} {w0 : World} (h : FmtOk P w0) : CallOk P w0 badCall := ⟨h, fun _ _ _ h => by simp [badCall] at h⟩

theorem repT : EnvRep ET EF where
  fns := rfl
  prim := by
    intro f p h
    have h : primT f = some p := h
    show ∃ q, primF f = some q ∧ _
    unfold primT at h
    unfold primF
    cases h1 : Nat.beq f 124 <;> rw [h1] at h <;> simp only [cond_true, cond_false] at h ⊢
    case true => cases h; exact ⟨_, rfl, bFields.rep⟩
    cases h1 : Nat.beq f 216 <;> rw [h1] at h <;> simp only [cond_true, cond_false] at h ⊢
    case true => cases h; exact ⟨_, rfl, bIndexByte.rep⟩
    cases h1 : Nat.beq f 67 <;> rw [h1] at h <;> simp only [cond_true, cond_false] at h ⊢
    case true => cases h; exact ⟨_, rfl, bParseInt.rep⟩
    cases h1 : Nat.beq f 134 <;> rw [h1] at h <;> simp only [cond_true, cond_false] at h ⊢
    case true => cases h; exact ⟨_, rfl, bItoa.rep⟩
    cases h1 : Nat.beq f 117 <;> rw [h1] at h <;> simp only [cond_true, cond_false] at h ⊢
    case true => cases h; exact ⟨_, rfl, bContains.rep⟩
    cases h
  noPrim := by
    intro f h
    have h : primT f = none := h
    show primF f = none
    unfold primT at h
    unfold primF
    cases h1 : Nat.beq f 124 <;> rw [h1] at h <;> simp only [cond_true, cond_false] at h ⊢
    case true => cases h
    cases h1 : Nat.beq f 216 <;> rw [h1] at h <;> simp only [cond_true, cond_false] at h ⊢
    case true => cases h
    cases h1 : Nat.beq f 67 <;> rw [h1] at h <;> simp only [cond_true, cond_false] at h ⊢
    case true => cases h
    cases h1 : Nat.beq f 134 <;> rw [h1] at h <;> simp only [cond_true, cond_false] at h ⊢
    case true => cases h
    cases h1 : Nat.beq f 117 <;> rw [h1] at h <;> simp only [cond_true, cond_false] at h ⊢
    case true => cases h
  dfn := by
    intro f d h
    have h : dfnT f = some d := h
    show ∃ call, dpF f = some (d.ev call)
    refine ⟨badCall, ?_⟩
    unfold dfnT at h
    unfold dpF
    cases h1 : Nat.beq f 82 <;> rw [h1] at h <;> simp only [cond_true, cond_false] at h ⊢
    case true => cases h; rfl
    cases h1 : Nat.beq f 121 <;> rw [h1] at h <;> simp only [cond_true, cond_false] at h ⊢
    case true => cases h; rfl
    cases h1 : Nat.beq f 219 <;> rw [h1] at h <;> simp only [cond_true, cond_false] at h ⊢
    case true => cases h; rfl
    cases h

theorem okT {w0 : World} (h0 : W0Ok w0) : EnvOk Tryz.prog w0 EF where
  fns := fun f fn h => fnsT_ok f fn h
  prim := by
    intro f p h
    have h : primF f = some p := h
    unfold primF at h
    cases h1 : Nat.beq f 124 <;> rw [h1] at h <;> simp only [cond_true, cond_false] at h
    case true => cases h; rw [beq_nat h1]; exact pFields_ok h0
    cases h1 : Nat.beq f 216 <;> rw [h1] at h <;> simp only [cond_true, cond_false] at h
    case true => cases h; rw [beq_nat h1]; exact pIndexByte_ok w0
    cases h1 : Nat.beq f 67 <;> rw [h1] at h <;> simp only [cond_true, cond_false] at h
    case true => cases h; rw [beq_nat h1]; exact pParseInt_ok h0
    cases h1 : Nat.beq f 134 <;> rw [h1] at h <;> simp only [cond_true, cond_false] at h
    case true => cases h; rw [beq_nat h1]; exact pItoa_ok h0
    cases h1 : Nat.beq f 117 <;> rw [h1] at h <;> simp only [cond_true, cond_false] at h
    case true => cases h; rw [beq_nat h1]; exact pContains_ok w0
    cases h
  dp := by
    intro f p h
    have h : dpF f = some p := h
    unfold dpF at h
    cases h1 : Nat.beq f 82 <;> rw [h1] at h <;> simp only [cond_true, cond_false] at h
    case true => cases h; rw [beq_nat h1]; exact dpRec_ok h82 (bad_ok (fmt_ok h0))
    cases h1 : Nat.beq f 121 <;> rw [h1] at h <;> simp only [cond_true, cond_false] at h
    case true => cases h; rw [beq_nat h1]; exact dpRec_ok h121 (bad_ok (fmt_ok h0))
    cases h1 : Nat.beq f 219 <;> rw [h1] at h <;> simp only [cond_true, cond_false] at h
    case true => cases h; rw [beq_nat h1]; exact dpFun_ok h219 (bad_ok (fmt_ok h0))
    cases h
  fmt := fmt_ok h0

end Go.Am

