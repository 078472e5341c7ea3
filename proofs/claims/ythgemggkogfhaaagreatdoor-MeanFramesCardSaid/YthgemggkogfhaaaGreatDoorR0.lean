/-
  What the rows ask beside the call. Conditions: none.
-/
import Derived.Test.YthgemggkogfhaaaGreatDoorCards
import Derived.Test.YthgemggkogfhaaaGreatDoorTie
import Derived.Test.YthgemggkogfhaaaGreatDoorB3
import Derived.ProofKit
import Derived.OpenShut
import Derived.Deep.DeepHandedRow
import Derived.Deep.DeepWitnessRowRef
import Derived.Lib.LaidIn
import Derived.Stop.LaidErr
import Derived.ChangeSame
import Derived.Lib.LaidU8
import Derived.Stop.ErrReads
import Derived.Test.YthgemggkogfhaaaGreatDoorB2
namespace Go.Proofs.YthgemggkogfhaaaGreatDoor
open Go.ChangeShapes Go.WideShapes Go.ChangeAt Go.RowKit Go.Am Go.Stop

theorem own : ownKnob Tryz.prog.godebug = none := by kernel_rfl

theorem gSpace : Tryz.prog.globalNamed "strings.asciiSpace" = some 0 := by kernel_rfl
theorem gSpaceType : (Tryz.prog.globals[0]?).map (·.type) = some 222 := by kernel_rfl
theorem gPow : Tryz.prog.globalNamed "internal/strconv.uint64pow10" = some 4 := by kernel_rfl
theorem gPowType : (Tryz.prog.globals[4]?).map (·.type) = some 271 := by kernel_rfl
theorem gErrS : Tryz.prog.globalNamed "strconv.ErrSyntax" = some 2 := by kernel_rfl
theorem gErrSType : (Tryz.prog.globals[2]?).map (·.type) = some 153 := by kernel_rfl
theorem gErrR : Tryz.prog.globalNamed "strconv.ErrRange" = some 3 := by kernel_rfl
theorem gErrRType : (Tryz.prog.globals[3]?).map (·.type) = some 153 := by kernel_rfl
theorem cells222 : Tryz.prog.cellsOf 222 = 256 := by kernel_rfl
theorem cells271 : Tryz.prog.cellsOf 271 = 20 := by kernel_rfl
theorem cells5 : Tryz.prog.cellsOf 5 = 1 := by kernel_rfl
theorem cells209 : Tryz.prog.cellsOf 209 = 1 := by kernel_rfl
theorem cells299 : Tryz.prog.cellsOf 299 = 1 := by kernel_rfl
theorem cells9 : Tryz.prog.cellsOf 9 = 1 := by kernel_rfl
theorem spaceData : (Rows.laid_strings_asciiSpace : DataW Unit) = Lib.tabData .u8 Lib.asciiSpaceTab := by kernel_rfl
theorem powData : (Rows.laid_internal_strconv_uint64pow10 : DataW Unit) = Lib.tabData .u64 Lib.pow10Tab := by kernel_rfl

/-- All rows of this seat list the same variables. -/
noncomputable abbrev laidL : List (String × DataW Unit) := Rows.meanFramesRow.laid

def tab32 : List Int := [0, 1, 28, 2, 29, 14, 24, 3, 30, 22, 20, 15, 25, 17, 4, 8, 31, 27, 13, 23, 21, 19, 16, 7, 26, 12, 18, 6, 11, 5, 10, 9]

def tab64 : List Int := [0, 1, 56, 2, 57, 49, 28, 3, 61, 58, 42, 50, 38, 29, 17, 4, 62, 47, 59, 36, 45, 43, 51, 22, 53, 39, 33, 30, 24, 18, 12, 5, 63, 55, 48, 27, 60, 41, 37, 16, 46, 35, 44, 21, 52, 32, 23, 11, 54, 26, 40, 15, 34, 20, 31, 10, 25, 14, 19, 9, 13, 8, 7, 6]

theorem star : "*" ++ "errors.errorString" = "*errors.errorString" := by decide
theorem row297 (u : TypeId) (h : Tryz.prog.typeName? 3 u = some "*errors.errorString") : u = 297 :=
  typeName_ptr_named (nm := "errors.errorString") (by rw [star]; kernel_rfl) (by kernel_rfl) (by decide) u (by rw [star]; exact h)

/-- WHAT THE ROW's LIST GIVES THE WALKS. -/
theorem w0_of_laid {W : World} (h : laidMetH Tryz.prog laidL W) : W0Ok W := by
  have h' : laidMet Tryz.prog laidL W := h
  have h1 := h'.tail.tail
  have h2 := h1.tail.tail
  have h3 := h2.tail.tail.tail
  refine ⟨?_, ?_, ?_, ?_⟩
  · rw [spaceData] at h3
    exact Lib.tabIs_of_head gSpace gSpaceType Tryz.underlying222 Tryz.underlying5 cells5 cells222 h3
  · rw [powData] at h1
    exact Lib.tabIs_of_head gPow gPowType Tryz.underlying271 Tryz.underlying209 cells209 cells271 h1
  · obtain ⟨a, s, hv, _⟩ := laid_sentinel h2.tail gErrS gErrSType Tryz.underlying153 row297 Tryz.underlying297 Tryz.underlying299 rfl rfl Tryz.underlying9 cells299 cells9
    exact ⟨_, World.var?_cell gErrS hv 0, .inr ⟨_, _, rfl⟩⟩
  · obtain ⟨a, s, hv, _⟩ := laid_sentinel h2 gErrR gErrRType Tryz.underlying153 row297 Tryz.underlying297 Tryz.underlying299 rfl rfl Tryz.underlying9 cells299 cells9
    exact ⟨_, World.var?_cell gErrR hv 0, .inr ⟨_, _, rfl⟩⟩

/-- A WORLD FOR THE WITNESS: the settled one, four blocks more, the listed variables holding what their initialisers lay. -/
noncomputable def laidWorld (os : Os) : World :=
  let N := (World.settled Tryz.prog os).heap.size
  let w0 := World.holding Tryz.prog os ⟨#[.cells (Lib.whiteT.map fun (z : Nat) => Value.int .u16 (z : Int)).toArray 292, .cells #[.slice (some ⟨N, 0, none⟩) 7 7, .slice none 0 0, .int .i64 2] 289,
    .cells #[.string ⟨#[105, 110, 118, 97, 108, 105, 100, 32, 115, 121, 110, 116, 97, 120]⟩] 299, .cells #[.string ⟨#[118, 97, 108, 117, 101, 32, 111, 117, 116, 32, 111, 102, 32, 114, 97, 110, 103, 101]⟩] 299], #[], []⟩
  let put (h : Array Obj) (g : Nat) (cs : Array Value) : Array Obj := h.modify g fun
    | .cells _ t frozen => .cells cs t frozen
    | o => o
  let h0 := put (put w0.heap 0 (Lib.asciiSpaceTab.map (Value.int .u8)).toArray) 4 (Lib.pow10Tab.map (Value.int .u64)).toArray
  let h1 := put (put (put h0 1 #[.pointer (some ⟨N + 1, 0, none⟩)]) 2 #[.iface 297 (.pointer (some ⟨N + 2, 0, none⟩))]) 3 #[.iface 297 (.pointer (some ⟨N + 3, 0, none⟩))]
  let h2 := put (put h1 6 (Lib.firstTab.map (Value.int .u8)).toArray) 7 ((List.range 16).flatMap fun i => [Value.int .u8 (Lib.accLo i), Value.int .u8 (Lib.accHi i)]).toArray
  let h3 := put (put h2 8 (tab32.map (Value.int .u8)).toArray) 9 (tab64.map (Value.int .u8)).toArray
  { w0 with heap := h3 }

noncomputable abbrev N0 : Nat := (World.settled Tryz.prog default).heap.size
set_option maxRecDepth 1000000 in
theorem laid_met (os : Os) (args : Array Value) : laidMet Tryz.prog laidL ((laidWorld os).forCall (fun _ _ => 0) ⟨#[], args, []⟩).memory :=
  (LaidIn.of_run [8, 9, 4, 7, 3, N0 + 3, 2, N0 + 2, 1, N0 + 1, N0, 0, 6] 10 (by kernel_rfl) (by kernel_rfl) (by kernel_rfl) (by kernel_rfl)).met

end Go.Proofs.YthgemggkogfhaaaGreatDoor

namespace Go.Proofs.YthgemggkogfhaaaGreatDoor
open Go.ChangeShapes Go.WideShapes Go.ChangeAt Go.RowKit Go.Am Go.Stop

theorem keptBut_below {w w' : World} (h : Below w.heap.size w w') (may : MemPlace → Prop) : w.keptBut w' may := by
  refine ⟨h.os, h.output, fun i hi => ?_⟩
  rw [h.block i hi]
  cases w.heap[i]? with
  | none => rfl
  | some o =>
    cases o with
    | cells c t fr => exact ⟨rfl, rfl, rfl, fun _ _ => rfl⟩
    | map es clock => exact .inr ⟨rfl, rfl⟩
    | _ => rfl

section
variable {H : Type} {enc : TypeId × Value → H} {P : Program}

/-- What a row asks of the world behind the call, where all old memory is as it was. -/
theorem post_of_below {f : Func} {s : ChangeSpec} {apart fresh handsOn again : Bool} {W W' : World} {args : Array Value} {v : Value} {ds gs : List (DataW H)} {before pa pv : List MemPlace}
    (hW : DataW.Whole enc P f.params.toList s.vars apart W args.toList ds gs before)
    (hres : ∀ (b : Nat) (sp : Nat → Bool) (hd : Bool), DataW.TrodAll enc P W' b sp hd f.resultTypes.toList (v.resultList f.resultTypes.size) (s.fn H (ds ++ gs)).results [])
    (hargs : ∀ sp : Nat → Bool, (∀ p ∈ before, sp p.block = true) → DataW.TrodAll enc P W' 0 sp true f.params.toList args.toList (s.fn H (ds ++ gs)).args pa)
    (hvars : ∀ sp : Nat → Bool, (∀ p ∈ before, sp p.block = true) → DataW.TrodVars enc P W' sp s.vars (s.fn H (ds ++ gs)).vars pv)
    (hps : before = pa ++ pv) (hb : Below W.heap.size W W')
    (hok : ∀ (j : Nat) (t : TypeId) (r : Value), f.resultTypes[j]? = some t → (v.resultList f.resultTypes.size)[j]? = some r → Value.okWide P W' .any 0 t r) :
    s.post enc P f apart fresh handsOn again W args v W' := by
  have hold : ∀ p ∈ before, (fun b => decide (b < W.heap.size)) p.block = true := fun p hp => by simpa using hW.lt p hp
  refine ⟨ds, gs, before, [], pa, pv, hW, hres _ _ _, hargs _ hold, hvars _ hold, World.keptBut_mono (fun p hp => ⟨hp, ?_⟩) (keptBut_below hb _), fun _ => ?_⟩
  · rw [hps, List.mem_append] at hp
    exact Or.inr hp
  · have hlt := hW.lt
    obtain ⟨_, _, _, _, _, hz, hn⟩ := hW
    refine ⟨hok, _, _, ([] ++ pa) ++ pv, ⟨[] ++ pa, pv, trodAll_append (hargs _ (fun _ _ => rfl)) (hres _ _ _), hvars _ (fun _ _ => rfl), rfl, ?_, ?_⟩, ?_⟩
    · intro b off hp
      have hp' : MemPlace.cell b off ∈ before := by rw [hps]; simpa using hp
      have h1 := hz b off hp'
      have h2 : b < W.heap.size := hlt _ hp'
      unfold World.frozen? at h1 ⊢
      simp only [hb.block b h2]
      exact h1
    · intro ha
      have := hn ha
      rw [hps] at this
      simpa using this
    · intro p hp _
      rw [hps]
      simpa using hp
end

section
variable {H : Type} {enc : TypeId × Value → H} {P : Program}
theorem open_int_at {W : World} {base b0 : Nat} {spare : Nat → Bool} {held : Bool} {ps : Array TypeId} {args : Array Value} (j : Nat) {t : TypeId} {k : IntKind} {v : Value} {d : DataW H} {pl : List MemPlace} (ht : P.underlying t = some (.int k))
    (hval : ∀ (j : Nat) t v, ps[j]? = some t → args[j]? = some v → Value.okWide P W .any base t v) (h1 : ps[j]? = some t) (h2 : args[j]? = some v) (hd : DataW.Trod enc P W b0 spare held t v d pl) :
    ∃ n, v = .int k n ∧ d = .lit (.int k n) ∧ pl = [] ∧ (Lit.int k n).wf = true := open_int ht (hval j t v h1 h2) hd
end

section
variable {P : Program}
/-- What a row asks of a law over one number. -/
theorem contract_int {fn : Func} {f : FuncId} {s : ChangeSpec} {t tb : TypeId} {k : IntKind} (hp : fn.params = #[t]) (hr : fn.resultTypes = #[tb]) (ht : P.underlying t = some (.int k)) (htb : P.underlying tb = some .bool)
    (hvars : s.vars = []) (hs : ∀ (H : Type) (d : DataW H), s.fn H [d] = { results := [.lit (.bool true)], args := [d] })
    (H : Type) (enc : TypeId × Value → H) (W : World) (base : Nat) (args : Array Value) (ds gs : List (DataW H)) (before : List MemPlace)
    (hval : ∀ (j : Nat) t v, fn.params[j]? = some t → args[j]? = some v → Value.okWide P W .any base t v)
    (hW : DataW.Whole enc P fn.params.toList s.vars false W args.toList ds gs before)
    (call : ∀ n, Calls P f #[.int k n] W fun e W' => e = .returned (.bool true) ∧ Below W.heap.size W W') :
    Calls P f args W fun e W' => ∃ v, e = .returned v ∧ s.post enc P fn false true false false W args v W' := by
  have hW' := hW
  obtain ⟨p, q, hA0, hV, rfl, hfz, hnd⟩ := hW
  have hA : DataW.TrodAll enc P W 0 (fun _ => true) true fn.params.toList args.toList ds p := hA0
  rw [hp] at hA hval
  obtain ⟨v0, vs0, d0, ds0, p0, q0, hargs, rfl, rfl, h0, r0⟩ := trodAll_cons hA
  obtain ⟨rfl, rfl, rfl⟩ := trodAll_nil r0
  obtain rfl : args = #[v0] := by cases args; simp_all
  rw [hvars] at hV
  obtain ⟨rfl, rfl⟩ := trodVars_none hV
  obtain ⟨n, rfl, rfl, rfl, hn⟩ := open_int_at 0 ht hval (by simp) (by simp) h0
  clear hA0
  simp only [List.append_nil] at hW'
  refine (call n).mono fun e W' ⟨he, hg⟩ => ?_
  subst he
  refine ⟨_, rfl, post_of_below (pa := []) (pv := []) hW' (fun b sp hd => ?_) (fun sp _ => ?_) (fun sp _ => ?_) rfl hg ?_⟩
  · rw [List.append_nil, hs, hr]; exact trodAll_cons_mk (shut_bool htb _) trodAll_mk0
  · rw [List.append_nil, hs, hp]; exact trodAll_cons_mk (shut_int ht hn) trodAll_mk0
  · rw [List.append_nil, hs, hvars]; rfl
  · exact ok_one hr rfl (okWide_bool_mk htb _)
end

/-- A call that the layer reckons from nothing to be true. -/
theorem calls_true {W : World} {E : Env} (hE : EnvOk Tryz.prog W E) {f : FuncId} {args : List AVal} {cargs : List Value} {φ : Phi} {σ0 : ASt} (hs : Sim W φ σ0 W) (hv : VRs φ W args cargs) (h : ∃ σ, evL E f args σ0 = .ok (.bool true) σ) :
    Calls Tryz.prog f cargs.toArray W fun e W' => e = .returned (.bool true) ∧ Below W.heap.size W W' := by
  obtain ⟨σ, h⟩ := h
  have := ((evL_ok hE).2 f args σ0 (by rw [h]; simp)).2 φ W cargs hs hv
  rw [h] at this
  refine this.mono ?_
  rintro e W' ⟨cv, φ', rfl, hv', _, s'⟩
  cases hv'
  exact ⟨rfl, s'.frame⟩

def phi0 : Phi := ⟨[], fun _ => 0⟩
theorem sim0 (W : World) : Sim W phi0 [] W :=
  ⟨rfl, fun g o r h => by simp at h, fun g g' o o' r r' b h => by simp at h, fun b h => by simp [phi0] at h, Below.refl _ _⟩

end Go.Proofs.YthgemggkogfhaaaGreatDoor

