/-
  The contract and the row of MeanFrames. Conditions: none.
-/
import Derived.Test.YthgemggkogfhaaaGreatDoorR0
import Derived.Test.YthgemggkogfhaaaGreatDoorS4
import Derived.Test.YthgemggkogfhaaaGreatDoorR1
namespace Go.Proofs.YthgemggkogfhaaaGreatDoor.meanFrames
open Go.ChangeShapes Go.WideShapes Go.ChangeAt Go.RowKit Go.Am Go.Stop

set_option maxRecDepth 100000 in
theorem contract (H : Type) (enc : TypeId × Value → H) (W : World) (base : Nat) (args : Array Value) (ds gs : List (DataW H)) (before : List MemPlace)
    (hval : ∀ (j : Nat) t v, Tryz.f11.params[j]? = some t → args[j]? = some v → Value.okWide Tryz.prog W .any base t v)
    (hW : DataW.Whole enc Tryz.prog Tryz.f11.params.toList Rows.meanFramesSpec.vars false W args.toList ds gs before) (hL : laidMetH Tryz.prog Rows.meanFramesRow.laid W) :
    Calls Tryz.prog 11 args W fun e W' => ∃ v, e = .returned v ∧ Rows.meanFramesSpec.post enc Tryz.prog Tryz.f11 false true false false W args v W' :=
  contract_int Tryz.params11 (by kernel_rfl) Tryz.underlying3 Tryz.underlying4 rfl (fun _ _ => rfl) H enc W base args ds gs before hval hW fun n =>
    calls_true (f := 11) (args := [.int .i64 n]) (cargs := [.int .i64 n]) (φ := phi0) (σ0 := []) (okT (w0_of_laid hL)) (sim0 W) (VRs.cons (VR.int .i64 n) VRs.nil) (f11 n)

end Go.Proofs.YthgemggkogfhaaaGreatDoor.meanFrames

namespace Go.Proofs.YthgemggkogfhaaaGreatDoor.meanFrames
open Go.ChangeShapes Go.WideShapes Go.ChangeAt Go.RowKit Go.Am Go.Stop

theorem reads (os : Os) {H : Type} (enc : TypeId × Value → H) : ∃ places, DataW.whole enc Tryz.prog ((laidWorld os).forCall (fun _ _ => 0) ⟨#[], #[.int .i64 0], []⟩).memory Tryz.f11.params.toList Rows.meanFramesSpec.vars false #[Value.int .i64 0].toList 8 = some ([.lit (.int .i64 0)], [], places) :=
  ⟨[], by kernel_rfl⟩

set_option maxRecDepth 100000 in
theorem lifted (os : Os) (started : os.Started) (H : Type) (enc : TypeId × Value → H) (F : Stop.Interp) :
    ReturnsInHanded {} Tryz.checked os 11 .any ((OpenSpec.ofChange Rows.meanFramesSpec).preRow enc Tryz.prog Tryz.f11 Rows.meanFramesRow.domain false Rows.meanFramesRow.laid) (((OpenSpec.ofChange Rows.meanFramesSpec).at F).post enc Tryz.prog Tryz.f11 false true false false) := by
  obtain ⟨places, hx⟩ := reads os enc
  refine returnsInHanded_of_row (C := Tryz.checked) (s := OpenSpec.ofChange Rows.meanFramesSpec) own started (by kernel_rfl) Tryz.func11
    (witness_row_atRef (enc := enc) (C := Tryz.checked) false (laidWorld os) #[.int .i64 0] rfl (by kernel_rfl) (by kernel_rfl) (by kernel_rfl)
      (OpenSpec.preRow_of_cond 8 hx (by kernel_rfl) (fun k hk => by cases hk) (by kernel_rfl) (laid_met os _))) ?_
  intro W base args ds gs before hval hW _ _ _ hL _ _
  exact contract H enc W base args ds gs before hval hW hL

end Go.Proofs.YthgemggkogfhaaaGreatDoor.meanFrames

namespace Go.Proofs.YthgemggkogfhaaaGreatDoor.meanFrames
open Go.ChangeShapes Go.WideShapes Go.ChangeAt Go.RowKit Go.Am Go.Stop

theorem named : Tryz.pinned.checked.prog.funcNamed "binnacle/binnaclelaw19.MeanFrames" = some 11 := by kernel_rfl
theorem inst : Tryz.f11.isInstance Tryz.pinned.checked.prog Rows.meanFramesRow.origin Rows.meanFramesRow.targs := of_decide_eq_true (by kernel_rfl)
theorem wrap : Tryz.f11.isWrapper Tryz.pinned.checked.prog Rows.meanFramesRow.wrapper Rows.meanFramesRow.mainSum := by
  unfold Func.isWrapper; first | (rw [if_pos (by decide +kernel)]; kernel_rfl) | (rw [if_neg (by decide +kernel)]; exact ⟨rfl, rfl⟩)

theorem said : Rows.MeanFramesSaid :=
  OpenClaim.holds_of_cond 11 Tryz.f11 rfl rfl rfl rfl rfl rfl rfl ⟨rfl, rfl, rfl, rfl, rfl⟩ rfl rfl rfl rfl rfl named Tryz.func11 closed inst wrap
    (fun os started H enc _ F => by rw [OpenClaim.pre_eq_preRow]; exact lifted os started H enc F)

end Go.Proofs.YthgemggkogfhaaaGreatDoor.meanFrames

