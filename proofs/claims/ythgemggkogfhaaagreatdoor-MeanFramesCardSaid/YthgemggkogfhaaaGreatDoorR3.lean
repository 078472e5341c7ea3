/-
  The card of MeanFrames: whatever number is asked, the law answers true, the argument reads as before. Conditions: none.
-/
import Derived.Test.YthgemggkogfhaaaGreatDoorR2
namespace Go.Proofs.YthgemggkogfhaaaGreatDoor.meanFrames
open Go.ChangeShapes Go.WideShapes Go.ChangeAt Go.RowKit Go.Am Go.Stop

theorem plain (f : FuncId) (fn : Func) (hf : Tryz.pinned.checked.prog.funcNamed "binnacle/binnaclelaw19.MeanFrames" = some f) (hfn : Tryz.pinned.checked.prog.funcs[f]? = some fn) :
    true = Tryz.pinned.checked.prog.looks [] ∧ ∀ (j : Nat) t, fn.params[j]? = some t → Tryz.pinned.checked.prog.wantsStandIn t = false := by
  obtain rfl : f = 11 := Option.some.inj ((show Tryz.prog.funcNamed "binnacle/binnaclelaw19.MeanFrames" = some 11 by kernel_rfl).symm.trans hf) |>.symm
  obtain rfl : fn = Tryz.f11 := (Option.some.inj (Tryz.func11.symm.trans hfn)).symm
  refine ⟨by kernel_rfl, fun j t ht => ?_⟩
  rw [Tryz.params11] at ht
  obtain rfl : t = 3 := by simpa using Array.mem_of_getElem? ht
  exact (show Tryz.prog.wantsStandIn 3 = false by kernel_rfl)

theorem wfText : Rows.meanFramesRow.wfByText (OpenSpec.ofChange Rows.meanFramesSpec) = true := by kernel_rfl
theorem mainIs : Tryz.pinned.checked.prog.mainIs = some (true, "77b9ccebbdb4aef2f09ed85708f4374c34ebe0bc2763323b20f69ef6ff250b1e".toList) := by kernel_rfl
theorem goes : false = Rows.meanFramesRow.goesBy Tryz.pinned.checked.prog := by kernel_rfl

/-- THE CARD. -/
theorem card : Rows.MeanFramesCardSaid :=
  Claim7.holds_tied_plain_at .later [] _ _ _ _ said (fun _ h => by cases h) wfText (fun _ h => by cases h) meanFrames_row_tie rfl ⟨rfl, rfl⟩ mainIs rfl plain goes

end Go.Proofs.YthgemggkogfhaaaGreatDoor.meanFrames

