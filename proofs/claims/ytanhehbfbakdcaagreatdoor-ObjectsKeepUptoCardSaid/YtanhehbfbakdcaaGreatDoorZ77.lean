/- ObjectsKeep: the card. Turned from the seat's worked toy. -/
import Derived.Test.YtanhehbfbakdcaaGreatDoorZ76
import Derived.Test.YtanhehbfbakdcaaGreatDoorCards
import Derived.Test.YtanhehbfbakdcaaGreatDoorTie
/- ObjectsKeep: the card. Turned from the seat's worked toy. -/
set_option linter.unusedSimpArgs false
set_option linter.unusedVariables false
namespace Go.Proofs.YtanhehbfbakdcaaGreatDoor.objectsKeep
open Go Go.ChangeShapes Go.WideShapes Go.ChangeAt Go.RowKit Go.Deep
theorem plain (f : FuncId) (g : Func) (hf : Tryz.pinned.checked.prog.funcNamed "wireloom/wireloomlaw18.ObjectsKeep" = some f) (hfn : Tryz.pinned.checked.prog.funcs[f]? = some g) :
    true = Tryz.pinned.checked.prog.looks [] ∧ ∀ (j : Nat) t, g.params[j]? = some t → Tryz.pinned.checked.prog.wantsStandIn t = false := by
  obtain rfl : f = 7 := Option.some.inj ((show Tryz.prog.funcNamed "wireloom/wireloomlaw18.ObjectsKeep" = some 7 by kernel_rfl).symm.trans hf) |>.symm
  obtain rfl : g = Tryz.f7 := (Option.some.inj (Tryz.func7.symm.trans hfn)).symm
  refine ⟨by kernel_rfl, fun j t ht => ?_⟩
  rw [params] at ht
  have hm := Array.mem_of_getElem? ht
  have hall : (ps.toList.all fun t => !Tryz.prog.wantsStandIn t) = true := by kernel_rfl
  have := List.all_eq_true.1 hall t (by simpa using hm)
  exact (show Tryz.prog.wantsStandIn t = false by simpa using this)
theorem cardUpto : Rows.ObjectsKeepUptoCardSaid :=
  Claim7.holds_tied_plain_at .later [] _ _ _ _ saidUpto (fun _ h => by cases h) (by kernel_rfl) (fun _ h => by cases h) objectsKeepUpto_row_tie rfl ⟨rfl, rfl⟩ (by kernel_rfl) rfl plain (by kernel_rfl)
end Go.Proofs.YtanhehbfbakdcaaGreatDoor.objectsKeep
