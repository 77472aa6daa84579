/- ObjectsAddresses: the card. Turned from the seat's worked toy. -/
import Derived.Test.YtanhehbfbakdcaaGreatDoorZA6
import Derived.Test.YtanhehbfbakdcaaGreatDoorCards
import Derived.Test.YtanhehbfbakdcaaGreatDoorTie
/- ObjectsAddresses: the card. Turned from the seat's worked toy. -/
set_option linter.unusedSimpArgs false
set_option linter.unusedVariables false
namespace Go.Proofs.YtanhehbfbakdcaaGreatDoor.objectsAddresses
open Go Go.ChangeShapes Go.WideShapes Go.ChangeAt Go.RowKit
theorem plain (f : FuncId) (g : Func) (hf : Tryz.pinned.checked.prog.funcNamed "wireloom/wireloomlaw18.ObjectsAddresses" = some f) (hfn : Tryz.pinned.checked.prog.funcs[f]? = some g) :
    true = Tryz.pinned.checked.prog.looks [] ∧ ∀ (j : Nat) t, g.params[j]? = some t → Tryz.pinned.checked.prog.wantsStandIn t = false := by
  obtain rfl : f = 4 := Option.some.inj ((show Tryz.prog.funcNamed "wireloom/wireloomlaw18.ObjectsAddresses" = some 4 by kernel_rfl).symm.trans hf) |>.symm
  obtain rfl : g = Tryz.f4 := (Option.some.inj (Tryz.func4.symm.trans hfn)).symm
  refine ⟨by kernel_rfl, fun j t ht => ?_⟩
  rw [params] at ht
  have hm := Array.mem_of_getElem? ht
  have : t = Sl.tRaw ∨ t = Sl.tBy := by simpa using hm
  rcases this with rfl | rfl
  · exact (show Tryz.prog.wantsStandIn Sl.tRaw = false by kernel_rfl)
  · exact (show Tryz.prog.wantsStandIn Sl.tBy = false by kernel_rfl)
theorem cardUpto : Rows.ObjectsAddressesUptoCardSaid :=
  Claim7.holds_tied_plain_at .later [] _ _ _ _ saidUpto (fun _ h => by cases h) (by kernel_rfl) (fun _ h => by cases h) objectsAddressesUpto_row_tie rfl ⟨rfl, rfl⟩ (by kernel_rfl) rfl plain (by kernel_rfl)
end Go.Proofs.YtanhehbfbakdcaaGreatDoor.objectsAddresses
