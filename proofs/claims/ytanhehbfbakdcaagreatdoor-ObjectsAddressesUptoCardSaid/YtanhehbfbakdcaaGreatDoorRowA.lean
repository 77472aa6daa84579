/- ObjectsAddresses: the row and its card. Turned from the seat's worked toy. -/
import Derived.Test.YtanhehbfbakdcaaGreatDoorWorld
import Derived.Test.YtanhehbfbakdcaaGreatDoorLaw4
import Derived.Test.YtanhehbfbakdcaaGreatDoorCards
import Derived.Test.YtanhehbfbakdcaaGreatDoorTie
set_option linter.unusedVariables false
namespace Go.Proofs.YtanhehbfbakdcaaGreatDoor.objectsAddresses
open Go Go.ChangeShapes Go.WideShapes Go.ChangeAt Go.RowKit
theorem own : ownKnob Tryz.prog.godebug = none := by kernel_rfl
theorem law : Sl.LawTrue 4 := fun G hLs hB hnL hnB hsa hna hsb hnb => Sl.c_ObjectsAddresses G hLs hB hnL hnB hsa hna hsb hnb
theorem params : Tryz.f4.params = #[Sl.tRaw, Sl.tBy, Sl.tBy] := by kernel_rfl
theorem results : Tryz.f4.resultTypes = #[4] := by kernel_rfl
set_option maxRecDepth 100000 in
theorem liftedUpto (os : Os) (started : os.Started) (H : Type) (enc : TypeId × Value → H) (F : Stop.Interp) :
    ReturnsInHanded {} Tryz.checked os 4 .any ((Rows.OpenSpec.upto Rows.objectsAddressesSpec).preRow enc Tryz.prog Tryz.f4 Rows.objectsAddressesUptoRow.domain false Rows.objectsAddressesUptoRow.laid) (((Rows.OpenSpec.upto Rows.objectsAddressesSpec).at F).post enc Tryz.prog Tryz.f4 false true false false) := by
  obtain ⟨places, hx⟩ := Sl.reads os enc
  refine returnsInHanded_of_row (C := Tryz.checked) (s := Rows.OpenSpec.upto Rows.objectsAddressesSpec) own started (by kernel_rfl) Tryz.func4
    (witness_row_atRef (enc := enc) (C := Tryz.checked) false (Sl.laidWorld os) Sl.wArgs rfl (Sl.world_ok os) (Sl.world_rest os) (by kernel_rfl)
      (OpenSpec.preRow_of_cond 8 hx (by kernel_rfl) (fun k hk => by cases hk; kernel_rfl) (by kernel_rfl) (Sl.laid_met os))) ?_
  intro W base args ds gs before hval hW _ hcond _ hL _ _
  exact Sl.law_contract (s := Rows.objectsAddressesSpec) law params results rfl (fun _ _ _ _ => rfl) hval hW (hcond _ rfl) hL
theorem saidUpto : Rows.ObjectsAddressesUptoSaid :=
  OpenClaim.holds_of_cond 4 Tryz.f4 rfl rfl rfl rfl rfl rfl rfl ⟨rfl, rfl, rfl, rfl, rfl⟩ rfl rfl rfl rfl rfl (by kernel_rfl) Tryz.func4 (by kernel_rfl)
    (of_decide_eq_true (by kernel_rfl)) (by unfold Func.isWrapper; first | (rw [if_pos (by decide +kernel)]; kernel_rfl) | (rw [if_neg (by decide +kernel)]; exact ⟨rfl, rfl⟩))
    (fun os started H enc _ F => by rw [OpenClaim.pre_eq_preRow]; exact liftedUpto os started H enc F)
theorem plain (f : FuncId) (g : Func) (hf : Tryz.pinned.checked.prog.funcNamed "wireloom/wireloomlaw18.ObjectsAddresses" = some f) (hfn : Tryz.pinned.checked.prog.funcs[f]? = some g) :
    true = Tryz.pinned.checked.prog.looks [] ∧ ∀ (j : Nat) t, g.params[j]? = some t → Tryz.pinned.checked.prog.wantsStandIn t = false := by
  obtain rfl : f = 4 := Option.some.inj ((show Tryz.prog.funcNamed "wireloom/wireloomlaw18.ObjectsAddresses" = some 4 by kernel_rfl).symm.trans hf) |>.symm
  obtain rfl : g = Tryz.f4 := (Option.some.inj (Tryz.func4.symm.trans hfn)).symm
  refine ⟨by kernel_rfl, fun j t ht => ?_⟩
  rw [params] at ht
  have hm := Array.mem_of_getElem? ht
  have : t = Sl.tRaw ∨ t = Sl.tBy := by simpa using hm
  rcases this with rfl | rfl
  · exact (show Tryz.prog.wantsStandIn Sl.tRaw = false by kernel_rfl)
  · exact (show Tryz.prog.wantsStandIn Sl.tBy = false by kernel_rfl)
theorem cardUpto : Rows.ObjectsAddressesUptoCardSaid :=
  Claim7.holds_tied_plain_at .later [] _ _ _ _ saidUpto (fun _ h => by cases h) (by kernel_rfl) (fun _ h => by cases h) objectsAddressesUpto_row_tie rfl ⟨rfl, rfl⟩ (by kernel_rfl) rfl plain (by kernel_rfl)
end Go.Proofs.YtanhehbfbakdcaaGreatDoor.objectsAddresses
