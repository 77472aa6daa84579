/- ObjectsAddresses: the row. Turned from the seat's worked toy. -/
import Derived.Test.YtanhehbfbakdcaaGreatDoorZA4
/- ObjectsAddresses: the row. Turned from the seat's worked toy. -/
set_option linter.unusedSimpArgs false
set_option linter.unusedVariables false
namespace Go.Proofs.YtanhehbfbakdcaaGreatDoor.objectsAddresses
open Go Go.ChangeShapes Go.WideShapes Go.ChangeAt Go.RowKit
theorem own : ownKnob Tryz.prog.godebug = none := by kernel_rfl
theorem law : Sl.LawTrue 4 := fun G hLs hB hnL hnB hsa hna hsb hnb => Sl.c_ObjectsAddresses G hLs hB hnL hnB hsa hna hsb hnb
theorem params : Tryz.f4.params = #[Sl.tRaw, Sl.tBy, Sl.tBy] := by kernel_rfl
theorem results : Tryz.f4.resultTypes = #[4] := by kernel_rfl
set_option maxRecDepth 100000 in
theorem liftedUpto (os : Os) (started : os.Started) (H : Type) (enc : TypeId × Value → H) (F : Stop.Interp) :
    ReturnsInHanded {} Tryz.checked os 4 .any ((Rows.OpenSpec.upto Rows.objectsAddressesSpec).preRow enc Tryz.prog Tryz.f4 Rows.objectsAddressesUptoRow.domain false Rows.objectsAddressesUptoRow.laid) (((Rows.OpenSpec.upto Rows.objectsAddressesSpec).at F).post enc Tryz.prog Tryz.f4 false true false false) := by
  obtain ⟨places, hx⟩ := Sl.reads os enc
  refine returnsInHanded_of_row (C := Tryz.checked) (s := Rows.OpenSpec.upto Rows.objectsAddressesSpec) own started (by kernel_rfl) Tryz.func4
    (witness_row_atRef (enc := enc) (C := Tryz.checked) false (Sl.laidWorld os) Sl.wArgs rfl (Sl.world_ok os) (Sl.world_rest os) (by kernel_rfl)
      (OpenSpec.preRow_of_cond 8 hx (by kernel_rfl) (fun k hk => by cases hk; kernel_rfl) (by kernel_rfl) (Sl.laid_met os))) ?_
  intro W base args ds gs before hval hW _ hcond _ hL _ _
  exact Sl.law_contract (s := Rows.objectsAddressesSpec) law params results rfl (fun _ _ _ _ => rfl) hval hW (hcond _ rfl) hL
end Go.Proofs.YtanhehbfbakdcaaGreatDoor.objectsAddresses
