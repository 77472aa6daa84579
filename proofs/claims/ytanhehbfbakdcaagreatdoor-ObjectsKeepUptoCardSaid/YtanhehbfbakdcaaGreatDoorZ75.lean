/- ObjectsKeep: the row. Turned from the seat's worked toy. -/
import Derived.Test.YtanhehbfbakdcaaGreatDoorZ74
/- ObjectsKeep: the row. Turned from the seat's worked toy. -/
set_option linter.unusedSimpArgs false
set_option linter.unusedVariables false
namespace Go.Proofs.YtanhehbfbakdcaaGreatDoor.objectsKeep
open Go Go.ChangeShapes Go.WideShapes Go.ChangeAt Go.RowKit Go.Deep
abbrev ps : Array TypeId := #[25, 30, 29]
theorem own : ownKnob Tryz.prog.godebug = none := by kernel_rfl
theorem params : Tryz.f7.params = ps := by kernel_rfl
theorem results : Tryz.f7.resultTypes = #[4] := by kernel_rfl
set_option maxRecDepth 100000 in
theorem law : Sl.LawG 7 ps := by
  intro H enc W base args ds p hA hv hb G
  obtain ⟨v0, v1, v2, d0, d1, d2, p0, p1, p2, rfl, rfl, rfl, h0, h1, h2⟩ := trodAll_three (show DataW.TrodAll enc Tryz.prog W 0 (fun _ => true) true [25, 30, 29] args.toList ds p from hA)
  obtain ⟨k0, k1, k2⟩ := Sl.gval3 (K := fun t v => Value.okWide Tryz.prog W .any base t v) hv
  simp only [Rows.uptoBulkAll] at hb
  obtain ⟨adL0, nL0, cL0, ls0, adB0, nB0, cB0, ts0, rfl, hLs0, hB0, hnL0, hnB0⟩ := Sl.oRaw k0 h0 (by omega)
  obtain ⟨mk, rfl⟩ := okWide_int (k := .u16) (by kernel_rfl) k1
  obtain ⟨f2, g2⟩ := h2
  obtain ⟨mo, rfl⟩ := Sl.open_u64 (by kernel_rfl) k2 g2
  exact Sl.c_ObjectsKeep G hLs0 hB0 hnL0 hnB0
abbrev wArgs : Array Value := #[.agg #[.slice none 0 0, .slice none 0 0], .int .u16 0, .int .u64 0]
theorem laid_met (os : Os) : laidMet Tryz.prog Sl.lRow ((Sl.laidWorld os).forCall (fun _ _ => 0) ⟨#[], wArgs, []⟩).memory := laidMet_of_run' 8 (by kernel_rfl) (by kernel_rfl)
theorem world_ok (os : Os) : ((Sl.laidWorld os).forCall (fun _ _ => 0) ⟨#[], wArgs, []⟩).variablesRefB Tryz.prog = true := by kernel_rfl
theorem world_rest (os : Os) : (((Sl.laidWorld os).forCall (fun _ _ => 0) ⟨#[], wArgs, []⟩).heap.toList.drop Tryz.prog.globals.size).take ((begin Tryz.prog (fun _ _ => 0) default).world.heap.size - Tryz.prog.globals.size) = (begin Tryz.prog (fun _ _ => 0) default).world.heap.toList.drop Tryz.prog.globals.size := by kernel_rfl
theorem reads (os : Os) {H : Type} (enc : TypeId × Value → H) : ∃ places, DataW.whole enc Tryz.prog ((Sl.laidWorld os).forCall (fun _ _ => 0) ⟨#[], wArgs, []⟩).memory [25, 30, 29] [] false wArgs.toList 8 = some ([.agg [.nil, .nil], .lit (.int .u16 0), .lit (.int .u64 0)], [], places) := ⟨[], by kernel_rfl⟩
set_option maxRecDepth 100000 in
theorem liftedUpto (os : Os) (started : os.Started) (H : Type) (enc : TypeId × Value → H) (F : Stop.Interp) :
    ReturnsInHanded {} Tryz.checked os 7 .any ((Rows.OpenSpec.upto Rows.objectsKeepSpec).preRow enc Tryz.prog Tryz.f7 Rows.objectsKeepUptoRow.domain false Rows.objectsKeepUptoRow.laid) (((Rows.OpenSpec.upto Rows.objectsKeepSpec).at F).post enc Tryz.prog Tryz.f7 false true false false) := by
  obtain ⟨places, hx⟩ := reads os enc
  refine returnsInHanded_of_row (C := Tryz.checked) (s := Rows.OpenSpec.upto Rows.objectsKeepSpec) own started (by kernel_rfl) Tryz.func7
    (witness_row_atRef (enc := enc) (C := Tryz.checked) false (Sl.laidWorld os) wArgs rfl (world_ok os) (world_rest os) (by kernel_rfl)
      (OpenSpec.preRow_of_cond 8 hx (by kernel_rfl) (fun k hk => by cases hk; kernel_rfl) (by kernel_rfl) (laid_met os))) ?_
  intro W base args ds gs before hval hW _ hcond _ hL _ _
  exact Sl.law_gen (s := Rows.objectsKeepSpec) law params results (by kernel_rfl) rfl (fun _ ds h => by obtain ⟨d0, d1, d2, rfl⟩ := Sl.glist3 h; rfl) hval hW (hcond _ rfl) hL
end Go.Proofs.YtanhehbfbakdcaaGreatDoor.objectsKeep
