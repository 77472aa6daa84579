/- A world that holds what the rows list. Own work. -/
import Derived.Test.YtanhehbfbakdcaaGreatDoorHand
import Derived.Deep.DeepWitnessRowRef
import Derived.OpenShut
set_option linter.unusedSimpArgs false
set_option linter.unusedVariables false
namespace Go.Proofs.YtanhehbfbakdcaaGreatDoor
namespace Sl
open Go Go.RowKit Go.ChangeShapes Go.WideShapes Go.Deep
def putB (g : Nat) (cs : Array Value) (h : Array Go.Obj) : Array Go.Obj := h.modify g fun
  | .cells _ t fr => .cells cs t fr
  | o => o
def aggCells : DataW Unit → Array Value
  | .agg l => (l.map fun d => match d with | .lit x => decL x | _ => .nilIface).toArray
  | _ => #[]
def mapObj : DataW Unit → Go.Obj
  | .map l => .map (l.zipIdx.map fun p => (⟨(dec p.1).1, (dec p.1).2, p.2⟩ : MapEntry)).toArray l.length
  | _ => .map #[] 0
def errText : DataW Unit → Value
  | .iface _ (.ptr (.agg [.lit x])) => decL x
  | _ => .nilIface
noncomputable def low : Nat := (World.holding Tryz.prog default ⟨#[], #[], []⟩).heap.size
noncomputable def laidWorld (os : Os) : World :=
  let w0 := World.holding Tryz.prog os ⟨#[.cells #[errText Rows.laid_strconv_ErrRange] 314, .cells #[errText Rows.laid_strconv_ErrSyntax] 314, mapObj Rows.laid_wireloom_syntax_reserved, mapObj Rows.laid_wireloom_syntax_operators], #[], []⟩
  let h1 := putB 6 (aggCells Rows.laid_math_bits_deBruijn32tab) w0.heap
  let h2 := putB 7 (aggCells Rows.laid_math_bits_deBruijn64tab) h1
  let h3 := putB 3 (aggCells Rows.laid_internal_strconv_uint64pow10) h2
  let h4 := putB 5 #[Value.iface 312 (.pointer (some ⟨low, 0, none⟩))] h3
  let h5 := putB 4 #[Value.iface 312 (.pointer (some ⟨low + 1, 0, none⟩))] h4
  let h6 := putB 0 #[Value.map (some (low + 2))] h5
  let h7 := putB 1 #[Value.map (some (low + 3))] h6
  { w0 with heap := h7 }
abbrev wArgs : Array Value := #[.agg #[.slice none 0 0, .slice none 0 0], .slice none 0 0, .slice none 0 0]
theorem laid_met (os : Os) : laidMet Tryz.prog lRow ((laidWorld os).forCall (fun _ _ => 0) ⟨#[], wArgs, []⟩).memory :=
  laidMet_of_run' 8 (by kernel_rfl) (by kernel_rfl)
theorem world_ok (os : Os) : ((laidWorld os).forCall (fun _ _ => 0) ⟨#[], wArgs, []⟩).variablesRefB Tryz.prog = true := by kernel_rfl
theorem world_rest (os : Os) : (((laidWorld os).forCall (fun _ _ => 0) ⟨#[], wArgs, []⟩).heap.toList.drop Tryz.prog.globals.size).take ((begin Tryz.prog (fun _ _ => 0) default).world.heap.size - Tryz.prog.globals.size) =
      (begin Tryz.prog (fun _ _ => 0) default).world.heap.toList.drop Tryz.prog.globals.size := by kernel_rfl
theorem reads (os : Os) {H : Type} (enc : TypeId × Value → H) : ∃ places, DataW.whole enc Tryz.prog ((laidWorld os).forCall (fun _ _ => 0) ⟨#[], wArgs, []⟩).memory [tRaw, tBy, tBy] [] false wArgs.toList 8 = some ([.agg [.nil, .nil], .nil, .nil], [], places) :=
  ⟨[], by kernel_rfl⟩
end Sl
end Go.Proofs.YtanhehbfbakdcaaGreatDoor
