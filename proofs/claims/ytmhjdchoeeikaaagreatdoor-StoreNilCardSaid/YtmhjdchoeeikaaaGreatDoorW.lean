/-
  The law answers true, and turns nothing that was there. No conditions: a closed sentence. Here: a start that fits.
-/
import Derived.Test.YtmhjdchoeeikaaaGreatDoorRows
import Derived.ProofKit
import Derived.WalkKit
import Derived.OpenShut
import Derived.Lay
import Derived.LaidHandle
import Derived.LaidMore
import Derived.SevenTiedAt
namespace Go.Proofs.YtmhjdchoeeikaaaGreatDoor.storeNil
open Go.ChangeShapes Go.WideShapes Go.ChangeAt Go.RowKit
set_option linter.unusedVariables false
def laid1 : List (String × DataW Unit) := Rows.storeNilRow.laid
def plain1 : List (String × DataW Unit) := laid1.filter fun x => x.2.handleName?.isNone
noncomputable def world0 (os : Os) : World :=
  let w0 := World.holding Tryz.prog os ⟨#[], #[], []⟩
  { w0 with heap := w0.heap.modify 2 fun
      | .cells _ t frozen => .cells #[.iface 285 (.agg #[typeHandle Tryz.prog 72])] t frozen
      | o => o }
noncomputable def world1 (os : Os) : World := (world0 os).layVars Tryz.prog plain1
theorem met (os : Os) (args : Array Value) : laidMetH Tryz.prog laid1 ((world1 os).forCall (fun _ _ => 0) ⟨#[], args, []⟩).memory := by
  have e1 : (plain1.filter fun x => (plain1.map (·.1)).contains x.1) = plain1 := List.filter_eq_self.2 fun x hx => List.contains_iff_mem.2 (List.mem_map.2 ⟨x, hx, rfl⟩)
  have e2 : (plain1.filter fun x => !(plain1.map (·.1)).contains x.1) = [] := List.filter_eq_nil_iff.2 fun x hx => by rw [List.contains_iff_mem.2 (List.mem_map.2 ⟨x, hx, rfl⟩)]; simp
  have hh : ((world1 os).forCall (fun _ _ => 0) ⟨#[], args, []⟩).memory.heap = (world1 os).heap := by simp [World.memory, World.forCall, Input.heap]
  have h : laidMet Tryz.prog plain1 (world1 os) := laidMet_layVars (w0 := world0 os) (plain1.map (·.1)) [] (by rw [e1]; rfl) (by rw [e1]; kernel_rfl) (by rw [e1]; kernel_rfl) (by rw [e2]; exact LaidIn.none)
  have h' : laidMetH Tryz.prog laid1 (world1 os) := laidMetH_of_parts h (by kernel_rfl)
  exact h'.of_heap hh.symm
theorem shaped1 (os : Os) : ((world1 os).forCall (fun _ _ => 0) ⟨#[], #[], []⟩).Shaped Tryz.prog := World.shaped_of_ZipB (by kernel_rfl) (by kernel_rfl)
end Go.Proofs.YtmhjdchoeeikaaaGreatDoor.storeNil
