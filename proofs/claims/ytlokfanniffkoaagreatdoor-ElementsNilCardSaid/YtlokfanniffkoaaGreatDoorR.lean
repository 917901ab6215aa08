/-
  The law answers true, and turns nothing that was there. No conditions: a closed sentence. Here: the run.
-/
import Derived.Test.YtlokfanniffkoaaGreatDoorM1
namespace Go.Proofs.YtlokfanniffkoaaGreatDoor.elementsNil
open Go.ChangeShapes Go.WideShapes Go.ChangeAt Go.RowKit
set_option linter.unusedVariables false
set_option maxRecDepth 1000000 in
theorem run1 : X.allTrueT tabs1 (X.callTopF (cfg1 (X.memoL memo2)) 1000000 3 [] (X.tabHp tabs1) 1000) = true := by decide +kernel
theorem walk (w : World) (hw : ∀ t ∈ tabs1, X.TabIn w t) : Calls Tryz.prog 3 #[] w fun e w' => e = .returned (.bool true) ∧ Below w.heap.size w w' :=
  X.true_of_tabs (C := cfg1 (X.memoL memo2)) (cfg _) memos2 follows1 (ts := tabs1) (by decide +kernel) (by rw [← X.callTopF_ok]; exact run1) w hw
end Go.Proofs.YtlokfanniffkoaaGreatDoor.elementsNil
