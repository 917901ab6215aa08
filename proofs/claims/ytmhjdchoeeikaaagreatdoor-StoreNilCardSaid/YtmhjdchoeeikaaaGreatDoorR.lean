/-
  The law answers true, and turns nothing that was there. No conditions: a closed sentence. Here: the run.
-/
import Derived.Test.YtmhjdchoeeikaaaGreatDoorN0
import Derived.Test.YtmhjdchoeeikaaaGreatDoorN1
namespace Go.Proofs.YtmhjdchoeeikaaaGreatDoor.storeNil
open Go.ChangeShapes Go.WideShapes Go.ChangeAt Go.RowKit
set_option linter.unusedVariables false
def xsR : List (Nat × X.MemoX) := [(9, x0), (9, x1)]
theorem xsR_ok : ∀ x ∈ xsR, x.2.ok = true ∧ X.MemoXOk Tryz.prog x.1 x.2 := by
  intro x h
  simp only [xsR, List.mem_cons, List.not_mem_nil, or_false] at h
  rcases h with rfl | rfl
  · exact ⟨x0_in, x0_ok⟩
  · exact ⟨x1_in, x1_ok⟩
set_option maxRecDepth 1000000 in
theorem run1 : X.allTrueT tabs1 (X.callTopF (cfg1 (X.memoL memo9) (X.memoL xsR)) 1000000 3 [] (X.tabHp tabs1) 1000) = true := by decide +kernel
theorem walk (w : World) (hw : ∀ t ∈ tabs1, X.TabIn w t) : Calls Tryz.prog 3 #[] w fun e w' => e = .returned (.bool true) ∧ Below w.heap.size w w' :=
  X.true_of_tabs (C := cfg1 (X.memoL memo9) (X.memoL xsR)) (cfg _ _) (X.memoL_ok (memos9) xsR_ok) follows1 (ts := tabs1) (by decide +kernel) (by rw [← X.callTopF_ok]; exact run1) w hw
end Go.Proofs.YtmhjdchoeeikaaaGreatDoor.storeNil
