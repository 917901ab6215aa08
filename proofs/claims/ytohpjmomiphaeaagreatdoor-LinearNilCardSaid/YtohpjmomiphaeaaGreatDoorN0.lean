/-
  The law answers true, and turns nothing that was there. No conditions: a closed sentence. Here: what blazon/blazonlaw29.known does at one place is so.
-/
import Derived.Test.YtohpjmomiphaeaaGreatDoorN1
import Derived.Test.YtohpjmomiphaeaaGreatDoorN2
namespace Go.Proofs.YtohpjmomiphaeaaGreatDoor.linearNil
open Go.ChangeShapes Go.WideShapes Go.ChangeAt Go.RowKit
set_option linter.unusedVariables false
/-- what blazon/blazonlaw29.known does there -/
def x0 : X.MemoX := ⟨[], 11825, tabs1, [], (.bool true), 43289, [], []⟩
def xs0 : List (Nat × X.MemoX) := [(7, x1), (8, x2)]
theorem xs0_ok : ∀ x ∈ xs0, x.2.ok = true ∧ X.MemoXOk Tryz.prog x.1 x.2 := by
  intro x h
  simp only [xs0, List.mem_cons, List.not_mem_nil, or_false] at h
  rcases h with rfl | rfl
  · exact ⟨x1_in, x1_ok⟩
  · exact ⟨x2_in, x2_ok⟩
set_option maxRecDepth 1000000 in
theorem x0_run : X.memoXB x0 (X.callTopF (cfg1 (X.memoL memo7) (X.memoL xs0)) 1000000 11 x0.args (X.mkX x0.ts x0.pre) x0.nx) = true := by decide +kernel
theorem x0_ok : X.MemoXOk Tryz.prog 11 x0 := X.memoX_of_run (C := cfg1 (X.memoL memo7) (X.memoL xs0)) (cfg _ _) (X.memoL_ok (memos7) xs0_ok) follows1 (by rw [← X.callTopF_ok]; exact x0_run)
theorem x0_in : x0.ok = true := by decide +kernel
end Go.Proofs.YtohpjmomiphaeaaGreatDoor.linearNil
