/-
  The law answers true, and turns nothing that was there. No conditions: a closed sentence. Here: what blazon/match.New answers is so.
-/
import Derived.Test.YtmhjdchoeeikaaaGreatDoorC
import Derived.Test.YtmhjdchoeeikaaaGreatDoorM1
namespace Go.Proofs.YtmhjdchoeeikaaaGreatDoor.storeNil
open Go.ChangeShapes Go.WideShapes Go.ChangeAt Go.RowKit
set_option linter.unusedVariables false
set_option maxRecDepth 1000000 in
theorem m2_run : X.memoB m2 (X.callTopF (cfg1 (X.memoL memo2) (X.memoL noX)) 1000000 36 m2.args (X.tabHp m2.ts) 1000) = true := by decide +kernel
theorem m2_ok : X.MemoOk Tryz.prog 36 m2 := X.memo_of_run (C := cfg1 (X.memoL memo2) (X.memoL noX)) (cfg _ _) (X.memoL_ok (memos2) (fun x h => by cases h)) follows1 (by rw [← X.callTopF_ok]; exact m2_run)
theorem m2_in : m2.ok = true := by decide +kernel
theorem memos3 : ∀ x ∈ memo3, x.2.ok = true ∧ X.MemoOk Tryz.prog x.1 x.2 := by
  intro x h
  simp only [memo3, List.mem_cons, List.not_mem_nil, or_false] at h
  rcases h with rfl | rfl | rfl
  · exact ⟨m2_in, m2_ok⟩
  · exact ⟨m1_in, m1_ok⟩
  · exact ⟨m0_in, m0_ok⟩
end Go.Proofs.YtmhjdchoeeikaaaGreatDoor.storeNil
