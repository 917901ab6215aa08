/-
  The law answers true, and turns nothing that was there. No conditions: a closed sentence. Here: what blazon/ducet.New answers is so.
-/
import Derived.Test.YtmhjdchoeeikaaaGreatDoorC
import Derived.Test.YtmhjdchoeeikaaaGreatDoorM0
namespace Go.Proofs.YtmhjdchoeeikaaaGreatDoor.storeNil
open Go.ChangeShapes Go.WideShapes Go.ChangeAt Go.RowKit
set_option linter.unusedVariables false
set_option maxRecDepth 1000000 in
theorem m1_run : X.memoB m1 (X.callTopF (cfg1 (X.memoL memo1) (X.memoL noX)) 1000000 37 m1.args (X.tabHp m1.ts) 1000) = true := by decide +kernel
theorem m1_ok : X.MemoOk Tryz.prog 37 m1 := X.memo_of_run (C := cfg1 (X.memoL memo1) (X.memoL noX)) (cfg _ _) (X.memoL_ok (memos1) (fun x h => by cases h)) follows1 (by rw [← X.callTopF_ok]; exact m1_run)
theorem m1_in : m1.ok = true := by decide +kernel
theorem memos2 : ∀ x ∈ memo2, x.2.ok = true ∧ X.MemoOk Tryz.prog x.1 x.2 := by
  intro x h
  simp only [memo2, List.mem_cons, List.not_mem_nil, or_false] at h
  rcases h with rfl | rfl
  · exact ⟨m1_in, m1_ok⟩
  · exact ⟨m0_in, m0_ok⟩
end Go.Proofs.YtmhjdchoeeikaaaGreatDoor.storeNil
