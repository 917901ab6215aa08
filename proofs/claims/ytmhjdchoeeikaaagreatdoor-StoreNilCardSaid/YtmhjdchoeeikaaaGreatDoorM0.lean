/-
  The law answers true, and turns nothing that was there. No conditions: a closed sentence. Here: what blazon/ucd.Of answers is so.
-/
import Derived.Test.YtmhjdchoeeikaaaGreatDoorC
namespace Go.Proofs.YtmhjdchoeeikaaaGreatDoor.storeNil
open Go.ChangeShapes Go.WideShapes Go.ChangeAt Go.RowKit
set_option linter.unusedVariables false
set_option maxRecDepth 1000000 in
theorem m0_run : X.memoB m0 (X.callTopF (cfg1 (X.memoL memo0) (X.memoL noX)) 1000000 75 m0.args (X.tabHp m0.ts) 1000) = true := by decide +kernel
theorem m0_ok : X.MemoOk Tryz.prog 75 m0 := X.memo_of_run (C := cfg1 (X.memoL memo0) (X.memoL noX)) (cfg _ _) (X.memoL_ok (fun x h => by cases h) (fun x h => by cases h)) follows1 (by rw [← X.callTopF_ok]; exact m0_run)
theorem m0_in : m0.ok = true := by decide +kernel
theorem memos1 : ∀ x ∈ memo1, x.2.ok = true ∧ X.MemoOk Tryz.prog x.1 x.2 := by
  intro x h
  simp only [memo1, List.mem_cons, List.not_mem_nil, or_false] at h
  rcases h with rfl
  · exact ⟨m0_in, m0_ok⟩
end Go.Proofs.YtmhjdchoeeikaaaGreatDoor.storeNil
