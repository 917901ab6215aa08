/-
  The law answers true, and turns nothing that was there. No conditions: a closed sentence. Here: what blazon/blazonref12.New answers is so.
-/
import Derived.Test.YtmhjdchoeeikaaaGreatDoorC
import Derived.Test.YtmhjdchoeeikaaaGreatDoorM2
namespace Go.Proofs.YtmhjdchoeeikaaaGreatDoor.storeNil
open Go.ChangeShapes Go.WideShapes Go.ChangeAt Go.RowKit
set_option linter.unusedVariables false
set_option maxRecDepth 1000000 in
theorem m3_run : X.memoB m3 (X.callTopF (cfg1 (X.memoL memo3) (X.memoL noX)) 1000000 73 m3.args (X.tabHp m3.ts) 1000) = true := by decide +kernel
theorem m3_ok : X.MemoOk Tryz.prog 73 m3 := X.memo_of_run (C := cfg1 (X.memoL memo3) (X.memoL noX)) (cfg _ _) (X.memoL_ok (memos3) (fun x h => by cases h)) follows1 (by rw [← X.callTopF_ok]; exact m3_run)
theorem m3_in : m3.ok = true := by decide +kernel
theorem memos4 : ∀ x ∈ memo4, x.2.ok = true ∧ X.MemoOk Tryz.prog x.1 x.2 := by
  intro x h
  simp only [memo4, List.mem_cons, List.not_mem_nil, or_false] at h
  rcases h with rfl | rfl | rfl | rfl
  · exact ⟨m3_in, m3_ok⟩
  · exact ⟨m2_in, m2_ok⟩
  · exact ⟨m1_in, m1_ok⟩
  · exact ⟨m0_in, m0_ok⟩
end Go.Proofs.YtmhjdchoeeikaaaGreatDoor.storeNil
