/-
  The law answers true, and turns nothing that was there. No conditions: a closed sentence. Here: what blazon/blazonref20.New answers is so.
-/
import Derived.Test.YtmhjdchoeeikaaaGreatDoorC
import Derived.Test.YtmhjdchoeeikaaaGreatDoorM5
namespace Go.Proofs.YtmhjdchoeeikaaaGreatDoor.storeNil
open Go.ChangeShapes Go.WideShapes Go.ChangeAt Go.RowKit
set_option linter.unusedVariables false
set_option maxRecDepth 1000000 in
theorem m6_run : X.memoB m6 (X.callTopF (cfg1 (X.memoL memo6) (X.memoL noX)) 1000000 35 m6.args (X.tabHp m6.ts) 1000) = true := by decide +kernel
theorem m6_ok : X.MemoOk Tryz.prog 35 m6 := X.memo_of_run (C := cfg1 (X.memoL memo6) (X.memoL noX)) (cfg _ _) (X.memoL_ok (memos6) (fun x h => by cases h)) follows1 (by rw [← X.callTopF_ok]; exact m6_run)
theorem m6_in : m6.ok = true := by decide +kernel
theorem memos7 : ∀ x ∈ memo7, x.2.ok = true ∧ X.MemoOk Tryz.prog x.1 x.2 := by
  intro x h
  simp only [memo7, List.mem_cons, List.not_mem_nil, or_false] at h
  rcases h with rfl | rfl | rfl | rfl | rfl | rfl | rfl
  · exact ⟨m6_in, m6_ok⟩
  · exact ⟨m5_in, m5_ok⟩
  · exact ⟨m4_in, m4_ok⟩
  · exact ⟨m3_in, m3_ok⟩
  · exact ⟨m2_in, m2_ok⟩
  · exact ⟨m1_in, m1_ok⟩
  · exact ⟨m0_in, m0_ok⟩
end Go.Proofs.YtmhjdchoeeikaaaGreatDoor.storeNil
