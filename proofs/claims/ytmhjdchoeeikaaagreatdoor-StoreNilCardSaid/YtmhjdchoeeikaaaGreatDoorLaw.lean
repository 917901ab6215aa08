/-
  The law answers true, and turns nothing that was there. No conditions: a closed sentence. The tied card: the listed variables start as the program lays them.
-/
import Derived.Test.YtmhjdchoeeikaaaGreatDoorO
import Derived.Test.YtmhjdchoeeikaaaGreatDoorCards
import Derived.Test.YtmhjdchoeeikaaaGreatDoorTie
import Derived.WalkKit
import Derived.OpenShut
import Derived.SevenTiedAt
namespace Go.Proofs.YtmhjdchoeeikaaaGreatDoor.storeNil
open Go.ChangeShapes Go.WideShapes Go.ChangeAt Go.RowKit
set_option linter.unusedVariables false
theorem goes_false {P : Program} (h : (P.funcs.toList.all fun fn => !fn.goes) = true) (f : FuncId) : P.goes f = false := by
  have hm : ∀ fn ∈ P.funcs.toList, fn.goes = false := fun fn hf => by simpa using List.all_eq_true.1 h fn hf
  have hg : ∀ g : Nat, (P.funcs[g]?).any Func.goes = false := by
    intro g
    cases hh : P.funcs[g]? with
    | none => rfl
    | some fn => exact hm fn (by rw [Array.mem_toList_iff]; exact Array.mem_of_getElem? hh)
  have ha : P.funcs.any Func.goes = false := by
    rw [← Array.any_toList, List.any_eq_false]
    intro fn hf
    simp [hm fn hf]
  unfold Program.goes
  rw [ha, Bool.and_false, Bool.or_false, List.any_eq_false]
  intro g _
  simp [hg g]
theorem goesBy_false {c : OpenClaim} {P : Program} (hs : c.start = .entering) (h : (P.funcs.toList.all fun fn => !fn.goes) = true) : false = c.goesBy P := by
  unfold OpenClaim.goesBy Program.goesAt Program.goesFrom
  rw [hs]
  cases P.funcNamed c.func with
  | none => rfl
  | some f => simp [goes_false h f]
theorem goes0 : (Tryz.pinned.checked.prog.funcs.toList.all fun fn => !fn.goes) = true := by kernel_rfl
theorem proved : Rows.StoreNilCardSaid :=
  Claim7.holds_tied_plain_at .later [] [.data, .data, .data, .data, .handle, .sentinel, .sentinel, .pinned] true (true, "b4926e224a32d552142db568a52f423a5e736b456434b81d4f6549a761ee751a") true
    over (fun _ h => by cases h) (by as_aux_lemma => kernel_rfl) (fun _ h => by cases h) storeNil_row_tie rfl ⟨rfl, rfl⟩ (by as_aux_lemma => kernel_rfl) rfl
    (fun f fn hf hfn => by
      obtain rfl : f = 3 := Option.some.inj ((show Tryz.prog.funcNamed "blazon/blazonlaw20.StoreNil" = some 3 by as_aux_lemma => kernel_rfl).symm.trans hf) |>.symm
      obtain rfl : fn = Tryz.f3 := (Option.some.inj (Tryz.func3.symm.trans hfn)).symm
      exact ⟨by as_aux_lemma => kernel_rfl, fun j t ht => by
        rw [Tryz.params3] at ht
        simp at ht⟩)
    (goesBy_false rfl goes0)
#print axioms proved
end Go.Proofs.YtmhjdchoeeikaaaGreatDoor.storeNil
