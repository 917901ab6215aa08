/-
  The law answers true, and turns nothing that was there. No conditions: a closed sentence. Here: what blazon/linear.Check does at one place is so.
-/
import Derived.Test.YtohpjmomiphaeaaGreatDoorM6
namespace Go.Proofs.YtohpjmomiphaeaaGreatDoor.linearNil
open Go.ChangeShapes Go.WideShapes Go.ChangeAt Go.RowKit
set_option linter.unusedVariables false
/-- what blazon/linear.Check does there -/
def x2 : X.MemoX := ⟨[(.ptr 18613 0), (.slc 35152 0 2 2 16 true), (.slc 35151 0 2 0 9 false)], 35153, tabs1, [(15443, .map 21 [⟨(.int .i32 (.ofNat 225)), (.agg [(.slc 16178 0 2 0 1 false), (.bool true)])⟩, ⟨(.int .i32 (.ofNat 229)), (.agg [(.slc 16317 0 2 0 1 false), (.bool true)])⟩] 2),
  (15446, .cells [(.ptr 16990 0), (.ptr 17750 0), (.map 15443), (.map 15444), (.map 15445)] 320 0),
  (16990, .cells [(.slc 17694 0 10 0 3 false), (.bool true)] 449 0),
  (17694, .cells [(.int .i32 (.ofNat 32)), (.int .i32 (.ofNat 32)), (.int .i64 (.ofNat 23155)), (.int .i32 (.ofNat 45)), (.int .i32 (.ofNat 45)), (.int .i64 (.ofNat 20580)), (.int .i32 (.ofNat 65)), (.int .i32 (.ofNat 65)), (.int .i64 (.ofNat 19573)), (.int .i32 (.ofNat 97)), (.int .i32 (.ofNat 99)), (.int .i64 (.ofNat 19564)), (.int .i32 (.ofNat 104)), (.int .i32 (.ofNat 104)), (.int .i64 (.ofNat 19564)), (.int .i32 (.ofNat 225)), (.int .i32 (.ofNat 225)), (.int .i64 (.ofNat 19564)), (.int .i32 (.ofNat 229)), (.int .i32 (.ofNat 229)), (.int .i64 (.ofNat 19564)), (.int .i32 (.ofNat 769)), (.int .i32 (.ofNat 769)), (.int .i64 (.ofNat 19822)), (.int .i32 (.ofNat 778)), (.int .i32 (.ofNat 778)), (.int .i64 (.ofNat 19822)), (.int .i32 (.ofNat 803)), (.int .i32 (.ofNat 803)), (.int .i64 (.ofNat 19822))] 440 0),
  (17750, .cells [(.slc 17927 0 3 0 3 false), (.bool true)] 449 0),
  (17927, .cells [(.int .i32 (.ofNat 769)), (.int .i32 (.ofNat 769)), (.int .i64 (.ofNat 230)), (.int .i32 (.ofNat 778)), (.int .i32 (.ofNat 778)), (.int .i64 (.ofNat 230)), (.int .i32 (.ofNat 803)), (.int .i32 (.ofNat 803)), (.int .i64 (.ofNat 220))] 440 0),
  (18032, .map 21 [⟨(.int .i32 (.ofNat 65)), (.slc 18101 0 1 0 1 false)⟩] 1),
  (18034, .cells [(.map 18032), (.map 18033)] 354 0),
  (18162, .cells [(.ptr 15446 0), (.ptr 18034 0)] 128 0),
  (18165, .map 153 [⟨(.agg [(.int .i32 (.ofNat 32)), (.int .i32 (.ofNat 0)), (.int .i32 (.ofNat 0)), (.int .i32 (.ofNat 0)), (.int .i64 (.ofNat 1))]), (.slc 18187 0 1 0 4 false)⟩, ⟨(.agg [(.int .i32 (.ofNat 45)), (.int .i32 (.ofNat 0)), (.int .i32 (.ofNat 0)), (.int .i32 (.ofNat 0)), (.int .i64 (.ofNat 1))]), (.slc 18222 0 1 0 4 false)⟩, ⟨(.agg [(.int .i32 (.ofNat 97)), (.int .i32 (.ofNat 0)), (.int .i32 (.ofNat 0)), (.int .i32 (.ofNat 0)), (.int .i64 (.ofNat 1))]), (.slc 18257 0 1 0 4 false)⟩, ⟨(.agg [(.int .i32 (.ofNat 65)), (.int .i32 (.ofNat 0)), (.int .i32 (.ofNat 0)), (.int .i32 (.ofNat 0)), (.int .i64 (.ofNat 1))]), (.slc 18292 0 1 0 4 false)⟩, ⟨(.agg [(.int .i32 (.ofNat 98)), (.int .i32 (.ofNat 0)), (.int .i32 (.ofNat 0)), (.int .i32 (.ofNat 0)), (.int .i64 (.ofNat 1))]), (.slc 18327 0 1 0 4 false)⟩, ⟨(.agg [(.int .i32 (.ofNat 99)), (.int .i32 (.ofNat 0)), (.int .i32 (.ofNat 0)), (.int .i32 (.ofNat 0)), (.int .i64 (.ofNat 1))]), (.slc 18362 0 1 0 4 false)⟩, ⟨(.agg [(.int .i32 (.ofNat 104)), (.int .i32 (.ofNat 0)), (.int .i32 (.ofNat 0)), (.int .i32 (.ofNat 0)), (.int .i64 (.ofNat 1))]), (.slc 18397 0 1 0 4 false)⟩, ⟨(.agg [(.int .i32 (.ofNat 99)), (.int .i32 (.ofNat 104)), (.int .i32 (.ofNat 0)), (.int .i32 (.ofNat 0)), (.int .i64 (.ofNat 2))]), (.slc 18434 0 1 0 4 false)⟩, ⟨(.agg [(.int .i32 (.ofNat 769)), (.int .i32 (.ofNat 0)), (.int .i32 (.ofNat 0)), (.int .i32 (.ofNat 0)), (.int .i64 (.ofNat 1))]), (.slc 18469 0 1 0 4 false)⟩, ⟨(.agg [(.int .i32 (.ofNat 803)), (.int .i32 (.ofNat 0)), (.int .i32 (.ofNat 0)), (.int .i32 (.ofNat 0)), (.int .i64 (.ofNat 1))]), (.slc 18504 0 1 0 4 false)⟩, ⟨(.agg [(.int .i32 (.ofNat 778)), (.int .i32 (.ofNat 0)), (.int .i32 (.ofNat 0)), (.int .i32 (.ofNat 0)), (.int .i64 (.ofNat 1))]), (.slc 18539 0 1 0 4 false)⟩, ⟨(.agg [(.int .i32 (.ofNat 97)), (.int .i32 (.ofNat 778)), (.int .i32 (.ofNat 0)), (.int .i32 (.ofNat 0)), (.int .i64 (.ofNat 2))]), (.slc 18576 0 1 0 4 false)⟩] 12),
  (18166, .cells [(.map 18165), .nils] 132 0),
  (18187, .cells [(.int .u16 (.ofNat 521)), (.int .u16 (.ofNat 32)), (.int .u16 (.ofNat 2)), (.bool true)] 260 0),
  (18257, .cells [(.int .u16 (.ofNat 7239)), (.int .u16 (.ofNat 32)), (.int .u16 (.ofNat 2)), (.bool false)] 260 0),
  (18609, .cells [(.ptr 15446 0), (.ptr 18166 0), (.bool false), (.int .i64 (.ofNat 3))] 159 0),
  (18611, .cells [.nils, .nils] 268 0),
  (18612, .cells [(.int .i64 (.ofNat 8)), (.ptr 18611 0), (.int .i64 (.ofNat 0))] 270 0),
  (18613, .cells [(.ptr 18162 0), (.ptr 18609 0), (.int .i64 (.ofNat 5)), (.int .i64 (.ofNat 100)), (.ptr 18612 0), (.int .i64 (.ofNat 0))] 164 0),
  (26855, .cells [(.str 97 1), .nils] 105 0),
  (35151, .cells [(.int .u64 (.ofNat 1)), (.int .u64 (.ofNat 1)), (.int .i64 (.ofNat 1)), (.str 97 1), (.str 0 0), .nils, .nils, .nils, (.int .i64 (.ofNat 0)), (.int .u64 (.ofNat 2)), (.int .u64 (.ofNat 1)), (.int .i64 (.ofNat 6)), (.str 97 1), (.str 0 0), .nils, .nils, .nils, (.int .i64 (.ofNat 0))] 88 0),
  (35152, .cells [(.int .u64 (.ofNat 1)), (.int .u64 (.ofNat 1)), (.int .i64 (.ofNat 1)), (.str 97 1), (.str 0 0), .nils, .nils, .nils, (.int .i64 (.ofNat 0)), (.int .i64 (.ofNat 0)), (.int .i64 (.ofNat 1)), (.bool true), (.int .i64 (.ofNat 0)), (.bool false), .nils, .nils, (.int .u64 (.ofNat 2)), (.int .u64 (.ofNat 1)), (.int .i64 (.ofNat 6)), (.str 97 1), (.str 0 0), .nils, .nils, .nils, (.int .i64 (.ofNat 0)), (.int .i64 (.ofNat 2)), (.int .i64 (.ofNat 3)), (.bool true), (.int .i64 (.ofNat 0)), (.bool false), (.slc 26855 0 1 1 2 true), .nils] 82 0)], (.int .i64 (.ofNat 0)), 43289, [], []⟩
def xs2 : List (Nat × X.MemoX) := []
theorem xs2_ok : ∀ x ∈ xs2, x.2.ok = true ∧ X.MemoXOk Tryz.prog x.1 x.2 := fun x h => by cases h
set_option maxRecDepth 1000000 in
theorem x2_run : X.memoXB x2 (X.callTopF (cfg1 (X.memoL memo7) (X.memoL xs2)) 1000000 8 x2.args (X.mkX x2.ts x2.pre) x2.nx) = true := by decide +kernel
theorem x2_ok : X.MemoXOk Tryz.prog 8 x2 := X.memoX_of_run (C := cfg1 (X.memoL memo7) (X.memoL xs2)) (cfg _ _) (X.memoL_ok (memos7) xs2_ok) follows1 (by rw [← X.callTopF_ok]; exact x2_run)
theorem x2_in : x2.ok = true := by decide +kernel
end Go.Proofs.YtohpjmomiphaeaaGreatDoor.linearNil
