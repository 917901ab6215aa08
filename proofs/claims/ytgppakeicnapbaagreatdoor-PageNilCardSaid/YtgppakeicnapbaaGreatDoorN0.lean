/-
  The law answers true, and turns nothing that was there. No conditions: a closed sentence. Here: what (*blazon/store.Store).Do does at one place is so.
-/
import Derived.Test.YtgppakeicnapbaaGreatDoorM6
namespace Go.Proofs.YtgppakeicnapbaaGreatDoor.pageNil
open Go.ChangeShapes Go.WideShapes Go.ChangeAt Go.RowKit
set_option linter.unusedVariables false
/-- what (*blazon/store.Store).Do does there -/
def x0 : X.MemoX := ⟨[(.ptr 7797 0), (.agg [(.int .i64 (.ofNat 1)), (.str 97 1), (.str 0 0), .nils, .nils, .nils, (.int .i64 (.ofNat 0))])], 11830, tabs1, [(4627, .map 21 [⟨(.int .i32 (.ofNat 225)), (.agg [(.slc 5362 0 2 0 1 false), (.bool true)])⟩, ⟨(.int .i32 (.ofNat 229)), (.agg [(.slc 5501 0 2 0 1 false), (.bool true)])⟩] 2),
  (4630, .cells [(.ptr 6174 0), (.ptr 6934 0), (.map 4627), (.map 4628), (.map 4629)] 320 0),
  (6174, .cells [(.slc 6878 0 10 0 3 false), (.bool true)] 440 0),
  (6878, .cells [(.int .i32 (.ofNat 32)), (.int .i32 (.ofNat 32)), (.int .i64 (.ofNat 23155)), (.int .i32 (.ofNat 45)), (.int .i32 (.ofNat 45)), (.int .i64 (.ofNat 20580)), (.int .i32 (.ofNat 65)), (.int .i32 (.ofNat 65)), (.int .i64 (.ofNat 19573)), (.int .i32 (.ofNat 97)), (.int .i32 (.ofNat 99)), (.int .i64 (.ofNat 19564)), (.int .i32 (.ofNat 104)), (.int .i32 (.ofNat 104)), (.int .i64 (.ofNat 19564)), (.int .i32 (.ofNat 225)), (.int .i32 (.ofNat 225)), (.int .i64 (.ofNat 19564)), (.int .i32 (.ofNat 229)), (.int .i32 (.ofNat 229)), (.int .i64 (.ofNat 19564)), (.int .i32 (.ofNat 769)), (.int .i32 (.ofNat 769)), (.int .i64 (.ofNat 19822)), (.int .i32 (.ofNat 778)), (.int .i32 (.ofNat 778)), (.int .i64 (.ofNat 19822)), (.int .i32 (.ofNat 803)), (.int .i32 (.ofNat 803)), (.int .i64 (.ofNat 19822))] 431 0),
  (6934, .cells [(.slc 7111 0 3 0 3 false), (.bool true)] 440 0),
  (7111, .cells [(.int .i32 (.ofNat 769)), (.int .i32 (.ofNat 769)), (.int .i64 (.ofNat 230)), (.int .i32 (.ofNat 778)), (.int .i32 (.ofNat 778)), (.int .i64 (.ofNat 230)), (.int .i32 (.ofNat 803)), (.int .i32 (.ofNat 803)), (.int .i64 (.ofNat 220))] 431 0),
  (7216, .map 21 [⟨(.int .i32 (.ofNat 65)), (.slc 7285 0 1 0 1 false)⟩] 1),
  (7218, .cells [(.map 7216), (.map 7217)] 354 0),
  (7346, .cells [(.ptr 4630 0), (.ptr 7218 0)] 147 0),
  (7349, .map 171 [⟨(.agg [(.int .i32 (.ofNat 32)), (.int .i32 (.ofNat 0)), (.int .i32 (.ofNat 0)), (.int .i32 (.ofNat 0)), (.int .i64 (.ofNat 1))]), (.slc 7371 0 1 0 4 false)⟩, ⟨(.agg [(.int .i32 (.ofNat 45)), (.int .i32 (.ofNat 0)), (.int .i32 (.ofNat 0)), (.int .i32 (.ofNat 0)), (.int .i64 (.ofNat 1))]), (.slc 7406 0 1 0 4 false)⟩, ⟨(.agg [(.int .i32 (.ofNat 97)), (.int .i32 (.ofNat 0)), (.int .i32 (.ofNat 0)), (.int .i32 (.ofNat 0)), (.int .i64 (.ofNat 1))]), (.slc 7441 0 1 0 4 false)⟩, ⟨(.agg [(.int .i32 (.ofNat 65)), (.int .i32 (.ofNat 0)), (.int .i32 (.ofNat 0)), (.int .i32 (.ofNat 0)), (.int .i64 (.ofNat 1))]), (.slc 7476 0 1 0 4 false)⟩, ⟨(.agg [(.int .i32 (.ofNat 98)), (.int .i32 (.ofNat 0)), (.int .i32 (.ofNat 0)), (.int .i32 (.ofNat 0)), (.int .i64 (.ofNat 1))]), (.slc 7511 0 1 0 4 false)⟩, ⟨(.agg [(.int .i32 (.ofNat 99)), (.int .i32 (.ofNat 0)), (.int .i32 (.ofNat 0)), (.int .i32 (.ofNat 0)), (.int .i64 (.ofNat 1))]), (.slc 7546 0 1 0 4 false)⟩, ⟨(.agg [(.int .i32 (.ofNat 104)), (.int .i32 (.ofNat 0)), (.int .i32 (.ofNat 0)), (.int .i32 (.ofNat 0)), (.int .i64 (.ofNat 1))]), (.slc 7581 0 1 0 4 false)⟩, ⟨(.agg [(.int .i32 (.ofNat 99)), (.int .i32 (.ofNat 104)), (.int .i32 (.ofNat 0)), (.int .i32 (.ofNat 0)), (.int .i64 (.ofNat 2))]), (.slc 7618 0 1 0 4 false)⟩, ⟨(.agg [(.int .i32 (.ofNat 769)), (.int .i32 (.ofNat 0)), (.int .i32 (.ofNat 0)), (.int .i32 (.ofNat 0)), (.int .i64 (.ofNat 1))]), (.slc 7653 0 1 0 4 false)⟩, ⟨(.agg [(.int .i32 (.ofNat 803)), (.int .i32 (.ofNat 0)), (.int .i32 (.ofNat 0)), (.int .i32 (.ofNat 0)), (.int .i64 (.ofNat 1))]), (.slc 7688 0 1 0 4 false)⟩, ⟨(.agg [(.int .i32 (.ofNat 778)), (.int .i32 (.ofNat 0)), (.int .i32 (.ofNat 0)), (.int .i32 (.ofNat 0)), (.int .i64 (.ofNat 1))]), (.slc 7723 0 1 0 4 false)⟩, ⟨(.agg [(.int .i32 (.ofNat 97)), (.int .i32 (.ofNat 778)), (.int .i32 (.ofNat 0)), (.int .i32 (.ofNat 0)), (.int .i64 (.ofNat 2))]), (.slc 7760 0 1 0 4 false)⟩] 12),
  (7350, .cells [(.map 7349), .nils] 151 0),
  (7371, .cells [(.int .u16 (.ofNat 521)), (.int .u16 (.ofNat 32)), (.int .u16 (.ofNat 2)), (.bool true)] 252 0),
  (7441, .cells [(.int .u16 (.ofNat 7239)), (.int .u16 (.ofNat 32)), (.int .u16 (.ofNat 2)), (.bool false)] 252 0),
  (7793, .cells [(.ptr 4630 0), (.ptr 7350 0), (.bool false), (.int .i64 (.ofNat 3))] 177 0),
  (7795, .cells [(.slc 11817 0 1 0 3 false), .nils] 260 0),
  (7796, .cells [(.int .i64 (.ofNat 8)), (.ptr 7795 0), (.int .i64 (.ofNat 1))] 262 0),
  (7797, .cells [(.ptr 7346 0), (.ptr 7793 0), (.int .i64 (.ofNat 9)), (.int .i64 (.ofNat 100)), (.ptr 7796 0), (.int .i64 (.ofNat 1))] 75 0),
  (11816, .bytes 3954478862944836285315776451831303654374572254567446672953043861652994165139067371552 36 5 0),
  (11817, .cells [(.slc 11816 0 36 0 1 false), (.str 99 1), .nils] 266 0)], (.agg [(.int .i64 (.ofNat 0)), (.bool false), .nils, .nils]), 15878, [(4627, .map 21 [⟨(.int .i32 (.ofNat 225)), (.agg [(.slc 5362 0 2 0 1 false), (.bool true)])⟩, ⟨(.int .i32 (.ofNat 229)), (.agg [(.slc 5501 0 2 0 1 false), (.bool true)])⟩] 2),
  (4630, .cells [(.ptr 6174 0), (.ptr 6934 0), (.map 4627), (.map 4628), (.map 4629)] 320 0),
  (6174, .cells [(.slc 6878 0 10 0 3 false), (.bool true)] 440 0),
  (6878, .cells [(.int .i32 (.ofNat 32)), (.int .i32 (.ofNat 32)), (.int .i64 (.ofNat 23155)), (.int .i32 (.ofNat 45)), (.int .i32 (.ofNat 45)), (.int .i64 (.ofNat 20580)), (.int .i32 (.ofNat 65)), (.int .i32 (.ofNat 65)), (.int .i64 (.ofNat 19573)), (.int .i32 (.ofNat 97)), (.int .i32 (.ofNat 99)), (.int .i64 (.ofNat 19564)), (.int .i32 (.ofNat 104)), (.int .i32 (.ofNat 104)), (.int .i64 (.ofNat 19564)), (.int .i32 (.ofNat 225)), (.int .i32 (.ofNat 225)), (.int .i64 (.ofNat 19564)), (.int .i32 (.ofNat 229)), (.int .i32 (.ofNat 229)), (.int .i64 (.ofNat 19564)), (.int .i32 (.ofNat 769)), (.int .i32 (.ofNat 769)), (.int .i64 (.ofNat 19822)), (.int .i32 (.ofNat 778)), (.int .i32 (.ofNat 778)), (.int .i64 (.ofNat 19822)), (.int .i32 (.ofNat 803)), (.int .i32 (.ofNat 803)), (.int .i64 (.ofNat 19822))] 431 0),
  (6934, .cells [(.slc 7111 0 3 0 3 false), (.bool true)] 440 0),
  (7111, .cells [(.int .i32 (.ofNat 769)), (.int .i32 (.ofNat 769)), (.int .i64 (.ofNat 230)), (.int .i32 (.ofNat 778)), (.int .i32 (.ofNat 778)), (.int .i64 (.ofNat 230)), (.int .i32 (.ofNat 803)), (.int .i32 (.ofNat 803)), (.int .i64 (.ofNat 220))] 431 0),
  (7216, .map 21 [⟨(.int .i32 (.ofNat 65)), (.slc 7285 0 1 0 1 false)⟩] 1),
  (7218, .cells [(.map 7216), (.map 7217)] 354 0),
  (7346, .cells [(.ptr 4630 0), (.ptr 7218 0)] 147 0),
  (7349, .map 171 [⟨(.agg [(.int .i32 (.ofNat 32)), (.int .i32 (.ofNat 0)), (.int .i32 (.ofNat 0)), (.int .i32 (.ofNat 0)), (.int .i64 (.ofNat 1))]), (.slc 7371 0 1 0 4 false)⟩, ⟨(.agg [(.int .i32 (.ofNat 45)), (.int .i32 (.ofNat 0)), (.int .i32 (.ofNat 0)), (.int .i32 (.ofNat 0)), (.int .i64 (.ofNat 1))]), (.slc 7406 0 1 0 4 false)⟩, ⟨(.agg [(.int .i32 (.ofNat 97)), (.int .i32 (.ofNat 0)), (.int .i32 (.ofNat 0)), (.int .i32 (.ofNat 0)), (.int .i64 (.ofNat 1))]), (.slc 7441 0 1 0 4 false)⟩, ⟨(.agg [(.int .i32 (.ofNat 65)), (.int .i32 (.ofNat 0)), (.int .i32 (.ofNat 0)), (.int .i32 (.ofNat 0)), (.int .i64 (.ofNat 1))]), (.slc 7476 0 1 0 4 false)⟩, ⟨(.agg [(.int .i32 (.ofNat 98)), (.int .i32 (.ofNat 0)), (.int .i32 (.ofNat 0)), (.int .i32 (.ofNat 0)), (.int .i64 (.ofNat 1))]), (.slc 7511 0 1 0 4 false)⟩, ⟨(.agg [(.int .i32 (.ofNat 99)), (.int .i32 (.ofNat 0)), (.int .i32 (.ofNat 0)), (.int .i32 (.ofNat 0)), (.int .i64 (.ofNat 1))]), (.slc 7546 0 1 0 4 false)⟩, ⟨(.agg [(.int .i32 (.ofNat 104)), (.int .i32 (.ofNat 0)), (.int .i32 (.ofNat 0)), (.int .i32 (.ofNat 0)), (.int .i64 (.ofNat 1))]), (.slc 7581 0 1 0 4 false)⟩, ⟨(.agg [(.int .i32 (.ofNat 99)), (.int .i32 (.ofNat 104)), (.int .i32 (.ofNat 0)), (.int .i32 (.ofNat 0)), (.int .i64 (.ofNat 2))]), (.slc 7618 0 1 0 4 false)⟩, ⟨(.agg [(.int .i32 (.ofNat 769)), (.int .i32 (.ofNat 0)), (.int .i32 (.ofNat 0)), (.int .i32 (.ofNat 0)), (.int .i64 (.ofNat 1))]), (.slc 7653 0 1 0 4 false)⟩, ⟨(.agg [(.int .i32 (.ofNat 803)), (.int .i32 (.ofNat 0)), (.int .i32 (.ofNat 0)), (.int .i32 (.ofNat 0)), (.int .i64 (.ofNat 1))]), (.slc 7688 0 1 0 4 false)⟩, ⟨(.agg [(.int .i32 (.ofNat 778)), (.int .i32 (.ofNat 0)), (.int .i32 (.ofNat 0)), (.int .i32 (.ofNat 0)), (.int .i64 (.ofNat 1))]), (.slc 7723 0 1 0 4 false)⟩, ⟨(.agg [(.int .i32 (.ofNat 97)), (.int .i32 (.ofNat 778)), (.int .i32 (.ofNat 0)), (.int .i32 (.ofNat 0)), (.int .i64 (.ofNat 2))]), (.slc 7760 0 1 0 4 false)⟩] 12),
  (7350, .cells [(.map 7349), .nils] 151 0),
  (7371, .cells [(.int .u16 (.ofNat 521)), (.int .u16 (.ofNat 32)), (.int .u16 (.ofNat 2)), (.bool true)] 252 0),
  (7793, .cells [(.ptr 4630 0), (.ptr 7350 0), (.bool false), (.int .i64 (.ofNat 3))] 177 0),
  (7795, .cells [(.slc 15865 0 2 0 3 false), .nils] 260 0),
  (7796, .cells [(.int .i64 (.ofNat 8)), (.ptr 7795 0), (.int .i64 (.ofNat 2))] 262 0),
  (7797, .cells [(.ptr 7346 0), (.ptr 7793 0), (.int .i64 (.ofNat 9)), (.int .i64 (.ofNat 100)), (.ptr 7796 0), (.int .i64 (.ofNat 2))] 75 0),
  (11816, .bytes 3954478862944836285315776451831303654374572254567446672953043861652994165139067371552 36 5 0),
  (15854, .bytes 3954472957548285182189809849711068211291271737798228725284277849316209761560865800224 36 5 0),
  (15865, .cells [(.slc 15854 0 36 0 1 false), (.str 97 1), .nils, (.slc 11816 0 36 0 1 false), (.str 99 1), .nils] 266 0)], [1000, 1006, 7511, 7546]⟩
def xs0 : List (Nat × X.MemoX) := []
theorem xs0_ok : ∀ x ∈ xs0, x.2.ok = true ∧ X.MemoXOk Tryz.prog x.1 x.2 := fun x h => by cases h
set_option maxRecDepth 1000000 in
theorem x0_run : X.memoXB x0 (X.callTopF (cfg1 (X.memoL memo7) (X.memoL xs0)) 1000000 24 x0.args (X.mkX x0.ts x0.pre) x0.nx) = true := by decide +kernel
theorem x0_ok : X.MemoXOk Tryz.prog 24 x0 := X.memoX_of_run (C := cfg1 (X.memoL memo7) (X.memoL xs0)) (cfg _ _) (X.memoL_ok (memos7) xs0_ok) follows1 (by rw [← X.callTopF_ok]; exact x0_run)
theorem x0_in : x0.ok = true := by decide +kernel
end Go.Proofs.YtgppakeicnapbaaGreatDoor.pageNil
