/-
  The law answers true, and turns nothing that was there. No conditions: a closed sentence. Here: what blazon/page.Walk$1$1 does at one place is so.
-/
import Derived.Test.YtgppakeicnapbaaGreatDoorM6
namespace Go.Proofs.YtgppakeicnapbaaGreatDoor.pageNil
open Go.ChangeShapes Go.WideShapes Go.ChangeAt Go.RowKit
set_option linter.unusedVariables false
/-- what blazon/page.Walk$1$1 does there -/
def x2 : X.MemoX := ⟨[(.ptr 19930 0), (.ptr 19934 0), (.ptr 19931 0)], 19935, tabs1, [(4627, .map 21 [⟨(.int .i32 (.ofNat 225)), (.agg [(.slc 5362 0 2 0 1 false), (.bool true)])⟩, ⟨(.int .i32 (.ofNat 229)), (.agg [(.slc 5501 0 2 0 1 false), (.bool true)])⟩] 2),
  (4630, .cells [(.ptr 6174 0), (.ptr 6934 0), (.map 4627), (.map 4628), (.map 4629)] 320 0),
  (6174, .cells [(.slc 6878 0 10 0 3 false), (.bool true)] 440 0),
  (6878, .cells [(.int .i32 (.ofNat 32)), (.int .i32 (.ofNat 32)), (.int .i64 (.ofNat 23155)), (.int .i32 (.ofNat 45)), (.int .i32 (.ofNat 45)), (.int .i64 (.ofNat 20580)), (.int .i32 (.ofNat 65)), (.int .i32 (.ofNat 65)), (.int .i64 (.ofNat 19573)), (.int .i32 (.ofNat 97)), (.int .i32 (.ofNat 99)), (.int .i64 (.ofNat 19564)), (.int .i32 (.ofNat 104)), (.int .i32 (.ofNat 104)), (.int .i64 (.ofNat 19564)), (.int .i32 (.ofNat 225)), (.int .i32 (.ofNat 225)), (.int .i64 (.ofNat 19564)), (.int .i32 (.ofNat 229)), (.int .i32 (.ofNat 229)), (.int .i64 (.ofNat 19564)), (.int .i32 (.ofNat 769)), (.int .i32 (.ofNat 769)), (.int .i64 (.ofNat 19822)), (.int .i32 (.ofNat 778)), (.int .i32 (.ofNat 778)), (.int .i64 (.ofNat 19822)), (.int .i32 (.ofNat 803)), (.int .i32 (.ofNat 803)), (.int .i64 (.ofNat 19822))] 431 0),
  (6934, .cells [(.slc 7111 0 3 0 3 false), (.bool true)] 440 0),
  (7111, .cells [(.int .i32 (.ofNat 769)), (.int .i32 (.ofNat 769)), (.int .i64 (.ofNat 230)), (.int .i32 (.ofNat 778)), (.int .i32 (.ofNat 778)), (.int .i64 (.ofNat 230)), (.int .i32 (.ofNat 803)), (.int .i32 (.ofNat 803)), (.int .i64 (.ofNat 220))] 431 0),
  (7216, .map 21 [⟨(.int .i32 (.ofNat 65)), (.slc 7285 0 1 0 1 false)⟩] 1),
  (7218, .cells [(.map 7216), (.map 7217)] 354 0),
  (7346, .cells [(.ptr 4630 0), (.ptr 7218 0)] 147 0),
  (7349, .map 171 [⟨(.agg [(.int .i32 (.ofNat 32)), (.int .i32 (.ofNat 0)), (.int .i32 (.ofNat 0)), (.int .i32 (.ofNat 0)), (.int .i64 (.ofNat 1))]), (.slc 7371 0 1 0 4 false)⟩, ⟨(.agg [(.int .i32 (.ofNat 45)), (.int .i32 (.ofNat 0)), (.int .i32 (.ofNat 0)), (.int .i32 (.ofNat 0)), (.int .i64 (.ofNat 1))]), (.slc 7406 0 1 0 4 false)⟩, ⟨(.agg [(.int .i32 (.ofNat 97)), (.int .i32 (.ofNat 0)), (.int .i32 (.ofNat 0)), (.int .i32 (.ofNat 0)), (.int .i64 (.ofNat 1))]), (.slc 7441 0 1 0 4 false)⟩, ⟨(.agg [(.int .i32 (.ofNat 65)), (.int .i32 (.ofNat 0)), (.int .i32 (.ofNat 0)), (.int .i32 (.ofNat 0)), (.int .i64 (.ofNat 1))]), (.slc 7476 0 1 0 4 false)⟩, ⟨(.agg [(.int .i32 (.ofNat 98)), (.int .i32 (.ofNat 0)), (.int .i32 (.ofNat 0)), (.int .i32 (.ofNat 0)), (.int .i64 (.ofNat 1))]), (.slc 7511 0 1 0 4 false)⟩, ⟨(.agg [(.int .i32 (.ofNat 99)), (.int .i32 (.ofNat 0)), (.int .i32 (.ofNat 0)), (.int .i32 (.ofNat 0)), (.int .i64 (.ofNat 1))]), (.slc 7546 0 1 0 4 false)⟩, ⟨(.agg [(.int .i32 (.ofNat 104)), (.int .i32 (.ofNat 0)), (.int .i32 (.ofNat 0)), (.int .i32 (.ofNat 0)), (.int .i64 (.ofNat 1))]), (.slc 7581 0 1 0 4 false)⟩, ⟨(.agg [(.int .i32 (.ofNat 99)), (.int .i32 (.ofNat 104)), (.int .i32 (.ofNat 0)), (.int .i32 (.ofNat 0)), (.int .i64 (.ofNat 2))]), (.slc 7618 0 1 0 4 false)⟩, ⟨(.agg [(.int .i32 (.ofNat 769)), (.int .i32 (.ofNat 0)), (.int .i32 (.ofNat 0)), (.int .i32 (.ofNat 0)), (.int .i64 (.ofNat 1))]), (.slc 7653 0 1 0 4 false)⟩, ⟨(.agg [(.int .i32 (.ofNat 803)), (.int .i32 (.ofNat 0)), (.int .i32 (.ofNat 0)), (.int .i32 (.ofNat 0)), (.int .i64 (.ofNat 1))]), (.slc 7688 0 1 0 4 false)⟩, ⟨(.agg [(.int .i32 (.ofNat 778)), (.int .i32 (.ofNat 0)), (.int .i32 (.ofNat 0)), (.int .i32 (.ofNat 0)), (.int .i64 (.ofNat 1))]), (.slc 7723 0 1 0 4 false)⟩, ⟨(.agg [(.int .i32 (.ofNat 97)), (.int .i32 (.ofNat 778)), (.int .i32 (.ofNat 0)), (.int .i32 (.ofNat 0)), (.int .i64 (.ofNat 2))]), (.slc 7760 0 1 0 4 false)⟩] 12),
  (7350, .cells [(.map 7349), .nils] 151 0),
  (7371, .cells [(.int .u16 (.ofNat 521)), (.int .u16 (.ofNat 32)), (.int .u16 (.ofNat 2)), (.bool true)] 252 0),
  (7511, .cells [(.int .u16 (.ofNat 7264)), (.int .u16 (.ofNat 32)), (.int .u16 (.ofNat 2)), (.bool false)] 252 0),
  (7793, .cells [(.ptr 4630 0), (.ptr 7350 0), (.bool false), (.int .i64 (.ofNat 3))] 177 0),
  (7795, .cells [(.slc 19916 0 3 0 3 false), .nils] 260 0),
  (7796, .cells [(.int .i64 (.ofNat 8)), (.ptr 7795 0), (.int .i64 (.ofNat 3))] 262 0),
  (7797, .cells [(.ptr 7346 0), (.ptr 7793 0), (.int .i64 (.ofNat 9)), (.int .i64 (.ofNat 100)), (.ptr 7796 0), (.int .i64 (.ofNat 3))] 75 0),
  (11816, .bytes 3954478862944836285315776451831303654374572254567446672953043861652994165139067371552 36 5 0),
  (15854, .bytes 3954472957548285182189809849711068211291271737798228725284277849316209761560865800224 36 5 0),
  (19905, .bytes 3954475852350516115094695438985693428488968069547845366298378835755809959393401765920 36 5 0),
  (19916, .cells [(.slc 15854 0 36 0 1 false), (.str 97 1), .nils, (.slc 19905 0 36 0 1 false), (.str 98 1), .nils, (.slc 11816 0 36 0 1 false), (.str 99 1), .nils] 266 0),
  (19930, .cells [(.ptr 7797 0)] 41 0),
  (19931, .cells [(.int .i64 (.ofNat 2))] 3 0),
  (19934, .cells [.nils] 23 0)], (.slc 20123 0 2 0 2 false), 24065, [(4627, .map 21 [⟨(.int .i32 (.ofNat 225)), (.agg [(.slc 5362 0 2 0 1 false), (.bool true)])⟩, ⟨(.int .i32 (.ofNat 229)), (.agg [(.slc 5501 0 2 0 1 false), (.bool true)])⟩] 2),
  (4630, .cells [(.ptr 6174 0), (.ptr 6934 0), (.map 4627), (.map 4628), (.map 4629)] 320 0),
  (6174, .cells [(.slc 6878 0 10 0 3 false), (.bool true)] 440 0),
  (6878, .cells [(.int .i32 (.ofNat 32)), (.int .i32 (.ofNat 32)), (.int .i64 (.ofNat 23155)), (.int .i32 (.ofNat 45)), (.int .i32 (.ofNat 45)), (.int .i64 (.ofNat 20580)), (.int .i32 (.ofNat 65)), (.int .i32 (.ofNat 65)), (.int .i64 (.ofNat 19573)), (.int .i32 (.ofNat 97)), (.int .i32 (.ofNat 99)), (.int .i64 (.ofNat 19564)), (.int .i32 (.ofNat 104)), (.int .i32 (.ofNat 104)), (.int .i64 (.ofNat 19564)), (.int .i32 (.ofNat 225)), (.int .i32 (.ofNat 225)), (.int .i64 (.ofNat 19564)), (.int .i32 (.ofNat 229)), (.int .i32 (.ofNat 229)), (.int .i64 (.ofNat 19564)), (.int .i32 (.ofNat 769)), (.int .i32 (.ofNat 769)), (.int .i64 (.ofNat 19822)), (.int .i32 (.ofNat 778)), (.int .i32 (.ofNat 778)), (.int .i64 (.ofNat 19822)), (.int .i32 (.ofNat 803)), (.int .i32 (.ofNat 803)), (.int .i64 (.ofNat 19822))] 431 0),
  (6934, .cells [(.slc 7111 0 3 0 3 false), (.bool true)] 440 0),
  (7111, .cells [(.int .i32 (.ofNat 769)), (.int .i32 (.ofNat 769)), (.int .i64 (.ofNat 230)), (.int .i32 (.ofNat 778)), (.int .i32 (.ofNat 778)), (.int .i64 (.ofNat 230)), (.int .i32 (.ofNat 803)), (.int .i32 (.ofNat 803)), (.int .i64 (.ofNat 220))] 431 0),
  (7216, .map 21 [⟨(.int .i32 (.ofNat 65)), (.slc 7285 0 1 0 1 false)⟩] 1),
  (7218, .cells [(.map 7216), (.map 7217)] 354 0),
  (7346, .cells [(.ptr 4630 0), (.ptr 7218 0)] 147 0),
  (7349, .map 171 [⟨(.agg [(.int .i32 (.ofNat 32)), (.int .i32 (.ofNat 0)), (.int .i32 (.ofNat 0)), (.int .i32 (.ofNat 0)), (.int .i64 (.ofNat 1))]), (.slc 7371 0 1 0 4 false)⟩, ⟨(.agg [(.int .i32 (.ofNat 45)), (.int .i32 (.ofNat 0)), (.int .i32 (.ofNat 0)), (.int .i32 (.ofNat 0)), (.int .i64 (.ofNat 1))]), (.slc 7406 0 1 0 4 false)⟩, ⟨(.agg [(.int .i32 (.ofNat 97)), (.int .i32 (.ofNat 0)), (.int .i32 (.ofNat 0)), (.int .i32 (.ofNat 0)), (.int .i64 (.ofNat 1))]), (.slc 7441 0 1 0 4 false)⟩, ⟨(.agg [(.int .i32 (.ofNat 65)), (.int .i32 (.ofNat 0)), (.int .i32 (.ofNat 0)), (.int .i32 (.ofNat 0)), (.int .i64 (.ofNat 1))]), (.slc 7476 0 1 0 4 false)⟩, ⟨(.agg [(.int .i32 (.ofNat 98)), (.int .i32 (.ofNat 0)), (.int .i32 (.ofNat 0)), (.int .i32 (.ofNat 0)), (.int .i64 (.ofNat 1))]), (.slc 7511 0 1 0 4 false)⟩, ⟨(.agg [(.int .i32 (.ofNat 99)), (.int .i32 (.ofNat 0)), (.int .i32 (.ofNat 0)), (.int .i32 (.ofNat 0)), (.int .i64 (.ofNat 1))]), (.slc 7546 0 1 0 4 false)⟩, ⟨(.agg [(.int .i32 (.ofNat 104)), (.int .i32 (.ofNat 0)), (.int .i32 (.ofNat 0)), (.int .i32 (.ofNat 0)), (.int .i64 (.ofNat 1))]), (.slc 7581 0 1 0 4 false)⟩, ⟨(.agg [(.int .i32 (.ofNat 99)), (.int .i32 (.ofNat 104)), (.int .i32 (.ofNat 0)), (.int .i32 (.ofNat 0)), (.int .i64 (.ofNat 2))]), (.slc 7618 0 1 0 4 false)⟩, ⟨(.agg [(.int .i32 (.ofNat 769)), (.int .i32 (.ofNat 0)), (.int .i32 (.ofNat 0)), (.int .i32 (.ofNat 0)), (.int .i64 (.ofNat 1))]), (.slc 7653 0 1 0 4 false)⟩, ⟨(.agg [(.int .i32 (.ofNat 803)), (.int .i32 (.ofNat 0)), (.int .i32 (.ofNat 0)), (.int .i32 (.ofNat 0)), (.int .i64 (.ofNat 1))]), (.slc 7688 0 1 0 4 false)⟩, ⟨(.agg [(.int .i32 (.ofNat 778)), (.int .i32 (.ofNat 0)), (.int .i32 (.ofNat 0)), (.int .i32 (.ofNat 0)), (.int .i64 (.ofNat 1))]), (.slc 7723 0 1 0 4 false)⟩, ⟨(.agg [(.int .i32 (.ofNat 97)), (.int .i32 (.ofNat 778)), (.int .i32 (.ofNat 0)), (.int .i32 (.ofNat 0)), (.int .i64 (.ofNat 2))]), (.slc 7760 0 1 0 4 false)⟩] 12),
  (7350, .cells [(.map 7349), .nils] 151 0),
  (7371, .cells [(.int .u16 (.ofNat 521)), (.int .u16 (.ofNat 32)), (.int .u16 (.ofNat 2)), (.bool true)] 252 0),
  (7511, .cells [(.int .u16 (.ofNat 7264)), (.int .u16 (.ofNat 32)), (.int .u16 (.ofNat 2)), (.bool false)] 252 0),
  (7793, .cells [(.ptr 4630 0), (.ptr 7350 0), (.bool false), (.int .i64 (.ofNat 3))] 177 0),
  (7795, .cells [(.slc 19916 0 3 0 3 false), .nils] 260 0),
  (7796, .cells [(.int .i64 (.ofNat 8)), (.ptr 7795 0), (.int .i64 (.ofNat 3))] 262 0),
  (7797, .cells [(.ptr 7346 0), (.ptr 7793 0), (.int .i64 (.ofNat 9)), (.int .i64 (.ofNat 100)), (.ptr 7796 0), (.int .i64 (.ofNat 3))] 75 0),
  (11816, .bytes 3954478862944836285315776451831303654374572254567446672953043861652994165139067371552 36 5 0),
  (15854, .bytes 3954472957548285182189809849711068211291271737798228725284277849316209761560865800224 36 5 0),
  (19905, .bytes 3954475852350516115094695438985693428488968069547845366298378835755809959393401765920 36 5 0),
  (19916, .cells [(.slc 15854 0 36 0 1 false), (.str 97 1), .nils, (.slc 19905 0 36 0 1 false), (.str 98 1), .nils, (.slc 11816 0 36 0 1 false), (.str 99 1), .nils] 266 0),
  (19930, .cells [(.ptr 7797 0)] 41 0),
  (19931, .cells [(.int .i64 (.ofNat 2))] 3 0),
  (19934, .cells [(.slc 24064 0 2 0 1 false)] 23 0),
  (20123, .cells [(.str 97 1), .nils, (.str 98 1), .nils] 57 0),
  (24064, .bytes 354 2 5 0)], [1000, 1006, 7546, 19929, 19932, 19933]⟩
def xs2 : List (Nat × X.MemoX) := []
theorem xs2_ok : ∀ x ∈ xs2, x.2.ok = true ∧ X.MemoXOk Tryz.prog x.1 x.2 := fun x h => by cases h
set_option maxRecDepth 1000000 in
theorem x2_run : X.memoXB x2 (X.callTopF (cfg1 (X.memoL memo7) (X.memoL xs2)) 1000000 21 x2.args (X.mkX x2.ts x2.pre) x2.nx) = true := by decide +kernel
theorem x2_ok : X.MemoXOk Tryz.prog 21 x2 := X.memoX_of_run (C := cfg1 (X.memoL memo7) (X.memoL xs2)) (cfg _ _) (X.memoL_ok (memos7) xs2_ok) follows1 (by rw [← X.callTopF_ok]; exact x2_run)
theorem x2_in : x2.ok = true := by decide +kernel
end Go.Proofs.YtgppakeicnapbaaGreatDoor.pageNil
