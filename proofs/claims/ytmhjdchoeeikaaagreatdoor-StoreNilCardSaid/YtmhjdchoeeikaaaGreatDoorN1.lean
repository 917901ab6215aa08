/-
  The law answers true, and turns nothing that was there. No conditions: a closed sentence. Here: what (*blazon/store.Store).Do does at one place is so.
-/
import Derived.Test.YtmhjdchoeeikaaaGreatDoorM8
namespace Go.Proofs.YtmhjdchoeeikaaaGreatDoor.storeNil
open Go.ChangeShapes Go.WideShapes Go.ChangeAt Go.RowKit
set_option linter.unusedVariables false
/-- what (*blazon/store.Store).Do does there -/
def x1 : X.MemoX := ⟨[(.ptr 14634 0), (.agg [(.int .i64 (.ofNat 1)), (.str 6430817 3), (.str 0 0), .nils, .nils, .nils, (.int .i64 (.ofNat 0))])], 26716, tabs1, [(11464, .map 21 [⟨(.int .i32 (.ofNat 225)), (.agg [(.slc 12199 0 2 0 1 false), (.bool true)])⟩, ⟨(.int .i32 (.ofNat 229)), (.agg [(.slc 12338 0 2 0 1 false), (.bool true)])⟩] 2),
  (11466, .map 442 [⟨(.agg [(.int .i32 (.ofNat 97)), (.int .i32 (.ofNat 769))]), (.int .i32 (.ofNat 225))⟩, ⟨(.agg [(.int .i32 (.ofNat 97)), (.int .i32 (.ofNat 778))]), (.int .i32 (.ofNat 229))⟩] 2),
  (11467, .cells [(.ptr 13011 0), (.ptr 13771 0), (.map 11464), (.map 11465), (.map 11466)] 320 0),
  (13011, .cells [(.slc 13715 0 10 0 3 false), (.bool true)] 440 0),
  (13715, .cells [(.int .i32 (.ofNat 32)), (.int .i32 (.ofNat 32)), (.int .i64 (.ofNat 23155)), (.int .i32 (.ofNat 45)), (.int .i32 (.ofNat 45)), (.int .i64 (.ofNat 20580)), (.int .i32 (.ofNat 65)), (.int .i32 (.ofNat 65)), (.int .i64 (.ofNat 19573)), (.int .i32 (.ofNat 97)), (.int .i32 (.ofNat 99)), (.int .i64 (.ofNat 19564)), (.int .i32 (.ofNat 104)), (.int .i32 (.ofNat 104)), (.int .i64 (.ofNat 19564)), (.int .i32 (.ofNat 225)), (.int .i32 (.ofNat 225)), (.int .i64 (.ofNat 19564)), (.int .i32 (.ofNat 229)), (.int .i32 (.ofNat 229)), (.int .i64 (.ofNat 19564)), (.int .i32 (.ofNat 769)), (.int .i32 (.ofNat 769)), (.int .i64 (.ofNat 19822)), (.int .i32 (.ofNat 778)), (.int .i32 (.ofNat 778)), (.int .i64 (.ofNat 19822)), (.int .i32 (.ofNat 803)), (.int .i32 (.ofNat 803)), (.int .i64 (.ofNat 19822))] 431 0),
  (13771, .cells [(.slc 13948 0 3 0 3 false), (.bool true)] 440 0),
  (13948, .cells [(.int .i32 (.ofNat 769)), (.int .i32 (.ofNat 769)), (.int .i64 (.ofNat 230)), (.int .i32 (.ofNat 778)), (.int .i32 (.ofNat 778)), (.int .i64 (.ofNat 230)), (.int .i32 (.ofNat 803)), (.int .i32 (.ofNat 803)), (.int .i64 (.ofNat 220))] 431 0),
  (14053, .map 21 [⟨(.int .i32 (.ofNat 65)), (.slc 14122 0 1 0 1 false)⟩] 1),
  (14055, .cells [(.map 14053), (.map 14054)] 354 0),
  (14183, .cells [(.ptr 11467 0), (.ptr 14055 0)] 162 0),
  (14186, .map 186 [⟨(.agg [(.int .i32 (.ofNat 32)), (.int .i32 (.ofNat 0)), (.int .i32 (.ofNat 0)), (.int .i32 (.ofNat 0)), (.int .i64 (.ofNat 1))]), (.slc 14208 0 1 0 4 false)⟩, ⟨(.agg [(.int .i32 (.ofNat 45)), (.int .i32 (.ofNat 0)), (.int .i32 (.ofNat 0)), (.int .i32 (.ofNat 0)), (.int .i64 (.ofNat 1))]), (.slc 14243 0 1 0 4 false)⟩, ⟨(.agg [(.int .i32 (.ofNat 97)), (.int .i32 (.ofNat 0)), (.int .i32 (.ofNat 0)), (.int .i32 (.ofNat 0)), (.int .i64 (.ofNat 1))]), (.slc 14278 0 1 0 4 false)⟩, ⟨(.agg [(.int .i32 (.ofNat 65)), (.int .i32 (.ofNat 0)), (.int .i32 (.ofNat 0)), (.int .i32 (.ofNat 0)), (.int .i64 (.ofNat 1))]), (.slc 14313 0 1 0 4 false)⟩, ⟨(.agg [(.int .i32 (.ofNat 98)), (.int .i32 (.ofNat 0)), (.int .i32 (.ofNat 0)), (.int .i32 (.ofNat 0)), (.int .i64 (.ofNat 1))]), (.slc 14348 0 1 0 4 false)⟩, ⟨(.agg [(.int .i32 (.ofNat 99)), (.int .i32 (.ofNat 0)), (.int .i32 (.ofNat 0)), (.int .i32 (.ofNat 0)), (.int .i64 (.ofNat 1))]), (.slc 14383 0 1 0 4 false)⟩, ⟨(.agg [(.int .i32 (.ofNat 104)), (.int .i32 (.ofNat 0)), (.int .i32 (.ofNat 0)), (.int .i32 (.ofNat 0)), (.int .i64 (.ofNat 1))]), (.slc 14418 0 1 0 4 false)⟩, ⟨(.agg [(.int .i32 (.ofNat 99)), (.int .i32 (.ofNat 104)), (.int .i32 (.ofNat 0)), (.int .i32 (.ofNat 0)), (.int .i64 (.ofNat 2))]), (.slc 14455 0 1 0 4 false)⟩, ⟨(.agg [(.int .i32 (.ofNat 769)), (.int .i32 (.ofNat 0)), (.int .i32 (.ofNat 0)), (.int .i32 (.ofNat 0)), (.int .i64 (.ofNat 1))]), (.slc 14490 0 1 0 4 false)⟩, ⟨(.agg [(.int .i32 (.ofNat 803)), (.int .i32 (.ofNat 0)), (.int .i32 (.ofNat 0)), (.int .i32 (.ofNat 0)), (.int .i64 (.ofNat 1))]), (.slc 14525 0 1 0 4 false)⟩, ⟨(.agg [(.int .i32 (.ofNat 778)), (.int .i32 (.ofNat 0)), (.int .i32 (.ofNat 0)), (.int .i32 (.ofNat 0)), (.int .i64 (.ofNat 1))]), (.slc 14560 0 1 0 4 false)⟩, ⟨(.agg [(.int .i32 (.ofNat 97)), (.int .i32 (.ofNat 778)), (.int .i32 (.ofNat 0)), (.int .i32 (.ofNat 0)), (.int .i64 (.ofNat 2))]), (.slc 14597 0 1 0 4 false)⟩] 12),
  (14187, .cells [(.map 14186), .nils] 166 0),
  (14208, .cells [(.int .u16 (.ofNat 521)), (.int .u16 (.ofNat 32)), (.int .u16 (.ofNat 2)), (.bool true)] 270 0),
  (14278, .cells [(.int .u16 (.ofNat 7239)), (.int .u16 (.ofNat 32)), (.int .u16 (.ofNat 2)), (.bool false)] 270 0),
  (14348, .cells [(.int .u16 (.ofNat 7264)), (.int .u16 (.ofNat 32)), (.int .u16 (.ofNat 2)), (.bool false)] 270 0),
  (14630, .cells [(.ptr 11467 0), (.ptr 14187 0), (.bool false), (.int .i64 (.ofNat 3))] 192 0),
  (14632, .cells [(.slc 21016 0 1 0 3 false), .nils] 117 0),
  (14633, .cells [(.int .i64 (.ofNat 8)), (.ptr 14632 0), (.int .i64 (.ofNat 1))] 109 0),
  (14634, .cells [(.ptr 14183 0), (.ptr 14630 0), (.int .i64 (.ofNat 5)), (.int .i64 (.ofNat 100)), (.ptr 14633 0), (.int .i64 (.ofNat 4))] 28 0),
  (21015, .bytes 109836762640408183075992288717019749272780819762865478061434859261938831773577246787562168563468272623032872471069966870458723142295416482602832419203833399554 66 5 0),
  (21016, .cells [(.slc 21015 0 66 0 1 false), (.str 1646272577 4), .nils] 113 0)], (.agg [(.int .i64 (.ofNat 9)), (.bool false), .nils, .nils]), 32389, [], [1000, 1007, 1010, 1028, 1031, 21029, 26713, 26715]⟩
def xs1 : List (Nat × X.MemoX) := []
theorem xs1_ok : ∀ x ∈ xs1, x.2.ok = true ∧ X.MemoXOk Tryz.prog x.1 x.2 := fun x h => by cases h
set_option maxRecDepth 1000000 in
theorem x1_run : X.memoXB x1 (X.callTopF (cfg1 (X.memoL memo9) (X.memoL xs1)) 1000000 9 x1.args (X.mkX x1.ts x1.pre) x1.nx) = true := by decide +kernel
theorem x1_ok : X.MemoXOk Tryz.prog 9 x1 := X.memoX_of_run (C := cfg1 (X.memoL memo9) (X.memoL xs1)) (cfg _ _) (X.memoL_ok (memos9) xs1_ok) follows1 (by rw [← X.callTopF_ok]; exact x1_run)
theorem x1_in : x1.ok = true := by decide +kernel
end Go.Proofs.YtmhjdchoeeikaaaGreatDoor.storeNil
