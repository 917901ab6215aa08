/-
  The law answers true, and turns nothing that was there. No conditions: a closed sentence. Here: the configuration, and what some calls are said to answer.
-/
import Derived.Test.YtlokfanniffkoaaGreatDoorXk
import Derived.Test.YtlokfanniffkoaaGreatDoorRows
import Derived.WalkKit
namespace Go.Proofs.YtlokfanniffkoaaGreatDoor.elementsNil
open Go.ChangeShapes Go.WideShapes Go.ChangeAt Go.RowKit
set_option linter.unusedVariables false
def tab1 : X.Tab := ⟨6, [.int .u64 (.ofNat 1), .int .u64 (.ofNat 10), .int .u64 (.ofNat 100), .int .u64 (.ofNat 1000), .int .u64 (.ofNat 10000), .int .u64 (.ofNat 100000), .int .u64 (.ofNat 1000000), .int .u64 (.ofNat 10000000), .int .u64 (.ofNat 100000000), .int .u64 (.ofNat 1000000000), .int .u64 (.ofNat 10000000000), .int .u64 (.ofNat 100000000000), .int .u64 (.ofNat 1000000000000), .int .u64 (.ofNat 10000000000000), .int .u64 (.ofNat 100000000000000), .int .u64 (.ofNat 1000000000000000), .int .u64 (.ofNat 10000000000000000), .int .u64 (.ofNat 100000000000000000), .int .u64 (.ofNat 1000000000000000000), .int .u64 (.ofNat 10000000000000000000)], 281⟩
def tabs1 : List X.Tab := [tab1]
def exts1 : List (Nat × X.Ext) := [(124, .indexByte), (161, .count)]
noncomputable def cfg1 (m : FuncId → List X.Memo) : X.Cfg := ⟨Tryz.prog, X.extL exts1, m⟩
theorem names : (Tryz.prog.funcs.toList.all fun fn => !(fn.name == "runtime.NumGoroutine")) = true := by kernel_rfl
theorem ext124 : X.ExtOk Tryz.prog 124 .indexByte := X.extIndexByte_ok (P := Tryz.prog) Tryz.func124 (by kernel_rfl) (by kernel_rfl) (by kernel_rfl) (by kernel_rfl)
theorem ext161 : X.ExtOk Tryz.prog 161 .count := X.extCount_ok (P := Tryz.prog) Tryz.func161 (by kernel_rfl) (by kernel_rfl) (by kernel_rfl) (by kernel_rfl)
theorem cfg (m : FuncId → List X.Memo) : X.CfgOk (cfg1 m) := X.extL_ok names (by
  intro x h
  simp only [exts1, List.mem_cons, List.not_mem_nil, or_false] at h
  rcases h with rfl | rfl
  · exact ext124
  · exact ext161
  )
theorem follows1 : Tryz.prog.follows .mixedOrders = true := by kernel_rfl
/-- what blazon/ucd.Of answers -/
def m0 : X.Memo := ⟨[(.str 55807288953231026908339148608153984590241311292431763686928090050606045004234661694911637743354935057031478202321751235607019011241000603269420079968935521334498736694562190343090409182136840819400003637501515008849382627612243601396808445761968486074147443576716866123867807135973259495005219317175001657124479595327647187659228285561514864546467308078881512840169438744718985898262979644507522988337945079202234863187163820879743581063852435149538932125072741947041900542059666293928490274973623077229279846930561372532128543130042448030303164910130200968563197175539530917975227778791201758055166254767258005429886319958903809236631583534875928145305353817573627080586571818641669440957692058131623013432660668811262730 300), (.str 0 0)], tabs1, (.tup [(.ptr 1009 0), (.int .i64 (.ofNat 0))]), 2593, [(6, .map 21 [⟨(.int .i32 (.ofNat 225)), (.agg [(.slc 1741 0 2 0 1 false), (.bool true)])⟩, ⟨(.int .i32 (.ofNat 229)), (.agg [(.slc 1880 0 2 0 1 false), (.bool true)])⟩] 2),
  (7, .map 21 [] 0),
  (8, .map 178 [⟨(.agg [(.int .i32 (.ofNat 97)), (.int .i32 (.ofNat 769))]), (.int .i32 (.ofNat 225))⟩, ⟨(.agg [(.int .i32 (.ofNat 97)), (.int .i32 (.ofNat 778))]), (.int .i32 (.ofNat 229))⟩] 2),
  (9, .cells [(.ptr 2553 0), (.ptr 3313 0), (.map 1006), (.map 1007), (.map 1008)] 90 0),
  (741, .cells [(.int .i32 (.ofNat 97)), (.int .i32 (.ofNat 769))] 21 0),
  (880, .cells [(.int .i32 (.ofNat 97)), (.int .i32 (.ofNat 778))] 21 0),
  (1553, .cells [(.slc 3257 0 10 0 3 false), (.bool true)] 176 0),
  (2257, .cells [(.int .i32 (.ofNat 32)), (.int .i32 (.ofNat 32)), (.int .i64 (.ofNat 23155)), (.int .i32 (.ofNat 45)), (.int .i32 (.ofNat 45)), (.int .i64 (.ofNat 20580)), (.int .i32 (.ofNat 65)), (.int .i32 (.ofNat 65)), (.int .i64 (.ofNat 19573)), (.int .i32 (.ofNat 97)), (.int .i32 (.ofNat 99)), (.int .i64 (.ofNat 19564)), (.int .i32 (.ofNat 104)), (.int .i32 (.ofNat 104)), (.int .i64 (.ofNat 19564)), (.int .i32 (.ofNat 225)), (.int .i32 (.ofNat 225)), (.int .i64 (.ofNat 19564)), (.int .i32 (.ofNat 229)), (.int .i32 (.ofNat 229)), (.int .i64 (.ofNat 19564)), (.int .i32 (.ofNat 769)), (.int .i32 (.ofNat 769)), (.int .i64 (.ofNat 19822)), (.int .i32 (.ofNat 778)), (.int .i32 (.ofNat 778)), (.int .i64 (.ofNat 19822)), (.int .i32 (.ofNat 803)), (.int .i32 (.ofNat 803)), (.int .i64 (.ofNat 19822))] 167 0),
  (2313, .cells [(.slc 3490 0 3 0 3 false), (.bool true)] 176 0),
  (2490, .cells [(.int .i32 (.ofNat 769)), (.int .i32 (.ofNat 769)), (.int .i64 (.ofNat 230)), (.int .i32 (.ofNat 778)), (.int .i32 (.ofNat 778)), (.int .i64 (.ofNat 230)), (.int .i32 (.ofNat 803)), (.int .i32 (.ofNat 803)), (.int .i64 (.ofNat 220))] 167 0)]⟩
/-- what blazon/ducet.New answers -/
def m1 : X.Memo := ⟨[(.str 10117998205520983176009881750558038603600503744441757507848197196701428383643430240092809028365661659720652353419649117485060486629349900932095633774540984715188711433867933130316167852646284903925208056924915538593706866879139482831504772231668010392911146174950460778228072800432726031884975183137261050805086724143709593422136798696083568161909228171890880214308507260057661521508712002950437538906571164750491852963863248956196986831120707894440954943475486712583783644065660920994126299112682625850634 210)], tabs1, (.tup [(.ptr 1003 0), (.int .i64 (.ofNat 0))]), 294, [(2, .map 72 [⟨(.agg [(.int .i32 (.ofNat 97)), (.int .i32 (.ofNat 0)), (.int .i32 (.ofNat 0)), (.int .i32 (.ofNat 0)), (.int .i64 (.ofNat 1))]), (.slc 1024 0 1 0 4 false)⟩, ⟨(.agg [(.int .i32 (.ofNat 99)), (.int .i32 (.ofNat 0)), (.int .i32 (.ofNat 0)), (.int .i32 (.ofNat 0)), (.int .i64 (.ofNat 1))]), (.slc 1059 0 1 0 4 false)⟩, ⟨(.agg [(.int .i32 (.ofNat 104)), (.int .i32 (.ofNat 0)), (.int .i32 (.ofNat 0)), (.int .i32 (.ofNat 0)), (.int .i64 (.ofNat 1))]), (.slc 1094 0 1 0 4 false)⟩, ⟨(.agg [(.int .i32 (.ofNat 99)), (.int .i32 (.ofNat 104)), (.int .i32 (.ofNat 0)), (.int .i32 (.ofNat 0)), (.int .i64 (.ofNat 2))]), (.slc 1131 0 1 0 4 false)⟩, ⟨(.agg [(.int .i32 (.ofNat 769)), (.int .i32 (.ofNat 0)), (.int .i32 (.ofNat 0)), (.int .i32 (.ofNat 0)), (.int .i64 (.ofNat 1))]), (.slc 1166 0 1 0 4 false)⟩, ⟨(.agg [(.int .i32 (.ofNat 803)), (.int .i32 (.ofNat 0)), (.int .i32 (.ofNat 0)), (.int .i32 (.ofNat 0)), (.int .i64 (.ofNat 1))]), (.slc 1201 0 1 0 4 false)⟩, ⟨(.agg [(.int .i32 (.ofNat 778)), (.int .i32 (.ofNat 0)), (.int .i32 (.ofNat 0)), (.int .i32 (.ofNat 0)), (.int .i64 (.ofNat 1))]), (.slc 1236 0 1 0 4 false)⟩, ⟨(.agg [(.int .i32 (.ofNat 97)), (.int .i32 (.ofNat 778)), (.int .i32 (.ofNat 0)), (.int .i32 (.ofNat 0)), (.int .i64 (.ofNat 2))]), (.slc 1273 0 1 0 4 false)⟩] 8),
  (3, .cells [(.map 1002), .nils] 53 0),
  (24, .cells [(.int .u16 (.ofNat 7239)), (.int .u16 (.ofNat 32)), (.int .u16 (.ofNat 2)), (.bool false)] 38 0),
  (59, .cells [(.int .u16 (.ofNat 7290)), (.int .u16 (.ofNat 32)), (.int .u16 (.ofNat 2)), (.bool false)] 38 0),
  (94, .cells [(.int .u16 (.ofNat 7448)), (.int .u16 (.ofNat 32)), (.int .u16 (.ofNat 2)), (.bool false)] 38 0),
  (131, .cells [(.int .u16 (.ofNat 7295)), (.int .u16 (.ofNat 32)), (.int .u16 (.ofNat 2)), (.bool false)] 38 0),
  (166, .cells [(.int .u16 (.ofNat 0)), (.int .u16 (.ofNat 36)), (.int .u16 (.ofNat 2)), (.bool false)] 38 0),
  (201, .cells [(.int .u16 (.ofNat 0)), (.int .u16 (.ofNat 66)), (.int .u16 (.ofNat 2)), (.bool false)] 38 0),
  (236, .cells [(.int .u16 (.ofNat 0)), (.int .u16 (.ofNat 41)), (.int .u16 (.ofNat 2)), (.bool false)] 38 0),
  (273, .cells [(.int .u16 (.ofNat 8191)), (.int .u16 (.ofNat 32)), (.int .u16 (.ofNat 2)), (.bool false)] 38 0)]⟩
def memo0 : List (Nat × X.Memo) := []
def memo1 : List (Nat × X.Memo) := [(4, m0)]
def memo2 : List (Nat × X.Memo) := [(5, m1), (4, m0)]
end Go.Proofs.YtlokfanniffkoaaGreatDoor.elementsNil
