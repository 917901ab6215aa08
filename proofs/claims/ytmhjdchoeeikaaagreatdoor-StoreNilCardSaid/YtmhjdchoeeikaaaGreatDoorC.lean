/-
  The law answers true, and turns nothing that was there. No conditions: a closed sentence. Here: the configuration, and what some calls are said to answer.
-/
import Derived.Test.YtmhjdchoeeikaaaGreatDoorXk
import Derived.Test.YtmhjdchoeeikaaaGreatDoorRows
import Derived.WalkKit
namespace Go.Proofs.YtmhjdchoeeikaaaGreatDoor.storeNil
open Go.ChangeShapes Go.WideShapes Go.ChangeAt Go.RowKit
set_option linter.unusedVariables false
def tab1 : X.Tab := ⟨6, [.int .u64 (.ofNat 1), .int .u64 (.ofNat 10), .int .u64 (.ofNat 100), .int .u64 (.ofNat 1000), .int .u64 (.ofNat 10000), .int .u64 (.ofNat 100000), .int .u64 (.ofNat 1000000), .int .u64 (.ofNat 10000000), .int .u64 (.ofNat 100000000), .int .u64 (.ofNat 1000000000), .int .u64 (.ofNat 10000000000), .int .u64 (.ofNat 100000000000), .int .u64 (.ofNat 1000000000000), .int .u64 (.ofNat 10000000000000), .int .u64 (.ofNat 100000000000000), .int .u64 (.ofNat 1000000000000000), .int .u64 (.ofNat 10000000000000000), .int .u64 (.ofNat 100000000000000000), .int .u64 (.ofNat 1000000000000000000), .int .u64 (.ofNat 10000000000000000000)], 574⟩
def tabs1 : List X.Tab := [tab1]
def exts1 : List (Nat × X.Ext) := [(92, (.typeOf 285 9)), (148, .compare), (270, .indexByte), (324, (.overlaps 1)), (382, .count), (454, (.comparable 9 [(32, true)]))]
noncomputable def cfg1 (m : FuncId → List X.Memo) (m2 : FuncId → List X.MemoX) : X.Cfg := ⟨Tryz.prog, X.extL exts1, m, m2⟩
theorem names : (Tryz.prog.funcs.toList.all fun fn => !(fn.name == "runtime.NumGoroutine")) = true := by kernel_rfl
theorem gsz92 : Tryz.prog.globals.size = 9 := by kernel_rfl
theorem ext92 : X.ExtOk Tryz.prog 92 (.typeOf 285 9) := by
  have := X.extTypeOf_ok (P := Tryz.prog) (u := 285) (nm := "internal/reflectlite.rtype") Tryz.func92 (by kernel_rfl) (by kernel_rfl) (by kernel_rfl) (by kernel_rfl) (by kernel_rfl) (by rw [gsz92]; decide)
  rw [gsz92] at this; exact this
theorem ext148 : X.ExtOk Tryz.prog 148 .compare := X.extCompare_ok (P := Tryz.prog) Tryz.func148 (by kernel_rfl) (by kernel_rfl) (by kernel_rfl) (by kernel_rfl)
theorem ext270 : X.ExtOk Tryz.prog 270 .indexByte := X.extIndexByte_ok (P := Tryz.prog) Tryz.func270 (by kernel_rfl) (by kernel_rfl) (by kernel_rfl) (by kernel_rfl)
theorem size324 : Tryz.prog.cellsOf 21 = 1 := by kernel_rfl
theorem ext324 : X.ExtOk Tryz.prog 324 (.overlaps 1) := by
  obtain ⟨i, hi⟩ := X.info_of_cells (P := Tryz.prog) (t := 21) (by rw [size324]; simp)
  have := X.extOverlaps_ok (P := Tryz.prog) (t := 101) (e := 21) Tryz.func324 (by kernel_rfl) (by kernel_rfl) (by kernel_rfl) (by kernel_rfl) (by kernel_rfl) Tryz.underlying101 hi
  rw [size324] at this; exact this
theorem ext382 : X.ExtOk Tryz.prog 382 .count := X.extCount_ok (P := Tryz.prog) Tryz.func382 (by kernel_rfl) (by kernel_rfl) (by kernel_rfl) (by kernel_rfl)
theorem gsz454 : Tryz.prog.globals.size = 9 := by kernel_rfl
theorem ext454 : X.ExtOk Tryz.prog 454 (.comparable 9 [(32, true)]) := by
  have := X.extComparable_ok (P := Tryz.prog) (l := [(32, true)]) Tryz.func454 (by kernel_rfl) (by kernel_rfl) (by kernel_rfl) (by kernel_rfl) (by rw [gsz454]; decide) (fun x h => by
    obtain rfl := List.mem_singleton.1 h
    exact ⟨by kernel_rfl, by kernel_rfl, by kernel_rfl⟩)
  rw [gsz454] at this; exact this
theorem cfg (m : FuncId → List X.Memo) (m2 : FuncId → List X.MemoX) : X.CfgOk (cfg1 m m2) := X.extL_ok names (by
  intro x h
  simp only [exts1, List.mem_cons, List.not_mem_nil, or_false] at h
  rcases h with rfl | rfl | rfl | rfl | rfl | rfl
  · exact ext92
  · exact ext148
  · exact ext270
  · exact ext324
  · exact ext382
  · exact ext454
  )
theorem follows1 : Tryz.prog.follows .mixedOrders = true := by kernel_rfl
/-- what blazon/ucd.Of answers -/
def m0 : X.Memo := ⟨[(.str 11849049858563923895851760537863584184711016682421584923073274697118873394038929410735564982196712023382670991292587344815194836579755410161227496014647560182126039382513884118036166089919905237560808222776897808003461643341736861790641671624868987003771874237941911561193739706743968196650112466216020296153636248235791600110584718602202386687375267475956430870461708461056777977129223723774643929439088437004168528861735548171436733122533060664220808271527383272188037611495025585820348531259583440881105527284400876899994379897112972892334475175232053365237589017771715817514112428607890805648512563376567536454587637760532792625002228401256305541008184052542602965653494016363129789522032251921063839800603499557957680 300), (.str 0 0)], tabs1, (.tup [(.ptr 1009 0), (.int .i64 (.ofNat 0))]), 2593, [(6, .map 21 [⟨(.int .i32 (.ofNat 225)), (.agg [(.slc 1741 0 2 0 1 false), (.bool true)])⟩, ⟨(.int .i32 (.ofNat 229)), (.agg [(.slc 1880 0 2 0 1 false), (.bool true)])⟩] 2),
  (7, .map 21 [] 0),
  (8, .map 442 [⟨(.agg [(.int .i32 (.ofNat 97)), (.int .i32 (.ofNat 769))]), (.int .i32 (.ofNat 225))⟩, ⟨(.agg [(.int .i32 (.ofNat 97)), (.int .i32 (.ofNat 778))]), (.int .i32 (.ofNat 229))⟩] 2),
  (9, .cells [(.ptr 2553 0), (.ptr 3313 0), (.map 1006), (.map 1007), (.map 1008)] 320 0),
  (741, .cells [(.int .i32 (.ofNat 97)), (.int .i32 (.ofNat 769))] 21 0),
  (880, .cells [(.int .i32 (.ofNat 97)), (.int .i32 (.ofNat 778))] 21 0),
  (1553, .cells [(.slc 3257 0 10 0 3 false), (.bool true)] 440 0),
  (2257, .cells [(.int .i32 (.ofNat 32)), (.int .i32 (.ofNat 32)), (.int .i64 (.ofNat 23155)), (.int .i32 (.ofNat 45)), (.int .i32 (.ofNat 45)), (.int .i64 (.ofNat 20580)), (.int .i32 (.ofNat 65)), (.int .i32 (.ofNat 65)), (.int .i64 (.ofNat 19573)), (.int .i32 (.ofNat 97)), (.int .i32 (.ofNat 99)), (.int .i64 (.ofNat 19564)), (.int .i32 (.ofNat 104)), (.int .i32 (.ofNat 104)), (.int .i64 (.ofNat 19564)), (.int .i32 (.ofNat 225)), (.int .i32 (.ofNat 225)), (.int .i64 (.ofNat 19564)), (.int .i32 (.ofNat 229)), (.int .i32 (.ofNat 229)), (.int .i64 (.ofNat 19564)), (.int .i32 (.ofNat 769)), (.int .i32 (.ofNat 769)), (.int .i64 (.ofNat 19822)), (.int .i32 (.ofNat 778)), (.int .i32 (.ofNat 778)), (.int .i64 (.ofNat 19822)), (.int .i32 (.ofNat 803)), (.int .i32 (.ofNat 803)), (.int .i64 (.ofNat 19822))] 431 0),
  (2313, .cells [(.slc 3490 0 3 0 3 false), (.bool true)] 440 0),
  (2490, .cells [(.int .i32 (.ofNat 769)), (.int .i32 (.ofNat 769)), (.int .i64 (.ofNat 230)), (.int .i32 (.ofNat 778)), (.int .i32 (.ofNat 778)), (.int .i64 (.ofNat 230)), (.int .i32 (.ofNat 803)), (.int .i32 (.ofNat 803)), (.int .i64 (.ofNat 220))] 431 0)]⟩
/-- what blazon/ducet.New answers -/
def m1 : X.Memo := ⟨[(.str 14510375716498715611690905437873011303550455212302534340300045284630605455590544202927017925380849549960438933394455997148860994980512255923165999437541487217418058911639569593027282506230892502240039760441968118059636499034313086973814480092144760962789203447058859968261833181067282446782170846672193680761146414336044669378678600868749588360238829411812585519398426705586524487746660433569432937027558679611645814940072799820092101144344220359294944432375844848423601393295963225373330372323056228245710511325405912885305939329929899366936236813755748067502446257698020991692623346033129631017671072868693782001003922408523778376868611842572170277660859907225547558811780126735292758715211450450385700960244557869137339346174502842006020173872 310)], tabs1, (.tup [(.ptr 1003 0), (.int .i64 (.ofNat 0))]), 434, [(2, .map 186 [⟨(.agg [(.int .i32 (.ofNat 32)), (.int .i32 (.ofNat 0)), (.int .i32 (.ofNat 0)), (.int .i32 (.ofNat 0)), (.int .i64 (.ofNat 1))]), (.slc 1024 0 1 0 4 false)⟩, ⟨(.agg [(.int .i32 (.ofNat 45)), (.int .i32 (.ofNat 0)), (.int .i32 (.ofNat 0)), (.int .i32 (.ofNat 0)), (.int .i64 (.ofNat 1))]), (.slc 1059 0 1 0 4 false)⟩, ⟨(.agg [(.int .i32 (.ofNat 97)), (.int .i32 (.ofNat 0)), (.int .i32 (.ofNat 0)), (.int .i32 (.ofNat 0)), (.int .i64 (.ofNat 1))]), (.slc 1094 0 1 0 4 false)⟩, ⟨(.agg [(.int .i32 (.ofNat 65)), (.int .i32 (.ofNat 0)), (.int .i32 (.ofNat 0)), (.int .i32 (.ofNat 0)), (.int .i64 (.ofNat 1))]), (.slc 1129 0 1 0 4 false)⟩, ⟨(.agg [(.int .i32 (.ofNat 98)), (.int .i32 (.ofNat 0)), (.int .i32 (.ofNat 0)), (.int .i32 (.ofNat 0)), (.int .i64 (.ofNat 1))]), (.slc 1164 0 1 0 4 false)⟩, ⟨(.agg [(.int .i32 (.ofNat 99)), (.int .i32 (.ofNat 0)), (.int .i32 (.ofNat 0)), (.int .i32 (.ofNat 0)), (.int .i64 (.ofNat 1))]), (.slc 1199 0 1 0 4 false)⟩, ⟨(.agg [(.int .i32 (.ofNat 104)), (.int .i32 (.ofNat 0)), (.int .i32 (.ofNat 0)), (.int .i32 (.ofNat 0)), (.int .i64 (.ofNat 1))]), (.slc 1234 0 1 0 4 false)⟩, ⟨(.agg [(.int .i32 (.ofNat 99)), (.int .i32 (.ofNat 104)), (.int .i32 (.ofNat 0)), (.int .i32 (.ofNat 0)), (.int .i64 (.ofNat 2))]), (.slc 1271 0 1 0 4 false)⟩, ⟨(.agg [(.int .i32 (.ofNat 769)), (.int .i32 (.ofNat 0)), (.int .i32 (.ofNat 0)), (.int .i32 (.ofNat 0)), (.int .i64 (.ofNat 1))]), (.slc 1306 0 1 0 4 false)⟩, ⟨(.agg [(.int .i32 (.ofNat 803)), (.int .i32 (.ofNat 0)), (.int .i32 (.ofNat 0)), (.int .i32 (.ofNat 0)), (.int .i64 (.ofNat 1))]), (.slc 1341 0 1 0 4 false)⟩, ⟨(.agg [(.int .i32 (.ofNat 778)), (.int .i32 (.ofNat 0)), (.int .i32 (.ofNat 0)), (.int .i32 (.ofNat 0)), (.int .i64 (.ofNat 1))]), (.slc 1376 0 1 0 4 false)⟩, ⟨(.agg [(.int .i32 (.ofNat 97)), (.int .i32 (.ofNat 778)), (.int .i32 (.ofNat 0)), (.int .i32 (.ofNat 0)), (.int .i64 (.ofNat 2))]), (.slc 1413 0 1 0 4 false)⟩] 12),
  (3, .cells [(.map 1002), .nils] 166 0),
  (24, .cells [(.int .u16 (.ofNat 521)), (.int .u16 (.ofNat 32)), (.int .u16 (.ofNat 2)), (.bool true)] 270 0),
  (59, .cells [(.int .u16 (.ofNat 525)), (.int .u16 (.ofNat 32)), (.int .u16 (.ofNat 2)), (.bool true)] 270 0),
  (94, .cells [(.int .u16 (.ofNat 7239)), (.int .u16 (.ofNat 32)), (.int .u16 (.ofNat 2)), (.bool false)] 270 0),
  (129, .cells [(.int .u16 (.ofNat 7239)), (.int .u16 (.ofNat 32)), (.int .u16 (.ofNat 8)), (.bool false)] 270 0),
  (164, .cells [(.int .u16 (.ofNat 7264)), (.int .u16 (.ofNat 32)), (.int .u16 (.ofNat 2)), (.bool false)] 270 0),
  (199, .cells [(.int .u16 (.ofNat 7290)), (.int .u16 (.ofNat 32)), (.int .u16 (.ofNat 2)), (.bool false)] 270 0),
  (234, .cells [(.int .u16 (.ofNat 7448)), (.int .u16 (.ofNat 32)), (.int .u16 (.ofNat 2)), (.bool false)] 270 0),
  (271, .cells [(.int .u16 (.ofNat 7295)), (.int .u16 (.ofNat 32)), (.int .u16 (.ofNat 2)), (.bool false)] 270 0),
  (306, .cells [(.int .u16 (.ofNat 0)), (.int .u16 (.ofNat 36)), (.int .u16 (.ofNat 2)), (.bool false)] 270 0),
  (341, .cells [(.int .u16 (.ofNat 0)), (.int .u16 (.ofNat 66)), (.int .u16 (.ofNat 2)), (.bool false)] 270 0),
  (376, .cells [(.int .u16 (.ofNat 0)), (.int .u16 (.ofNat 41)), (.int .u16 (.ofNat 2)), (.bool false)] 270 0),
  (413, .cells [(.int .u16 (.ofNat 8191)), (.int .u16 (.ofNat 32)), (.int .u16 (.ofNat 2)), (.bool false)] 270 0)]⟩
/-- what blazon/match.New answers -/
def m2 : X.Memo := ⟨[(.agg [(.str 11849049858563923895851760537863584184711016682421584923073274697118873394038929410735564982196712023382670991292587344815194836579755410161227496014647560182126039382513884118036166089919905237560808222776897808003461643341736861790641671624868987003771874237941911561193739706743968196650112466216020296153636248235791600110584718602202386687375267475956430870461708461056777977129223723774643929439088437004168528861735548171436733122533060664220808271527383272188037611495025585820348531259583440881105527284400876899994379897112972892334475175232053365237589017771715817514112428607890805648512563376567536454587637760532792625002228401256305541008184052542602965653494016363129789522032251921063839800603499557957680 300), (.str 0 0), (.str 3449514003122446829554851268604986667056 17), (.str 14510375716498715611690905437873011303550455212302534340300045284630605455590544202927017925380849549960438933394455997148860994980512255923165999437541487217418058911639569593027282506230892502240039760441968118059636499034313086973814480092144760962789203447058859968261833181067282446782170846672193680761146414336044669378678600868749588360238829411812585519398426705586524487746660433569432937027558679611645814940072799820092101144344220359294944432375844848423601393295963225373330372323056228245710511325405912885305939329929899366936236813755748067502446257698020991692623346033129631017671072868693782001003922408523778376868611842572170277660859907225547558811780126735292758715211450450385700960244557869137339346174502842006020173872 310)])], tabs1, (.tup [(.ptr 3726 0), (.int .i64 (.ofNat 0))]), 2727, [(7, .map 21 [⟨(.int .i32 (.ofNat 225)), (.agg [(.slc 1742 0 2 0 1 false), (.bool true)])⟩, ⟨(.int .i32 (.ofNat 229)), (.agg [(.slc 1881 0 2 0 1 false), (.bool true)])⟩] 2),
  (8, .map 21 [] 0),
  (9, .map 442 [⟨(.agg [(.int .i32 (.ofNat 97)), (.int .i32 (.ofNat 769))]), (.int .i32 (.ofNat 225))⟩, ⟨(.agg [(.int .i32 (.ofNat 97)), (.int .i32 (.ofNat 778))]), (.int .i32 (.ofNat 229))⟩] 2),
  (10, .cells [(.ptr 2554 0), (.ptr 3314 0), (.map 1007), (.map 1008), (.map 1009)] 320 0),
  (742, .cells [(.int .i32 (.ofNat 97)), (.int .i32 (.ofNat 769))] 21 0),
  (881, .cells [(.int .i32 (.ofNat 97)), (.int .i32 (.ofNat 778))] 21 0),
  (1554, .cells [(.slc 3258 0 10 0 3 false), (.bool true)] 440 0),
  (2258, .cells [(.int .i32 (.ofNat 32)), (.int .i32 (.ofNat 32)), (.int .i64 (.ofNat 23155)), (.int .i32 (.ofNat 45)), (.int .i32 (.ofNat 45)), (.int .i64 (.ofNat 20580)), (.int .i32 (.ofNat 65)), (.int .i32 (.ofNat 65)), (.int .i64 (.ofNat 19573)), (.int .i32 (.ofNat 97)), (.int .i32 (.ofNat 99)), (.int .i64 (.ofNat 19564)), (.int .i32 (.ofNat 104)), (.int .i32 (.ofNat 104)), (.int .i64 (.ofNat 19564)), (.int .i32 (.ofNat 225)), (.int .i32 (.ofNat 225)), (.int .i64 (.ofNat 19564)), (.int .i32 (.ofNat 229)), (.int .i32 (.ofNat 229)), (.int .i64 (.ofNat 19564)), (.int .i32 (.ofNat 769)), (.int .i32 (.ofNat 769)), (.int .i64 (.ofNat 19822)), (.int .i32 (.ofNat 778)), (.int .i32 (.ofNat 778)), (.int .i64 (.ofNat 19822)), (.int .i32 (.ofNat 803)), (.int .i32 (.ofNat 803)), (.int .i64 (.ofNat 19822))] 431 0),
  (2314, .cells [(.slc 3491 0 3 0 3 false), (.bool true)] 440 0),
  (2491, .cells [(.int .i32 (.ofNat 769)), (.int .i32 (.ofNat 769)), (.int .i64 (.ofNat 230)), (.int .i32 (.ofNat 778)), (.int .i32 (.ofNat 778)), (.int .i64 (.ofNat 230)), (.int .i32 (.ofNat 803)), (.int .i32 (.ofNat 803)), (.int .i64 (.ofNat 220))] 431 0),
  (2596, .map 21 [⟨(.int .i32 (.ofNat 65)), (.slc 3665 0 1 0 1 false)⟩] 1),
  (2597, .map 21 [⟨(.int .i32 (.ofNat 65)), (.int .i32 (.ofNat 97))⟩] 1),
  (2598, .cells [(.map 3596), (.map 3597)] 354 0),
  (2665, .cells [(.int .i32 (.ofNat 97))] 21 0),
  (2726, .cells [(.ptr 1010 0), (.ptr 3598 0)] 162 0)]⟩
/-- what blazon/blazonref12.New answers -/
def m3 : X.Memo := ⟨[(.agg [(.str 11849049858563923895851760537863584184711016682421584923073274697118873394038929410735564982196712023382670991292587344815194836579755410161227496014647560182126039382513884118036166089919905237560808222776897808003461643341736861790641671624868987003771874237941911561193739706743968196650112466216020296153636248235791600110584718602202386687375267475956430870461708461056777977129223723774643929439088437004168528861735548171436733122533060664220808271527383272188037611495025585820348531259583440881105527284400876899994379897112972892334475175232053365237589017771715817514112428607890805648512563376567536454587637760532792625002228401256305541008184052542602965653494016363129789522032251921063839800603499557957680 300), (.str 0 0), (.str 3449514003122446829554851268604986667056 17), (.str 14510375716498715611690905437873011303550455212302534340300045284630605455590544202927017925380849549960438933394455997148860994980512255923165999437541487217418058911639569593027282506230892502240039760441968118059636499034313086973814480092144760962789203447058859968261833181067282446782170846672193680761146414336044669378678600868749588360238829411812585519398426705586524487746660433569432937027558679611645814940072799820092101144344220359294944432375844848423601393295963225373330372323056228245710511325405912885305939329929899366936236813755748067502446257698020991692623346033129631017671072868693782001003922408523778376868611842572170277660859907225547558811780126735292758715211450450385700960244557869137339346174502842006020173872 310)])], tabs1, (.tup [(.ptr 3491 0), (.int .i64 (.ofNat 0))]), 2492, [(535, .cells [(.int .i32 (.ofNat 97)), (.int .i32 (.ofNat 769))] 21 0),
  (552, .cells [(.int .i32 (.ofNat 97)), (.int .i32 (.ofNat 778))] 21 0),
  (602, .cells [(.int .i32 (.ofNat 32)), (.int .i32 (.ofNat 32)), (.str 29530 2), (.int .i64 (.ofNat 0)), .nils, (.bool false), (.int .i32 (.ofNat 45)), (.int .i32 (.ofNat 45)), (.str 25680 2), (.int .i64 (.ofNat 0)), .nils, (.bool false), (.int .i32 (.ofNat 65)), (.int .i32 (.ofNat 65)), (.str 30028 2), (.int .i64 (.ofNat 0)), .nils, (.bool false), (.int .i32 (.ofNat 97)), (.int .i32 (.ofNat 97)), (.str 27724 2), (.int .i64 (.ofNat 0)), .nils, (.bool false), (.int .i32 (.ofNat 98)), (.int .i32 (.ofNat 98)), (.str 27724 2), (.int .i64 (.ofNat 0)), .nils, (.bool false), (.int .i32 (.ofNat 99)), (.int .i32 (.ofNat 99)), (.str 27724 2), (.int .i64 (.ofNat 0)), .nils, (.bool false), (.int .i32 (.ofNat 104)), (.int .i32 (.ofNat 104)), (.str 27724 2), (.int .i64 (.ofNat 0)), .nils, (.bool false), (.int .i32 (.ofNat 225)), (.int .i32 (.ofNat 225)), (.str 27724 2), (.int .i64 (.ofNat 0)), (.slc 1535 0 2 0 1 false), (.bool true), (.int .i32 (.ofNat 229)), (.int .i32 (.ofNat 229)), (.str 27724 2), (.int .i64 (.ofNat 0)), (.slc 1552 0 2 0 1 false), (.bool true), (.int .i32 (.ofNat 769)), (.int .i32 (.ofNat 769)), (.str 28237 2), (.int .i64 (.ofNat 230)), .nils, (.bool false), (.int .i32 (.ofNat 778)), (.int .i32 (.ofNat 778)), (.str 28237 2), (.int .i64 (.ofNat 230)), .nils, (.bool false), (.int .i32 (.ofNat 803)), (.int .i32 (.ofNat 803)), (.str 28237 2), (.int .i64 (.ofNat 220)), .nils, (.bool false)] 412 0),
  (603, .cells [(.slc 1602 0 12 0 6 false), .nils] 406 0),
  (2443, .cells [(.slc 3490 0 1 0 3 false)] 415 0),
  (2466, .cells [(.int .i32 (.ofNat 97))] 21 0),
  (2490, .cells [(.int .i32 (.ofNat 65)), (.str 67 1), (.slc 3466 0 1 0 1 false)] 417 0),
  (2491, .cells [(.ptr 1603 0), (.ptr 3443 0)] 150 0)]⟩
/-- what blazon/blazonref13.New answers -/
def m4 : X.Memo := ⟨[(.str 14510375716498715611690905437873011303550455212302534340300045284630605455590544202927017925380849549960438933394455997148860994980512255923165999437541487217418058911639569593027282506230892502240039760441968118059636499034313086973814480092144760962789203447058859968261833181067282446782170846672193680761146414336044669378678600868749588360238829411812585519398426705586524487746660433569432937027558679611645814940072799820092101144344220359294944432375844848423601393295963225373330372323056228245710511325405912885305939329929899366936236813755748067502446257698020991692623346033129631017671072868693782001003922408523778376868611842572170277660859907225547558811780126735292758715211450450385700960244557869137339346174502842006020173872 310)], tabs1, (.tup [(.ptr 1000 0), (.int .i64 (.ofNat 0))]), 1099, [(0, .cells [(.slc 2096 0 12 0 2 false), .nils] 232 0),
  (38, .cells [(.int .i32 (.ofNat 32))] 21 0),
  (42, .cells [(.int .u16 (.ofNat 521)), (.int .u16 (.ofNat 32)), (.int .u16 (.ofNat 2)), (.bool true)] 270 0),
  (92, .cells [(.int .i32 (.ofNat 45))] 21 0),
  (96, .cells [(.int .u16 (.ofNat 525)), (.int .u16 (.ofNat 32)), (.int .u16 (.ofNat 2)), (.bool true)] 270 0),
  (155, .cells [(.int .i32 (.ofNat 97))] 21 0),
  (159, .cells [(.int .u16 (.ofNat 7239)), (.int .u16 (.ofNat 32)), (.int .u16 (.ofNat 2)), (.bool false)] 270 0),
  (227, .cells [(.int .i32 (.ofNat 65))] 21 0),
  (231, .cells [(.int .u16 (.ofNat 7239)), (.int .u16 (.ofNat 32)), (.int .u16 (.ofNat 8)), (.bool false)] 270 0),
  (308, .cells [(.int .i32 (.ofNat 98))] 21 0),
  (312, .cells [(.int .u16 (.ofNat 7264)), (.int .u16 (.ofNat 32)), (.int .u16 (.ofNat 2)), (.bool false)] 270 0),
  (398, .cells [(.int .i32 (.ofNat 99))] 21 0),
  (402, .cells [(.int .u16 (.ofNat 7290)), (.int .u16 (.ofNat 32)), (.int .u16 (.ofNat 2)), (.bool false)] 270 0),
  (497, .cells [(.int .i32 (.ofNat 104))] 21 0),
  (501, .cells [(.int .u16 (.ofNat 7448)), (.int .u16 (.ofNat 32)), (.int .u16 (.ofNat 2)), (.bool false)] 270 0),
  (609, .cells [(.int .i32 (.ofNat 99)), (.int .i32 (.ofNat 104))] 21 0),
  (613, .cells [(.int .u16 (.ofNat 7295)), (.int .u16 (.ofNat 32)), (.int .u16 (.ofNat 2)), (.bool false)] 270 0),
  (663, .cells [(.int .i32 (.ofNat 769))] 21 0),
  (667, .cells [(.int .u16 (.ofNat 0)), (.int .u16 (.ofNat 36)), (.int .u16 (.ofNat 2)), (.bool false)] 270 0),
  (780, .cells [(.int .i32 (.ofNat 803))] 21 0),
  (784, .cells [(.int .u16 (.ofNat 0)), (.int .u16 (.ofNat 66)), (.int .u16 (.ofNat 2)), (.bool false)] 270 0),
  (906, .cells [(.int .i32 (.ofNat 778))] 21 0),
  (910, .cells [(.int .u16 (.ofNat 0)), (.int .u16 (.ofNat 41)), (.int .u16 (.ofNat 2)), (.bool false)] 270 0),
  (1045, .cells [(.int .i32 (.ofNat 97)), (.int .i32 (.ofNat 778))] 21 0),
  (1049, .cells [(.int .u16 (.ofNat 8191)), (.int .u16 (.ofNat 32)), (.int .u16 (.ofNat 2)), (.bool false)] 270 0),
  (1096, .cells [(.slc 1038 0 1 0 1 false), (.slc 1042 0 1 0 4 false), (.slc 1092 0 1 0 1 false), (.slc 1096 0 1 0 4 false), (.slc 1155 0 1 0 1 false), (.slc 1159 0 1 0 4 false), (.slc 1227 0 1 0 1 false), (.slc 1231 0 1 0 4 false), (.slc 1308 0 1 0 1 false), (.slc 1312 0 1 0 4 false), (.slc 1398 0 1 0 1 false), (.slc 1402 0 1 0 4 false), (.slc 1497 0 1 0 1 false), (.slc 1501 0 1 0 4 false), (.slc 1609 0 2 0 1 false), (.slc 1613 0 1 0 4 false), (.slc 1663 0 1 0 1 false), (.slc 1667 0 1 0 4 false), (.slc 1780 0 1 0 1 false), (.slc 1784 0 1 0 4 false), (.slc 1906 0 1 0 1 false), (.slc 1910 0 1 0 4 false), (.slc 2045 0 2 0 1 false), (.slc 2049 0 1 0 4 false)] 240 0)]⟩
/-- what blazon/blazonref20.New answers -/
def m5 : X.Memo := ⟨[(.agg [(.str 11849049858563923895851760537863584184711016682421584923073274697118873394038929410735564982196712023382670991292587344815194836579755410161227496014647560182126039382513884118036166089919905237560808222776897808003461643341736861790641671624868987003771874237941911561193739706743968196650112466216020296153636248235791600110584718602202386687375267475956430870461708461056777977129223723774643929439088437004168528861735548171436733122533060664220808271527383272188037611495025585820348531259583440881105527284400876899994379897112972892334475175232053365237589017771715817514112428607890805648512563376567536454587637760532792625002228401256305541008184052542602965653494016363129789522032251921063839800603499557957680 300), (.str 0 0), (.str 3449514003122446829554851268604986667056 17), (.str 14510375716498715611690905437873011303550455212302534340300045284630605455590544202927017925380849549960438933394455997148860994980512255923165999437541487217418058911639569593027282506230892502240039760441968118059636499034313086973814480092144760962789203447058859968261833181067282446782170846672193680761146414336044669378678600868749588360238829411812585519398426705586524487746660433569432937027558679611645814940072799820092101144344220359294944432375844848423601393295963225373330372323056228245710511325405912885305939329929899366936236813755748067502446257698020991692623346033129631017671072868693782001003922408523778376868611842572170277660859907225547558811780126735292758715211450450385700960244557869137339346174502842006020173872 310)]), (.agg [(.bool false), (.int .i64 (.ofNat 1))]), (.agg [(.int .i64 (.ofNat 0)), (.int .i64 (.ofNat 0))])], tabs1, (.ptr 4605 0), 3607, [(538, .cells [(.int .i32 (.ofNat 97)), (.int .i32 (.ofNat 769))] 21 0),
  (555, .cells [(.int .i32 (.ofNat 97)), (.int .i32 (.ofNat 778))] 21 0),
  (605, .cells [(.int .i32 (.ofNat 32)), (.int .i32 (.ofNat 32)), (.str 29530 2), (.int .i64 (.ofNat 0)), .nils, (.bool false), (.int .i32 (.ofNat 45)), (.int .i32 (.ofNat 45)), (.str 25680 2), (.int .i64 (.ofNat 0)), .nils, (.bool false), (.int .i32 (.ofNat 65)), (.int .i32 (.ofNat 65)), (.str 30028 2), (.int .i64 (.ofNat 0)), .nils, (.bool false), (.int .i32 (.ofNat 97)), (.int .i32 (.ofNat 97)), (.str 27724 2), (.int .i64 (.ofNat 0)), .nils, (.bool false), (.int .i32 (.ofNat 98)), (.int .i32 (.ofNat 98)), (.str 27724 2), (.int .i64 (.ofNat 0)), .nils, (.bool false), (.int .i32 (.ofNat 99)), (.int .i32 (.ofNat 99)), (.str 27724 2), (.int .i64 (.ofNat 0)), .nils, (.bool false), (.int .i32 (.ofNat 104)), (.int .i32 (.ofNat 104)), (.str 27724 2), (.int .i64 (.ofNat 0)), .nils, (.bool false), (.int .i32 (.ofNat 225)), (.int .i32 (.ofNat 225)), (.str 27724 2), (.int .i64 (.ofNat 0)), (.slc 1538 0 2 0 1 false), (.bool true), (.int .i32 (.ofNat 229)), (.int .i32 (.ofNat 229)), (.str 27724 2), (.int .i64 (.ofNat 0)), (.slc 1555 0 2 0 1 false), (.bool true), (.int .i32 (.ofNat 769)), (.int .i32 (.ofNat 769)), (.str 28237 2), (.int .i64 (.ofNat 230)), .nils, (.bool false), (.int .i32 (.ofNat 778)), (.int .i32 (.ofNat 778)), (.str 28237 2), (.int .i64 (.ofNat 230)), .nils, (.bool false), (.int .i32 (.ofNat 803)), (.int .i32 (.ofNat 803)), (.str 28237 2), (.int .i64 (.ofNat 220)), .nils, (.bool false)] 412 0),
  (606, .cells [(.slc 1605 0 12 0 6 false), .nils] 406 0),
  (2446, .cells [(.slc 3493 0 1 0 3 false)] 415 0),
  (2469, .cells [(.int .i32 (.ofNat 97))] 21 0),
  (2493, .cells [(.int .i32 (.ofNat 65)), (.str 67 1), (.slc 3469 0 1 0 1 false)] 417 0),
  (2494, .cells [(.ptr 1606 0), (.ptr 3446 0)] 150 0),
  (2495, .cells [(.slc 4591 0 12 0 2 false), .nils] 232 0),
  (2533, .cells [(.int .i32 (.ofNat 32))] 21 0),
  (2537, .cells [(.int .u16 (.ofNat 521)), (.int .u16 (.ofNat 32)), (.int .u16 (.ofNat 2)), (.bool true)] 270 0),
  (2587, .cells [(.int .i32 (.ofNat 45))] 21 0),
  (2591, .cells [(.int .u16 (.ofNat 525)), (.int .u16 (.ofNat 32)), (.int .u16 (.ofNat 2)), (.bool true)] 270 0),
  (2650, .cells [(.int .i32 (.ofNat 97))] 21 0),
  (2654, .cells [(.int .u16 (.ofNat 7239)), (.int .u16 (.ofNat 32)), (.int .u16 (.ofNat 2)), (.bool false)] 270 0),
  (2722, .cells [(.int .i32 (.ofNat 65))] 21 0),
  (2726, .cells [(.int .u16 (.ofNat 7239)), (.int .u16 (.ofNat 32)), (.int .u16 (.ofNat 8)), (.bool false)] 270 0),
  (2803, .cells [(.int .i32 (.ofNat 98))] 21 0),
  (2807, .cells [(.int .u16 (.ofNat 7264)), (.int .u16 (.ofNat 32)), (.int .u16 (.ofNat 2)), (.bool false)] 270 0),
  (2893, .cells [(.int .i32 (.ofNat 99))] 21 0),
  (2897, .cells [(.int .u16 (.ofNat 7290)), (.int .u16 (.ofNat 32)), (.int .u16 (.ofNat 2)), (.bool false)] 270 0),
  (2992, .cells [(.int .i32 (.ofNat 104))] 21 0),
  (2996, .cells [(.int .u16 (.ofNat 7448)), (.int .u16 (.ofNat 32)), (.int .u16 (.ofNat 2)), (.bool false)] 270 0),
  (3104, .cells [(.int .i32 (.ofNat 99)), (.int .i32 (.ofNat 104))] 21 0),
  (3108, .cells [(.int .u16 (.ofNat 7295)), (.int .u16 (.ofNat 32)), (.int .u16 (.ofNat 2)), (.bool false)] 270 0),
  (3158, .cells [(.int .i32 (.ofNat 769))] 21 0),
  (3162, .cells [(.int .u16 (.ofNat 0)), (.int .u16 (.ofNat 36)), (.int .u16 (.ofNat 2)), (.bool false)] 270 0),
  (3275, .cells [(.int .i32 (.ofNat 803))] 21 0),
  (3279, .cells [(.int .u16 (.ofNat 0)), (.int .u16 (.ofNat 66)), (.int .u16 (.ofNat 2)), (.bool false)] 270 0),
  (3401, .cells [(.int .i32 (.ofNat 778))] 21 0),
  (3405, .cells [(.int .u16 (.ofNat 0)), (.int .u16 (.ofNat 41)), (.int .u16 (.ofNat 2)), (.bool false)] 270 0),
  (3540, .cells [(.int .i32 (.ofNat 97)), (.int .i32 (.ofNat 778))] 21 0),
  (3544, .cells [(.int .u16 (.ofNat 8191)), (.int .u16 (.ofNat 32)), (.int .u16 (.ofNat 2)), (.bool false)] 270 0),
  (3591, .cells [(.slc 3533 0 1 0 1 false), (.slc 3537 0 1 0 4 false), (.slc 3587 0 1 0 1 false), (.slc 3591 0 1 0 4 false), (.slc 3650 0 1 0 1 false), (.slc 3654 0 1 0 4 false), (.slc 3722 0 1 0 1 false), (.slc 3726 0 1 0 4 false), (.slc 3803 0 1 0 1 false), (.slc 3807 0 1 0 4 false), (.slc 3893 0 1 0 1 false), (.slc 3897 0 1 0 4 false), (.slc 3992 0 1 0 1 false), (.slc 3996 0 1 0 4 false), (.slc 4104 0 2 0 1 false), (.slc 4108 0 1 0 4 false), (.slc 4158 0 1 0 1 false), (.slc 4162 0 1 0 4 false), (.slc 4275 0 1 0 1 false), (.slc 4279 0 1 0 4 false), (.slc 4401 0 1 0 1 false), (.slc 4405 0 1 0 4 false), (.slc 4540 0 2 0 1 false), (.slc 4544 0 1 0 4 false)] 240 0),
  (3602, .cells [(.ptr 1606 0), (.ptr 3495 0), (.bool false), (.int .i64 (.ofNat 1))] 152 0),
  (3605, .cells [(.ptr 3494 0), (.ptr 4602 0), (.int .i64 (.ofNat 0)), (.int .i64 (.ofNat 0)), .nils] 155 0)]⟩
/-- what blazon/blazonref20.New answers -/
def m6 : X.Memo := ⟨[(.agg [(.str 11849049858563923895851760537863584184711016682421584923073274697118873394038929410735564982196712023382670991292587344815194836579755410161227496014647560182126039382513884118036166089919905237560808222776897808003461643341736861790641671624868987003771874237941911561193739706743968196650112466216020296153636248235791600110584718602202386687375267475956430870461708461056777977129223723774643929439088437004168528861735548171436733122533060664220808271527383272188037611495025585820348531259583440881105527284400876899994379897112972892334475175232053365237589017771715817514112428607890805648512563376567536454587637760532792625002228401256305541008184052542602965653494016363129789522032251921063839800603499557957680 300), (.str 0 0), (.str 3449514003122446829554851268604986667056 17), (.str 14510375716498715611690905437873011303550455212302534340300045284630605455590544202927017925380849549960438933394455997148860994980512255923165999437541487217418058911639569593027282506230892502240039760441968118059636499034313086973814480092144760962789203447058859968261833181067282446782170846672193680761146414336044669378678600868749588360238829411812585519398426705586524487746660433569432937027558679611645814940072799820092101144344220359294944432375844848423601393295963225373330372323056228245710511325405912885305939329929899366936236813755748067502446257698020991692623346033129631017671072868693782001003922408523778376868611842572170277660859907225547558811780126735292758715211450450385700960244557869137339346174502842006020173872 310)]), (.agg [(.bool false), (.int .i64 (.ofNat 3))]), (.agg [(.int .i64 (.ofNat 5)), (.int .i64 (.ofNat 100))])], tabs1, (.ptr 4605 0), 3607, [(538, .cells [(.int .i32 (.ofNat 97)), (.int .i32 (.ofNat 769))] 21 0),
  (555, .cells [(.int .i32 (.ofNat 97)), (.int .i32 (.ofNat 778))] 21 0),
  (605, .cells [(.int .i32 (.ofNat 32)), (.int .i32 (.ofNat 32)), (.str 29530 2), (.int .i64 (.ofNat 0)), .nils, (.bool false), (.int .i32 (.ofNat 45)), (.int .i32 (.ofNat 45)), (.str 25680 2), (.int .i64 (.ofNat 0)), .nils, (.bool false), (.int .i32 (.ofNat 65)), (.int .i32 (.ofNat 65)), (.str 30028 2), (.int .i64 (.ofNat 0)), .nils, (.bool false), (.int .i32 (.ofNat 97)), (.int .i32 (.ofNat 97)), (.str 27724 2), (.int .i64 (.ofNat 0)), .nils, (.bool false), (.int .i32 (.ofNat 98)), (.int .i32 (.ofNat 98)), (.str 27724 2), (.int .i64 (.ofNat 0)), .nils, (.bool false), (.int .i32 (.ofNat 99)), (.int .i32 (.ofNat 99)), (.str 27724 2), (.int .i64 (.ofNat 0)), .nils, (.bool false), (.int .i32 (.ofNat 104)), (.int .i32 (.ofNat 104)), (.str 27724 2), (.int .i64 (.ofNat 0)), .nils, (.bool false), (.int .i32 (.ofNat 225)), (.int .i32 (.ofNat 225)), (.str 27724 2), (.int .i64 (.ofNat 0)), (.slc 1538 0 2 0 1 false), (.bool true), (.int .i32 (.ofNat 229)), (.int .i32 (.ofNat 229)), (.str 27724 2), (.int .i64 (.ofNat 0)), (.slc 1555 0 2 0 1 false), (.bool true), (.int .i32 (.ofNat 769)), (.int .i32 (.ofNat 769)), (.str 28237 2), (.int .i64 (.ofNat 230)), .nils, (.bool false), (.int .i32 (.ofNat 778)), (.int .i32 (.ofNat 778)), (.str 28237 2), (.int .i64 (.ofNat 230)), .nils, (.bool false), (.int .i32 (.ofNat 803)), (.int .i32 (.ofNat 803)), (.str 28237 2), (.int .i64 (.ofNat 220)), .nils, (.bool false)] 412 0),
  (606, .cells [(.slc 1605 0 12 0 6 false), .nils] 406 0),
  (2446, .cells [(.slc 3493 0 1 0 3 false)] 415 0),
  (2469, .cells [(.int .i32 (.ofNat 97))] 21 0),
  (2493, .cells [(.int .i32 (.ofNat 65)), (.str 67 1), (.slc 3469 0 1 0 1 false)] 417 0),
  (2494, .cells [(.ptr 1606 0), (.ptr 3446 0)] 150 0),
  (2495, .cells [(.slc 4591 0 12 0 2 false), .nils] 232 0),
  (2533, .cells [(.int .i32 (.ofNat 32))] 21 0),
  (2537, .cells [(.int .u16 (.ofNat 521)), (.int .u16 (.ofNat 32)), (.int .u16 (.ofNat 2)), (.bool true)] 270 0),
  (2587, .cells [(.int .i32 (.ofNat 45))] 21 0),
  (2591, .cells [(.int .u16 (.ofNat 525)), (.int .u16 (.ofNat 32)), (.int .u16 (.ofNat 2)), (.bool true)] 270 0),
  (2650, .cells [(.int .i32 (.ofNat 97))] 21 0),
  (2654, .cells [(.int .u16 (.ofNat 7239)), (.int .u16 (.ofNat 32)), (.int .u16 (.ofNat 2)), (.bool false)] 270 0),
  (2722, .cells [(.int .i32 (.ofNat 65))] 21 0),
  (2726, .cells [(.int .u16 (.ofNat 7239)), (.int .u16 (.ofNat 32)), (.int .u16 (.ofNat 8)), (.bool false)] 270 0),
  (2803, .cells [(.int .i32 (.ofNat 98))] 21 0),
  (2807, .cells [(.int .u16 (.ofNat 7264)), (.int .u16 (.ofNat 32)), (.int .u16 (.ofNat 2)), (.bool false)] 270 0),
  (2893, .cells [(.int .i32 (.ofNat 99))] 21 0),
  (2897, .cells [(.int .u16 (.ofNat 7290)), (.int .u16 (.ofNat 32)), (.int .u16 (.ofNat 2)), (.bool false)] 270 0),
  (2992, .cells [(.int .i32 (.ofNat 104))] 21 0),
  (2996, .cells [(.int .u16 (.ofNat 7448)), (.int .u16 (.ofNat 32)), (.int .u16 (.ofNat 2)), (.bool false)] 270 0),
  (3104, .cells [(.int .i32 (.ofNat 99)), (.int .i32 (.ofNat 104))] 21 0),
  (3108, .cells [(.int .u16 (.ofNat 7295)), (.int .u16 (.ofNat 32)), (.int .u16 (.ofNat 2)), (.bool false)] 270 0),
  (3158, .cells [(.int .i32 (.ofNat 769))] 21 0),
  (3162, .cells [(.int .u16 (.ofNat 0)), (.int .u16 (.ofNat 36)), (.int .u16 (.ofNat 2)), (.bool false)] 270 0),
  (3275, .cells [(.int .i32 (.ofNat 803))] 21 0),
  (3279, .cells [(.int .u16 (.ofNat 0)), (.int .u16 (.ofNat 66)), (.int .u16 (.ofNat 2)), (.bool false)] 270 0),
  (3401, .cells [(.int .i32 (.ofNat 778))] 21 0),
  (3405, .cells [(.int .u16 (.ofNat 0)), (.int .u16 (.ofNat 41)), (.int .u16 (.ofNat 2)), (.bool false)] 270 0),
  (3540, .cells [(.int .i32 (.ofNat 97)), (.int .i32 (.ofNat 778))] 21 0),
  (3544, .cells [(.int .u16 (.ofNat 8191)), (.int .u16 (.ofNat 32)), (.int .u16 (.ofNat 2)), (.bool false)] 270 0),
  (3591, .cells [(.slc 3533 0 1 0 1 false), (.slc 3537 0 1 0 4 false), (.slc 3587 0 1 0 1 false), (.slc 3591 0 1 0 4 false), (.slc 3650 0 1 0 1 false), (.slc 3654 0 1 0 4 false), (.slc 3722 0 1 0 1 false), (.slc 3726 0 1 0 4 false), (.slc 3803 0 1 0 1 false), (.slc 3807 0 1 0 4 false), (.slc 3893 0 1 0 1 false), (.slc 3897 0 1 0 4 false), (.slc 3992 0 1 0 1 false), (.slc 3996 0 1 0 4 false), (.slc 4104 0 2 0 1 false), (.slc 4108 0 1 0 4 false), (.slc 4158 0 1 0 1 false), (.slc 4162 0 1 0 4 false), (.slc 4275 0 1 0 1 false), (.slc 4279 0 1 0 4 false), (.slc 4401 0 1 0 1 false), (.slc 4405 0 1 0 4 false), (.slc 4540 0 2 0 1 false), (.slc 4544 0 1 0 4 false)] 240 0),
  (3602, .cells [(.ptr 1606 0), (.ptr 3495 0), (.bool false), (.int .i64 (.ofNat 3))] 152 0),
  (3605, .cells [(.ptr 3494 0), (.ptr 4602 0), (.int .i64 (.ofNat 5)), (.int .i64 (.ofNat 100)), .nils] 155 0)]⟩
/-- what blazon/blazonlaw20.Made answers -/
def m7 : X.Memo := ⟨[(.agg [(.str 11849049858563923895851760537863584184711016682421584923073274697118873394038929410735564982196712023382670991292587344815194836579755410161227496014647560182126039382513884118036166089919905237560808222776897808003461643341736861790641671624868987003771874237941911561193739706743968196650112466216020296153636248235791600110584718602202386687375267475956430870461708461056777977129223723774643929439088437004168528861735548171436733122533060664220808271527383272188037611495025585820348531259583440881105527284400876899994379897112972892334475175232053365237589017771715817514112428607890805648512563376567536454587637760532792625002228401256305541008184052542602965653494016363129789522032251921063839800603499557957680 300), (.str 0 0), (.str 3449514003122446829554851268604986667056 17), (.str 14510375716498715611690905437873011303550455212302534340300045284630605455590544202927017925380849549960438933394455997148860994980512255923165999437541487217418058911639569593027282506230892502240039760441968118059636499034313086973814480092144760962789203447058859968261833181067282446782170846672193680761146414336044669378678600868749588360238829411812585519398426705586524487746660433569432937027558679611645814940072799820092101144344220359294944432375844848423601393295963225373330372323056228245710511325405912885305939329929899366936236813755748067502446257698020991692623346033129631017671072868693782001003922408523778376868611842572170277660859907225547558811780126735292758715211450450385700960244557869137339346174502842006020173872 310)]), (.agg [(.bool false), (.int .i64 (.ofNat 1))]), (.agg [(.int .i64 (.ofNat 0)), (.int .i64 (.ofNat 0))])], tabs1, (.tup [(.ptr 7787 0), (.ptr 4608 0)]), 6788, [(541, .cells [(.int .i32 (.ofNat 97)), (.int .i32 (.ofNat 769))] 21 0),
  (558, .cells [(.int .i32 (.ofNat 97)), (.int .i32 (.ofNat 778))] 21 0),
  (608, .cells [(.int .i32 (.ofNat 32)), (.int .i32 (.ofNat 32)), (.str 29530 2), (.int .i64 (.ofNat 0)), .nils, (.bool false), (.int .i32 (.ofNat 45)), (.int .i32 (.ofNat 45)), (.str 25680 2), (.int .i64 (.ofNat 0)), .nils, (.bool false), (.int .i32 (.ofNat 65)), (.int .i32 (.ofNat 65)), (.str 30028 2), (.int .i64 (.ofNat 0)), .nils, (.bool false), (.int .i32 (.ofNat 97)), (.int .i32 (.ofNat 97)), (.str 27724 2), (.int .i64 (.ofNat 0)), .nils, (.bool false), (.int .i32 (.ofNat 98)), (.int .i32 (.ofNat 98)), (.str 27724 2), (.int .i64 (.ofNat 0)), .nils, (.bool false), (.int .i32 (.ofNat 99)), (.int .i32 (.ofNat 99)), (.str 27724 2), (.int .i64 (.ofNat 0)), .nils, (.bool false), (.int .i32 (.ofNat 104)), (.int .i32 (.ofNat 104)), (.str 27724 2), (.int .i64 (.ofNat 0)), .nils, (.bool false), (.int .i32 (.ofNat 225)), (.int .i32 (.ofNat 225)), (.str 27724 2), (.int .i64 (.ofNat 0)), (.slc 1541 0 2 0 1 false), (.bool true), (.int .i32 (.ofNat 229)), (.int .i32 (.ofNat 229)), (.str 27724 2), (.int .i64 (.ofNat 0)), (.slc 1558 0 2 0 1 false), (.bool true), (.int .i32 (.ofNat 769)), (.int .i32 (.ofNat 769)), (.str 28237 2), (.int .i64 (.ofNat 230)), .nils, (.bool false), (.int .i32 (.ofNat 778)), (.int .i32 (.ofNat 778)), (.str 28237 2), (.int .i64 (.ofNat 230)), .nils, (.bool false), (.int .i32 (.ofNat 803)), (.int .i32 (.ofNat 803)), (.str 28237 2), (.int .i64 (.ofNat 220)), .nils, (.bool false)] 412 0),
  (609, .cells [(.slc 1608 0 12 0 6 false), .nils] 406 0),
  (2449, .cells [(.slc 3496 0 1 0 3 false)] 415 0),
  (2472, .cells [(.int .i32 (.ofNat 97))] 21 0),
  (2496, .cells [(.int .i32 (.ofNat 65)), (.str 67 1), (.slc 3472 0 1 0 1 false)] 417 0),
  (2497, .cells [(.ptr 1609 0), (.ptr 3449 0)] 150 0),
  (2498, .cells [(.slc 4594 0 12 0 2 false), .nils] 232 0),
  (2536, .cells [(.int .i32 (.ofNat 32))] 21 0),
  (2540, .cells [(.int .u16 (.ofNat 521)), (.int .u16 (.ofNat 32)), (.int .u16 (.ofNat 2)), (.bool true)] 270 0),
  (2590, .cells [(.int .i32 (.ofNat 45))] 21 0),
  (2594, .cells [(.int .u16 (.ofNat 525)), (.int .u16 (.ofNat 32)), (.int .u16 (.ofNat 2)), (.bool true)] 270 0),
  (2653, .cells [(.int .i32 (.ofNat 97))] 21 0),
  (2657, .cells [(.int .u16 (.ofNat 7239)), (.int .u16 (.ofNat 32)), (.int .u16 (.ofNat 2)), (.bool false)] 270 0),
  (2725, .cells [(.int .i32 (.ofNat 65))] 21 0),
  (2729, .cells [(.int .u16 (.ofNat 7239)), (.int .u16 (.ofNat 32)), (.int .u16 (.ofNat 8)), (.bool false)] 270 0),
  (2806, .cells [(.int .i32 (.ofNat 98))] 21 0),
  (2810, .cells [(.int .u16 (.ofNat 7264)), (.int .u16 (.ofNat 32)), (.int .u16 (.ofNat 2)), (.bool false)] 270 0),
  (2896, .cells [(.int .i32 (.ofNat 99))] 21 0),
  (2900, .cells [(.int .u16 (.ofNat 7290)), (.int .u16 (.ofNat 32)), (.int .u16 (.ofNat 2)), (.bool false)] 270 0),
  (2995, .cells [(.int .i32 (.ofNat 104))] 21 0),
  (2999, .cells [(.int .u16 (.ofNat 7448)), (.int .u16 (.ofNat 32)), (.int .u16 (.ofNat 2)), (.bool false)] 270 0),
  (3107, .cells [(.int .i32 (.ofNat 99)), (.int .i32 (.ofNat 104))] 21 0),
  (3111, .cells [(.int .u16 (.ofNat 7295)), (.int .u16 (.ofNat 32)), (.int .u16 (.ofNat 2)), (.bool false)] 270 0),
  (3161, .cells [(.int .i32 (.ofNat 769))] 21 0),
  (3165, .cells [(.int .u16 (.ofNat 0)), (.int .u16 (.ofNat 36)), (.int .u16 (.ofNat 2)), (.bool false)] 270 0),
  (3278, .cells [(.int .i32 (.ofNat 803))] 21 0),
  (3282, .cells [(.int .u16 (.ofNat 0)), (.int .u16 (.ofNat 66)), (.int .u16 (.ofNat 2)), (.bool false)] 270 0),
  (3404, .cells [(.int .i32 (.ofNat 778))] 21 0),
  (3408, .cells [(.int .u16 (.ofNat 0)), (.int .u16 (.ofNat 41)), (.int .u16 (.ofNat 2)), (.bool false)] 270 0),
  (3543, .cells [(.int .i32 (.ofNat 97)), (.int .i32 (.ofNat 778))] 21 0),
  (3547, .cells [(.int .u16 (.ofNat 8191)), (.int .u16 (.ofNat 32)), (.int .u16 (.ofNat 2)), (.bool false)] 270 0),
  (3594, .cells [(.slc 3536 0 1 0 1 false), (.slc 3540 0 1 0 4 false), (.slc 3590 0 1 0 1 false), (.slc 3594 0 1 0 4 false), (.slc 3653 0 1 0 1 false), (.slc 3657 0 1 0 4 false), (.slc 3725 0 1 0 1 false), (.slc 3729 0 1 0 4 false), (.slc 3806 0 1 0 1 false), (.slc 3810 0 1 0 4 false), (.slc 3896 0 1 0 1 false), (.slc 3900 0 1 0 4 false), (.slc 3995 0 1 0 1 false), (.slc 3999 0 1 0 4 false), (.slc 4107 0 2 0 1 false), (.slc 4111 0 1 0 4 false), (.slc 4161 0 1 0 1 false), (.slc 4165 0 1 0 4 false), (.slc 4278 0 1 0 1 false), (.slc 4282 0 1 0 4 false), (.slc 4404 0 1 0 1 false), (.slc 4408 0 1 0 4 false), (.slc 4543 0 2 0 1 false), (.slc 4547 0 1 0 4 false)] 240 0),
  (3605, .cells [(.ptr 1609 0), (.ptr 3498 0), (.bool false), (.int .i64 (.ofNat 1))] 152 0),
  (3608, .cells [(.ptr 3497 0), (.ptr 4605 0), (.int .i64 (.ofNat 0)), (.int .i64 (.ofNat 0)), .nils] 155 0),
  (3617, .map 21 [⟨(.int .i32 (.ofNat 225)), (.agg [(.slc 5352 0 2 0 1 false), (.bool true)])⟩, ⟨(.int .i32 (.ofNat 229)), (.agg [(.slc 5491 0 2 0 1 false), (.bool true)])⟩] 2),
  (3618, .map 21 [] 0),
  (3619, .map 442 [⟨(.agg [(.int .i32 (.ofNat 97)), (.int .i32 (.ofNat 769))]), (.int .i32 (.ofNat 225))⟩, ⟨(.agg [(.int .i32 (.ofNat 97)), (.int .i32 (.ofNat 778))]), (.int .i32 (.ofNat 229))⟩] 2),
  (3620, .cells [(.ptr 6164 0), (.ptr 6924 0), (.map 4617), (.map 4618), (.map 4619)] 320 0),
  (4352, .cells [(.int .i32 (.ofNat 97)), (.int .i32 (.ofNat 769))] 21 0),
  (4491, .cells [(.int .i32 (.ofNat 97)), (.int .i32 (.ofNat 778))] 21 0),
  (5164, .cells [(.slc 6868 0 10 0 3 false), (.bool true)] 440 0),
  (5868, .cells [(.int .i32 (.ofNat 32)), (.int .i32 (.ofNat 32)), (.int .i64 (.ofNat 23155)), (.int .i32 (.ofNat 45)), (.int .i32 (.ofNat 45)), (.int .i64 (.ofNat 20580)), (.int .i32 (.ofNat 65)), (.int .i32 (.ofNat 65)), (.int .i64 (.ofNat 19573)), (.int .i32 (.ofNat 97)), (.int .i32 (.ofNat 99)), (.int .i64 (.ofNat 19564)), (.int .i32 (.ofNat 104)), (.int .i32 (.ofNat 104)), (.int .i64 (.ofNat 19564)), (.int .i32 (.ofNat 225)), (.int .i32 (.ofNat 225)), (.int .i64 (.ofNat 19564)), (.int .i32 (.ofNat 229)), (.int .i32 (.ofNat 229)), (.int .i64 (.ofNat 19564)), (.int .i32 (.ofNat 769)), (.int .i32 (.ofNat 769)), (.int .i64 (.ofNat 19822)), (.int .i32 (.ofNat 778)), (.int .i32 (.ofNat 778)), (.int .i64 (.ofNat 19822)), (.int .i32 (.ofNat 803)), (.int .i32 (.ofNat 803)), (.int .i64 (.ofNat 19822))] 431 0),
  (5924, .cells [(.slc 7101 0 3 0 3 false), (.bool true)] 440 0),
  (6101, .cells [(.int .i32 (.ofNat 769)), (.int .i32 (.ofNat 769)), (.int .i64 (.ofNat 230)), (.int .i32 (.ofNat 778)), (.int .i32 (.ofNat 778)), (.int .i64 (.ofNat 230)), (.int .i32 (.ofNat 803)), (.int .i32 (.ofNat 803)), (.int .i64 (.ofNat 220))] 431 0),
  (6206, .map 21 [⟨(.int .i32 (.ofNat 65)), (.slc 7275 0 1 0 1 false)⟩] 1),
  (6207, .map 21 [⟨(.int .i32 (.ofNat 65)), (.int .i32 (.ofNat 97))⟩] 1),
  (6208, .cells [(.map 7206), (.map 7207)] 354 0),
  (6275, .cells [(.int .i32 (.ofNat 97))] 21 0),
  (6336, .cells [(.ptr 4620 0), (.ptr 7208 0)] 162 0),
  (6339, .map 186 [⟨(.agg [(.int .i32 (.ofNat 32)), (.int .i32 (.ofNat 0)), (.int .i32 (.ofNat 0)), (.int .i32 (.ofNat 0)), (.int .i64 (.ofNat 1))]), (.slc 7361 0 1 0 4 false)⟩, ⟨(.agg [(.int .i32 (.ofNat 45)), (.int .i32 (.ofNat 0)), (.int .i32 (.ofNat 0)), (.int .i32 (.ofNat 0)), (.int .i64 (.ofNat 1))]), (.slc 7396 0 1 0 4 false)⟩, ⟨(.agg [(.int .i32 (.ofNat 97)), (.int .i32 (.ofNat 0)), (.int .i32 (.ofNat 0)), (.int .i32 (.ofNat 0)), (.int .i64 (.ofNat 1))]), (.slc 7431 0 1 0 4 false)⟩, ⟨(.agg [(.int .i32 (.ofNat 65)), (.int .i32 (.ofNat 0)), (.int .i32 (.ofNat 0)), (.int .i32 (.ofNat 0)), (.int .i64 (.ofNat 1))]), (.slc 7466 0 1 0 4 false)⟩, ⟨(.agg [(.int .i32 (.ofNat 98)), (.int .i32 (.ofNat 0)), (.int .i32 (.ofNat 0)), (.int .i32 (.ofNat 0)), (.int .i64 (.ofNat 1))]), (.slc 7501 0 1 0 4 false)⟩, ⟨(.agg [(.int .i32 (.ofNat 99)), (.int .i32 (.ofNat 0)), (.int .i32 (.ofNat 0)), (.int .i32 (.ofNat 0)), (.int .i64 (.ofNat 1))]), (.slc 7536 0 1 0 4 false)⟩, ⟨(.agg [(.int .i32 (.ofNat 104)), (.int .i32 (.ofNat 0)), (.int .i32 (.ofNat 0)), (.int .i32 (.ofNat 0)), (.int .i64 (.ofNat 1))]), (.slc 7571 0 1 0 4 false)⟩, ⟨(.agg [(.int .i32 (.ofNat 99)), (.int .i32 (.ofNat 104)), (.int .i32 (.ofNat 0)), (.int .i32 (.ofNat 0)), (.int .i64 (.ofNat 2))]), (.slc 7608 0 1 0 4 false)⟩, ⟨(.agg [(.int .i32 (.ofNat 769)), (.int .i32 (.ofNat 0)), (.int .i32 (.ofNat 0)), (.int .i32 (.ofNat 0)), (.int .i64 (.ofNat 1))]), (.slc 7643 0 1 0 4 false)⟩, ⟨(.agg [(.int .i32 (.ofNat 803)), (.int .i32 (.ofNat 0)), (.int .i32 (.ofNat 0)), (.int .i32 (.ofNat 0)), (.int .i64 (.ofNat 1))]), (.slc 7678 0 1 0 4 false)⟩, ⟨(.agg [(.int .i32 (.ofNat 778)), (.int .i32 (.ofNat 0)), (.int .i32 (.ofNat 0)), (.int .i32 (.ofNat 0)), (.int .i64 (.ofNat 1))]), (.slc 7713 0 1 0 4 false)⟩, ⟨(.agg [(.int .i32 (.ofNat 97)), (.int .i32 (.ofNat 778)), (.int .i32 (.ofNat 0)), (.int .i32 (.ofNat 0)), (.int .i64 (.ofNat 2))]), (.slc 7750 0 1 0 4 false)⟩] 12),
  (6340, .cells [(.map 7339), .nils] 166 0),
  (6361, .cells [(.int .u16 (.ofNat 521)), (.int .u16 (.ofNat 32)), (.int .u16 (.ofNat 2)), (.bool true)] 270 0),
  (6396, .cells [(.int .u16 (.ofNat 525)), (.int .u16 (.ofNat 32)), (.int .u16 (.ofNat 2)), (.bool true)] 270 0),
  (6431, .cells [(.int .u16 (.ofNat 7239)), (.int .u16 (.ofNat 32)), (.int .u16 (.ofNat 2)), (.bool false)] 270 0),
  (6466, .cells [(.int .u16 (.ofNat 7239)), (.int .u16 (.ofNat 32)), (.int .u16 (.ofNat 8)), (.bool false)] 270 0),
  (6501, .cells [(.int .u16 (.ofNat 7264)), (.int .u16 (.ofNat 32)), (.int .u16 (.ofNat 2)), (.bool false)] 270 0),
  (6536, .cells [(.int .u16 (.ofNat 7290)), (.int .u16 (.ofNat 32)), (.int .u16 (.ofNat 2)), (.bool false)] 270 0),
  (6571, .cells [(.int .u16 (.ofNat 7448)), (.int .u16 (.ofNat 32)), (.int .u16 (.ofNat 2)), (.bool false)] 270 0),
  (6608, .cells [(.int .u16 (.ofNat 7295)), (.int .u16 (.ofNat 32)), (.int .u16 (.ofNat 2)), (.bool false)] 270 0),
  (6643, .cells [(.int .u16 (.ofNat 0)), (.int .u16 (.ofNat 36)), (.int .u16 (.ofNat 2)), (.bool false)] 270 0),
  (6678, .cells [(.int .u16 (.ofNat 0)), (.int .u16 (.ofNat 66)), (.int .u16 (.ofNat 2)), (.bool false)] 270 0),
  (6713, .cells [(.int .u16 (.ofNat 0)), (.int .u16 (.ofNat 41)), (.int .u16 (.ofNat 2)), (.bool false)] 270 0),
  (6750, .cells [(.int .u16 (.ofNat 8191)), (.int .u16 (.ofNat 32)), (.int .u16 (.ofNat 2)), (.bool false)] 270 0),
  (6783, .cells [(.ptr 4620 0), (.ptr 7340 0), (.bool false), (.int .i64 (.ofNat 1))] 192 0),
  (6785, .cells [.nils, .nils] 117 0),
  (6786, .cells [(.int .i64 (.ofNat 8)), (.ptr 7785 0), (.int .i64 (.ofNat 0))] 109 0),
  (6787, .cells [(.ptr 7336 0), (.ptr 7783 0), (.int .i64 (.ofNat 0)), (.int .i64 (.ofNat 0)), (.ptr 7786 0), (.int .i64 (.ofNat 0))] 28 0)]⟩
/-- what blazon/blazonlaw20.Made answers -/
def m8 : X.Memo := ⟨[(.agg [(.str 11849049858563923895851760537863584184711016682421584923073274697118873394038929410735564982196712023382670991292587344815194836579755410161227496014647560182126039382513884118036166089919905237560808222776897808003461643341736861790641671624868987003771874237941911561193739706743968196650112466216020296153636248235791600110584718602202386687375267475956430870461708461056777977129223723774643929439088437004168528861735548171436733122533060664220808271527383272188037611495025585820348531259583440881105527284400876899994379897112972892334475175232053365237589017771715817514112428607890805648512563376567536454587637760532792625002228401256305541008184052542602965653494016363129789522032251921063839800603499557957680 300), (.str 0 0), (.str 3449514003122446829554851268604986667056 17), (.str 14510375716498715611690905437873011303550455212302534340300045284630605455590544202927017925380849549960438933394455997148860994980512255923165999437541487217418058911639569593027282506230892502240039760441968118059636499034313086973814480092144760962789203447058859968261833181067282446782170846672193680761146414336044669378678600868749588360238829411812585519398426705586524487746660433569432937027558679611645814940072799820092101144344220359294944432375844848423601393295963225373330372323056228245710511325405912885305939329929899366936236813755748067502446257698020991692623346033129631017671072868693782001003922408523778376868611842572170277660859907225547558811780126735292758715211450450385700960244557869137339346174502842006020173872 310)]), (.agg [(.bool false), (.int .i64 (.ofNat 3))]), (.agg [(.int .i64 (.ofNat 5)), (.int .i64 (.ofNat 100))])], tabs1, (.tup [(.ptr 7787 0), (.ptr 4608 0)]), 6788, [(541, .cells [(.int .i32 (.ofNat 97)), (.int .i32 (.ofNat 769))] 21 0),
  (558, .cells [(.int .i32 (.ofNat 97)), (.int .i32 (.ofNat 778))] 21 0),
  (608, .cells [(.int .i32 (.ofNat 32)), (.int .i32 (.ofNat 32)), (.str 29530 2), (.int .i64 (.ofNat 0)), .nils, (.bool false), (.int .i32 (.ofNat 45)), (.int .i32 (.ofNat 45)), (.str 25680 2), (.int .i64 (.ofNat 0)), .nils, (.bool false), (.int .i32 (.ofNat 65)), (.int .i32 (.ofNat 65)), (.str 30028 2), (.int .i64 (.ofNat 0)), .nils, (.bool false), (.int .i32 (.ofNat 97)), (.int .i32 (.ofNat 97)), (.str 27724 2), (.int .i64 (.ofNat 0)), .nils, (.bool false), (.int .i32 (.ofNat 98)), (.int .i32 (.ofNat 98)), (.str 27724 2), (.int .i64 (.ofNat 0)), .nils, (.bool false), (.int .i32 (.ofNat 99)), (.int .i32 (.ofNat 99)), (.str 27724 2), (.int .i64 (.ofNat 0)), .nils, (.bool false), (.int .i32 (.ofNat 104)), (.int .i32 (.ofNat 104)), (.str 27724 2), (.int .i64 (.ofNat 0)), .nils, (.bool false), (.int .i32 (.ofNat 225)), (.int .i32 (.ofNat 225)), (.str 27724 2), (.int .i64 (.ofNat 0)), (.slc 1541 0 2 0 1 false), (.bool true), (.int .i32 (.ofNat 229)), (.int .i32 (.ofNat 229)), (.str 27724 2), (.int .i64 (.ofNat 0)), (.slc 1558 0 2 0 1 false), (.bool true), (.int .i32 (.ofNat 769)), (.int .i32 (.ofNat 769)), (.str 28237 2), (.int .i64 (.ofNat 230)), .nils, (.bool false), (.int .i32 (.ofNat 778)), (.int .i32 (.ofNat 778)), (.str 28237 2), (.int .i64 (.ofNat 230)), .nils, (.bool false), (.int .i32 (.ofNat 803)), (.int .i32 (.ofNat 803)), (.str 28237 2), (.int .i64 (.ofNat 220)), .nils, (.bool false)] 412 0),
  (609, .cells [(.slc 1608 0 12 0 6 false), .nils] 406 0),
  (2449, .cells [(.slc 3496 0 1 0 3 false)] 415 0),
  (2472, .cells [(.int .i32 (.ofNat 97))] 21 0),
  (2496, .cells [(.int .i32 (.ofNat 65)), (.str 67 1), (.slc 3472 0 1 0 1 false)] 417 0),
  (2497, .cells [(.ptr 1609 0), (.ptr 3449 0)] 150 0),
  (2498, .cells [(.slc 4594 0 12 0 2 false), .nils] 232 0),
  (2536, .cells [(.int .i32 (.ofNat 32))] 21 0),
  (2540, .cells [(.int .u16 (.ofNat 521)), (.int .u16 (.ofNat 32)), (.int .u16 (.ofNat 2)), (.bool true)] 270 0),
  (2590, .cells [(.int .i32 (.ofNat 45))] 21 0),
  (2594, .cells [(.int .u16 (.ofNat 525)), (.int .u16 (.ofNat 32)), (.int .u16 (.ofNat 2)), (.bool true)] 270 0),
  (2653, .cells [(.int .i32 (.ofNat 97))] 21 0),
  (2657, .cells [(.int .u16 (.ofNat 7239)), (.int .u16 (.ofNat 32)), (.int .u16 (.ofNat 2)), (.bool false)] 270 0),
  (2725, .cells [(.int .i32 (.ofNat 65))] 21 0),
  (2729, .cells [(.int .u16 (.ofNat 7239)), (.int .u16 (.ofNat 32)), (.int .u16 (.ofNat 8)), (.bool false)] 270 0),
  (2806, .cells [(.int .i32 (.ofNat 98))] 21 0),
  (2810, .cells [(.int .u16 (.ofNat 7264)), (.int .u16 (.ofNat 32)), (.int .u16 (.ofNat 2)), (.bool false)] 270 0),
  (2896, .cells [(.int .i32 (.ofNat 99))] 21 0),
  (2900, .cells [(.int .u16 (.ofNat 7290)), (.int .u16 (.ofNat 32)), (.int .u16 (.ofNat 2)), (.bool false)] 270 0),
  (2995, .cells [(.int .i32 (.ofNat 104))] 21 0),
  (2999, .cells [(.int .u16 (.ofNat 7448)), (.int .u16 (.ofNat 32)), (.int .u16 (.ofNat 2)), (.bool false)] 270 0),
  (3107, .cells [(.int .i32 (.ofNat 99)), (.int .i32 (.ofNat 104))] 21 0),
  (3111, .cells [(.int .u16 (.ofNat 7295)), (.int .u16 (.ofNat 32)), (.int .u16 (.ofNat 2)), (.bool false)] 270 0),
  (3161, .cells [(.int .i32 (.ofNat 769))] 21 0),
  (3165, .cells [(.int .u16 (.ofNat 0)), (.int .u16 (.ofNat 36)), (.int .u16 (.ofNat 2)), (.bool false)] 270 0),
  (3278, .cells [(.int .i32 (.ofNat 803))] 21 0),
  (3282, .cells [(.int .u16 (.ofNat 0)), (.int .u16 (.ofNat 66)), (.int .u16 (.ofNat 2)), (.bool false)] 270 0),
  (3404, .cells [(.int .i32 (.ofNat 778))] 21 0),
  (3408, .cells [(.int .u16 (.ofNat 0)), (.int .u16 (.ofNat 41)), (.int .u16 (.ofNat 2)), (.bool false)] 270 0),
  (3543, .cells [(.int .i32 (.ofNat 97)), (.int .i32 (.ofNat 778))] 21 0),
  (3547, .cells [(.int .u16 (.ofNat 8191)), (.int .u16 (.ofNat 32)), (.int .u16 (.ofNat 2)), (.bool false)] 270 0),
  (3594, .cells [(.slc 3536 0 1 0 1 false), (.slc 3540 0 1 0 4 false), (.slc 3590 0 1 0 1 false), (.slc 3594 0 1 0 4 false), (.slc 3653 0 1 0 1 false), (.slc 3657 0 1 0 4 false), (.slc 3725 0 1 0 1 false), (.slc 3729 0 1 0 4 false), (.slc 3806 0 1 0 1 false), (.slc 3810 0 1 0 4 false), (.slc 3896 0 1 0 1 false), (.slc 3900 0 1 0 4 false), (.slc 3995 0 1 0 1 false), (.slc 3999 0 1 0 4 false), (.slc 4107 0 2 0 1 false), (.slc 4111 0 1 0 4 false), (.slc 4161 0 1 0 1 false), (.slc 4165 0 1 0 4 false), (.slc 4278 0 1 0 1 false), (.slc 4282 0 1 0 4 false), (.slc 4404 0 1 0 1 false), (.slc 4408 0 1 0 4 false), (.slc 4543 0 2 0 1 false), (.slc 4547 0 1 0 4 false)] 240 0),
  (3605, .cells [(.ptr 1609 0), (.ptr 3498 0), (.bool false), (.int .i64 (.ofNat 3))] 152 0),
  (3608, .cells [(.ptr 3497 0), (.ptr 4605 0), (.int .i64 (.ofNat 5)), (.int .i64 (.ofNat 100)), .nils] 155 0),
  (3617, .map 21 [⟨(.int .i32 (.ofNat 225)), (.agg [(.slc 5352 0 2 0 1 false), (.bool true)])⟩, ⟨(.int .i32 (.ofNat 229)), (.agg [(.slc 5491 0 2 0 1 false), (.bool true)])⟩] 2),
  (3618, .map 21 [] 0),
  (3619, .map 442 [⟨(.agg [(.int .i32 (.ofNat 97)), (.int .i32 (.ofNat 769))]), (.int .i32 (.ofNat 225))⟩, ⟨(.agg [(.int .i32 (.ofNat 97)), (.int .i32 (.ofNat 778))]), (.int .i32 (.ofNat 229))⟩] 2),
  (3620, .cells [(.ptr 6164 0), (.ptr 6924 0), (.map 4617), (.map 4618), (.map 4619)] 320 0),
  (4352, .cells [(.int .i32 (.ofNat 97)), (.int .i32 (.ofNat 769))] 21 0),
  (4491, .cells [(.int .i32 (.ofNat 97)), (.int .i32 (.ofNat 778))] 21 0),
  (5164, .cells [(.slc 6868 0 10 0 3 false), (.bool true)] 440 0),
  (5868, .cells [(.int .i32 (.ofNat 32)), (.int .i32 (.ofNat 32)), (.int .i64 (.ofNat 23155)), (.int .i32 (.ofNat 45)), (.int .i32 (.ofNat 45)), (.int .i64 (.ofNat 20580)), (.int .i32 (.ofNat 65)), (.int .i32 (.ofNat 65)), (.int .i64 (.ofNat 19573)), (.int .i32 (.ofNat 97)), (.int .i32 (.ofNat 99)), (.int .i64 (.ofNat 19564)), (.int .i32 (.ofNat 104)), (.int .i32 (.ofNat 104)), (.int .i64 (.ofNat 19564)), (.int .i32 (.ofNat 225)), (.int .i32 (.ofNat 225)), (.int .i64 (.ofNat 19564)), (.int .i32 (.ofNat 229)), (.int .i32 (.ofNat 229)), (.int .i64 (.ofNat 19564)), (.int .i32 (.ofNat 769)), (.int .i32 (.ofNat 769)), (.int .i64 (.ofNat 19822)), (.int .i32 (.ofNat 778)), (.int .i32 (.ofNat 778)), (.int .i64 (.ofNat 19822)), (.int .i32 (.ofNat 803)), (.int .i32 (.ofNat 803)), (.int .i64 (.ofNat 19822))] 431 0),
  (5924, .cells [(.slc 7101 0 3 0 3 false), (.bool true)] 440 0),
  (6101, .cells [(.int .i32 (.ofNat 769)), (.int .i32 (.ofNat 769)), (.int .i64 (.ofNat 230)), (.int .i32 (.ofNat 778)), (.int .i32 (.ofNat 778)), (.int .i64 (.ofNat 230)), (.int .i32 (.ofNat 803)), (.int .i32 (.ofNat 803)), (.int .i64 (.ofNat 220))] 431 0),
  (6206, .map 21 [⟨(.int .i32 (.ofNat 65)), (.slc 7275 0 1 0 1 false)⟩] 1),
  (6207, .map 21 [⟨(.int .i32 (.ofNat 65)), (.int .i32 (.ofNat 97))⟩] 1),
  (6208, .cells [(.map 7206), (.map 7207)] 354 0),
  (6275, .cells [(.int .i32 (.ofNat 97))] 21 0),
  (6336, .cells [(.ptr 4620 0), (.ptr 7208 0)] 162 0),
  (6339, .map 186 [⟨(.agg [(.int .i32 (.ofNat 32)), (.int .i32 (.ofNat 0)), (.int .i32 (.ofNat 0)), (.int .i32 (.ofNat 0)), (.int .i64 (.ofNat 1))]), (.slc 7361 0 1 0 4 false)⟩, ⟨(.agg [(.int .i32 (.ofNat 45)), (.int .i32 (.ofNat 0)), (.int .i32 (.ofNat 0)), (.int .i32 (.ofNat 0)), (.int .i64 (.ofNat 1))]), (.slc 7396 0 1 0 4 false)⟩, ⟨(.agg [(.int .i32 (.ofNat 97)), (.int .i32 (.ofNat 0)), (.int .i32 (.ofNat 0)), (.int .i32 (.ofNat 0)), (.int .i64 (.ofNat 1))]), (.slc 7431 0 1 0 4 false)⟩, ⟨(.agg [(.int .i32 (.ofNat 65)), (.int .i32 (.ofNat 0)), (.int .i32 (.ofNat 0)), (.int .i32 (.ofNat 0)), (.int .i64 (.ofNat 1))]), (.slc 7466 0 1 0 4 false)⟩, ⟨(.agg [(.int .i32 (.ofNat 98)), (.int .i32 (.ofNat 0)), (.int .i32 (.ofNat 0)), (.int .i32 (.ofNat 0)), (.int .i64 (.ofNat 1))]), (.slc 7501 0 1 0 4 false)⟩, ⟨(.agg [(.int .i32 (.ofNat 99)), (.int .i32 (.ofNat 0)), (.int .i32 (.ofNat 0)), (.int .i32 (.ofNat 0)), (.int .i64 (.ofNat 1))]), (.slc 7536 0 1 0 4 false)⟩, ⟨(.agg [(.int .i32 (.ofNat 104)), (.int .i32 (.ofNat 0)), (.int .i32 (.ofNat 0)), (.int .i32 (.ofNat 0)), (.int .i64 (.ofNat 1))]), (.slc 7571 0 1 0 4 false)⟩, ⟨(.agg [(.int .i32 (.ofNat 99)), (.int .i32 (.ofNat 104)), (.int .i32 (.ofNat 0)), (.int .i32 (.ofNat 0)), (.int .i64 (.ofNat 2))]), (.slc 7608 0 1 0 4 false)⟩, ⟨(.agg [(.int .i32 (.ofNat 769)), (.int .i32 (.ofNat 0)), (.int .i32 (.ofNat 0)), (.int .i32 (.ofNat 0)), (.int .i64 (.ofNat 1))]), (.slc 7643 0 1 0 4 false)⟩, ⟨(.agg [(.int .i32 (.ofNat 803)), (.int .i32 (.ofNat 0)), (.int .i32 (.ofNat 0)), (.int .i32 (.ofNat 0)), (.int .i64 (.ofNat 1))]), (.slc 7678 0 1 0 4 false)⟩, ⟨(.agg [(.int .i32 (.ofNat 778)), (.int .i32 (.ofNat 0)), (.int .i32 (.ofNat 0)), (.int .i32 (.ofNat 0)), (.int .i64 (.ofNat 1))]), (.slc 7713 0 1 0 4 false)⟩, ⟨(.agg [(.int .i32 (.ofNat 97)), (.int .i32 (.ofNat 778)), (.int .i32 (.ofNat 0)), (.int .i32 (.ofNat 0)), (.int .i64 (.ofNat 2))]), (.slc 7750 0 1 0 4 false)⟩] 12),
  (6340, .cells [(.map 7339), .nils] 166 0),
  (6361, .cells [(.int .u16 (.ofNat 521)), (.int .u16 (.ofNat 32)), (.int .u16 (.ofNat 2)), (.bool true)] 270 0),
  (6396, .cells [(.int .u16 (.ofNat 525)), (.int .u16 (.ofNat 32)), (.int .u16 (.ofNat 2)), (.bool true)] 270 0),
  (6431, .cells [(.int .u16 (.ofNat 7239)), (.int .u16 (.ofNat 32)), (.int .u16 (.ofNat 2)), (.bool false)] 270 0),
  (6466, .cells [(.int .u16 (.ofNat 7239)), (.int .u16 (.ofNat 32)), (.int .u16 (.ofNat 8)), (.bool false)] 270 0),
  (6501, .cells [(.int .u16 (.ofNat 7264)), (.int .u16 (.ofNat 32)), (.int .u16 (.ofNat 2)), (.bool false)] 270 0),
  (6536, .cells [(.int .u16 (.ofNat 7290)), (.int .u16 (.ofNat 32)), (.int .u16 (.ofNat 2)), (.bool false)] 270 0),
  (6571, .cells [(.int .u16 (.ofNat 7448)), (.int .u16 (.ofNat 32)), (.int .u16 (.ofNat 2)), (.bool false)] 270 0),
  (6608, .cells [(.int .u16 (.ofNat 7295)), (.int .u16 (.ofNat 32)), (.int .u16 (.ofNat 2)), (.bool false)] 270 0),
  (6643, .cells [(.int .u16 (.ofNat 0)), (.int .u16 (.ofNat 36)), (.int .u16 (.ofNat 2)), (.bool false)] 270 0),
  (6678, .cells [(.int .u16 (.ofNat 0)), (.int .u16 (.ofNat 66)), (.int .u16 (.ofNat 2)), (.bool false)] 270 0),
  (6713, .cells [(.int .u16 (.ofNat 0)), (.int .u16 (.ofNat 41)), (.int .u16 (.ofNat 2)), (.bool false)] 270 0),
  (6750, .cells [(.int .u16 (.ofNat 8191)), (.int .u16 (.ofNat 32)), (.int .u16 (.ofNat 2)), (.bool false)] 270 0),
  (6783, .cells [(.ptr 4620 0), (.ptr 7340 0), (.bool false), (.int .i64 (.ofNat 3))] 192 0),
  (6785, .cells [.nils, .nils] 117 0),
  (6786, .cells [(.int .i64 (.ofNat 8)), (.ptr 7785 0), (.int .i64 (.ofNat 0))] 109 0),
  (6787, .cells [(.ptr 7336 0), (.ptr 7783 0), (.int .i64 (.ofNat 5)), (.int .i64 (.ofNat 100)), (.ptr 7786 0), (.int .i64 (.ofNat 0))] 28 0)]⟩
def memo0 : List (Nat × X.Memo) := []
def memo1 : List (Nat × X.Memo) := [(75, m0)]
def memo2 : List (Nat × X.Memo) := [(37, m1), (75, m0)]
def memo3 : List (Nat × X.Memo) := [(36, m2), (37, m1), (75, m0)]
def memo4 : List (Nat × X.Memo) := [(73, m3), (36, m2), (37, m1), (75, m0)]
def memo5 : List (Nat × X.Memo) := [(74, m4), (73, m3), (36, m2), (37, m1), (75, m0)]
def memo6 : List (Nat × X.Memo) := [(35, m5), (74, m4), (73, m3), (36, m2), (37, m1), (75, m0)]
def memo7 : List (Nat × X.Memo) := [(35, m6), (35, m5), (74, m4), (73, m3), (36, m2), (37, m1), (75, m0)]
def memo8 : List (Nat × X.Memo) := [(17, m7), (35, m6), (35, m5), (74, m4), (73, m3), (36, m2), (37, m1), (75, m0)]
def memo9 : List (Nat × X.Memo) := [(17, m8), (17, m7), (35, m6), (35, m5), (74, m4), (73, m3), (36, m2), (37, m1), (75, m0)]
def noX : List (Nat × X.MemoX) := []
end Go.Proofs.YtmhjdchoeeikaaaGreatDoor.storeNil
