/-
  The law TreeNil returns true, whatever the world it is called in. No conditions: a closed sentence, run by the executor X in the kernel.
-/
import Derived.Test.YtgcmnlllfiebdaeXj
import Derived.Test.YtgcmnlllfiebdaeRows
import Derived.WalkKit
import Derived.OpenShut
namespace Go.Proofs.Ytgcmnlllfiebdae.treeNil
open Go.ChangeShapes Go.WideShapes Go.ChangeAt Go.RowKit
set_option linter.unusedVariables false
def ext1 (f : FuncId) : Option X.Ext := bif Nat.beq f 35 then some (.overlaps 2) else bif Nat.beq f 41 then some (.overlaps 1) else bif Nat.beq f 43 then some .compare else none
noncomputable def C1 : X.Cfg := ⟨Try.prog, ext1⟩
theorem ext_is {f : FuncId} {x : X.Ext} (h : ext1 f = some x) : (f = 35 ∧ x = .overlaps 2) ∨ (f = 41 ∧ x = .overlaps 1) ∨ (f = 43 ∧ x = .compare) := by
  unfold ext1 at h
  cases h1 : Nat.beq f 35 with
  | true => rw [h1] at h; cases h; exact .inl ⟨Nat.eq_of_beq_eq_true h1, rfl⟩
  | false =>
    rw [h1] at h
    cases h2 : Nat.beq f 41 with
    | true => rw [h2] at h; cases h; exact .inr (.inl ⟨Nat.eq_of_beq_eq_true h2, rfl⟩)
    | false =>
      rw [h2] at h
      cases h3 : Nat.beq f 43 with
      | true => rw [h3] at h; cases h; exact .inr (.inr ⟨Nat.eq_of_beq_eq_true h3, rfl⟩)
      | false => rw [h3] at h; cases h
theorem names : (Try.prog.funcs.toList.all fun fn => !(fn.name == "runtime.NumGoroutine")) = true := by kernel_rfl
theorem num (f : FuncId) (fn : Func) (h : Try.prog.funcs[f]? = some fn) : (fn.name == "runtime.NumGoroutine") = false := by
  have h1 := List.all_eq_true.1 names fn (by rw [Array.mem_toList_iff]; exact Array.mem_of_getElem? h)
  simpa using h1
theorem size46 : Try.prog.cellsOf 46 = 2 := by kernel_rfl
theorem size22 : Try.prog.cellsOf 22 = 1 := by kernel_rfl
theorem cfg : X.CfgOk C1 where
  num := num
  ext := by
    intro f x h
    rcases ext_is h with ⟨rfl, rfl⟩ | ⟨rfl, rfl⟩ | ⟨rfl, rfl⟩
    · obtain ⟨i, hi⟩ := X.info_of_cells (P := Try.prog) (t := 46) (by rw [size46]; simp)
      have := X.extOverlaps_ok (P := Try.prog) (t := 40) (e := 46) Try.func35 (by kernel_rfl) (by kernel_rfl) (by kernel_rfl) (by kernel_rfl) (by kernel_rfl) Try.underlying40 hi
      rw [size46] at this; exact this
    · obtain ⟨i, hi⟩ := X.info_of_cells (P := Try.prog) (t := 22) (by rw [size22]; simp)
      have := X.extOverlaps_ok (P := Try.prog) (t := 41) (e := 22) Try.func41 (by kernel_rfl) (by kernel_rfl) (by kernel_rfl) (by kernel_rfl) (by kernel_rfl) Try.underlying41 hi
      rw [size22] at this; exact this
    · exact X.extCompare_ok (P := Try.prog) Try.func43 (by kernel_rfl) (by kernel_rfl) (by kernel_rfl) (by kernel_rfl)
set_option maxRecDepth 1000000 in
theorem run1 : X.allTrue (X.callTop C1 1000000 3 [] .l 1000) = true := by decide +kernel
theorem follows1 : Try.prog.follows .mixedOrders = true := by kernel_rfl
theorem walk (w : World) : Calls Try.prog 3 #[] w fun e w' => e = .returned (.bool true) ∧ Below w.heap.size w w' := X.true_of (C := C1) cfg follows1 run1 w

theorem own : ownKnob Try.prog.godebug = none := by kernel_rfl
set_option maxRecDepth 100000 in
theorem lifted (os : Os) (started : os.Started) (H : Type) (enc : TypeId × Value → H) :
    ReturnsInHanded {} Try.checked os 3 .any (Rows.treeNilSpec.pre6 enc Try.prog Try.f3 Rows.treeNilRow.domain false) (Rows.treeNilSpec.post enc Try.prog Try.f3 false true false false) := by
  refine returnsInHanded_of_change (C := Try.checked) own started (by kernel_rfl) Try.func3
    (ChangeSpec.witness6 (enc := enc) (C := Try.checked) false ⟨#[], #[], []⟩ 8 (by kernel_rfl) (by kernel_rfl) (by kernel_rfl) (by kernel_rfl)) ?_
  intro W base args ds gs before hval0 hW hcnd _
  have hW' := hW
  obtain ⟨p, q, hA0, hV, rfl, hfz, hnd⟩ := hW
  have hA : DataW.TrodAll enc Try.prog W 0 (fun _ => true) true Try.f3.params.toList args.toList ds p := hA0
  rw [Try.params3] at hA
  obtain ⟨rfl, rfl, rfl⟩ := trodAll_none hA
  obtain ⟨rfl, rfl⟩ := trodVars_none hV
  clear hA0 hval0
  simp only [List.append_nil] at hW'
  refine (walk W).mono fun e W' ⟨he, hg⟩ => ?_
  subst he
  exact ⟨_, rfl, X.post_of_below (pa := []) (pv := []) hW' (fun _ _ _ => (trodAll_cons_mk (shut_bool Try.underlying4 _) trodAll_mk0)) (fun sp _ => rfl) (fun _ _ => rfl) rfl
    hg (ok_one (by kernel_rfl) rfl (okWide_bool_mk Try.underlying4 _))⟩

theorem over : Rows.treeNilRow.holds Try.pinned (OpenSpec.ofChange Rows.treeNilSpec) :=
  OpenClaim.holds_of_wide 3 Try.f3 rfl rfl rfl rfl rfl rfl rfl ⟨rfl, rfl, rfl, rfl, rfl⟩ rfl rfl rfl rfl rfl (by kernel_rfl) Try.func3 (by kernel_rfl)
    (of_decide_eq_true (by kernel_rfl)) (by unfold Func.isWrapper; first | (rw [if_pos (by decide +kernel)]; kernel_rfl) | (rw [if_neg (by decide +kernel)]; exact ⟨rfl, rfl⟩))
    (fun os started H enc _ => lifted os started H enc)
theorem proved : Rows.TreeNilSaid := over
#print axioms proved
end Go.Proofs.Ytgcmnlllfiebdae.treeNil
