/-
  A function that X finds true returns true, and turns nothing that was there. No conditions. An executor of its own, proved sound against the model; nothing here is of one program.
-/
import Derived.Test.YtmhjdchoeeikaaaGreatDoorXi
import Derived.ProofKit
set_option linter.unusedVariables false
namespace Go.X
open Go.ChangeShapes Go.WideShapes Go.ChangeAt Go.RowKit
def isTrueV : V → Bool | .bool true => true | _ => false
def allTrue : Ans → Bool | .ok l => allL (fun r => isTrueV r.v) l | .stuck _ => false
def φ0 : Ph := fun g => if g < 1000 then some (g, 0, 0) else none
theorem rel_l (P : Program) (w : World) : RelH P φ0 (hget .l) w :=
  ⟨fun b hb => absurd (hget_l _) hb, fun b _ _ _ _ _ _ _ hb => absurd (hget_l _) hb, fun b m since seen last kt es cl hb => by rw [hget_l] at hb; cases hb⟩
theorem base0 : Base φ0 1000 := ⟨Nat.le_refl _, fun g hg => ⟨0, by simp [φ0, hg]⟩, fun b hb => by simp [φ0]; omega⟩
theorem stp_below {φ' : Ph} {H' : Nat → Obj} {nx' : Nat} {w w' : World} (h : Stp φ0 (hget .l) 1000 w φ' H' nx' w') : Below w.heap.size w w' :=
  ⟨h.os, h.tape, h.output, h.size, fun B hB => h.keep B hB fun b _ _ _ hb => absurd (hget_l _) hb⟩
/-- a function without arguments that X finds true, from the empty memory -/
theorem true_of {C : Cfg} (hC : CfgOk C) (hM : MemosOk C) (hm : C.P.follows .mixedOrders = true) {fuel f : Nat} (h : allTrue (callTop C fuel f [] .l 1000) = true) (w : World) :
    Go.Calls C.P f #[] w fun e w' => e = .returned (.bool true) ∧ Below w.heap.size w w' := by
  cases hc : callTop C fuel f [] .l 1000 with
  | stuck s => rw [hc] at h; cases h
  | ok l =>
    rw [hc] at h
    have := callF_ok (ev_ok hC hM hm fuel) (L := []) hc (φ := φ0) (w := w) (args' := #[]) (rel_l _ w) base0 (fun lp s hs => by simp [findLp] at hs) .nil 0
    refine (callsIn_wide.1 this).mono fun e w' hp => ?_
    cases e with
    | panicked _ => exact hp.elim
    | outgrown => exact hp.elim
    | returned v =>
      obtain ⟨r, hr, φ', h1, h2, h3⟩ := hp
      have hv := allL_ok h r hr
      refine ⟨?_, stp_below h3⟩
      cases hrv : r.v <;> rw [hrv] at hv <;> (try (cases hv; done))
      rename_i b
      cases b with
      | false => cases hv
      | true => rw [hrv] at h1; cases h1; rfl
/-- as 'post_of_same': of what was there before nothing has turned -/
theorem post_of_below {H : Type} {enc : TypeId × Value → H} {P : Program} {f : Func} {s : ChangeSpec} {apart fresh handsOn again : Bool} {W W' : World} {args : Array Value} {v : Value} {ds gs : List (DataW H)} {before pa pv : List MemPlace}
    (hW : DataW.Whole enc P f.params.toList s.vars apart W args.toList ds gs before)
    (hres : ∀ (b : Nat) (sp : Nat → Bool) (hd : Bool), DataW.TrodAll enc P W' b sp hd f.resultTypes.toList (v.resultList f.resultTypes.size) (s.fn H (ds ++ gs)).results [])
    (hargs : ∀ sp : Nat → Bool, (∀ p ∈ before, sp p.block = true) → DataW.TrodAll enc P W' 0 sp true f.params.toList args.toList (s.fn H (ds ++ gs)).args pa)
    (hvars : ∀ sp : Nat → Bool, (∀ p ∈ before, sp p.block = true) → DataW.TrodVars enc P W' sp s.vars (s.fn H (ds ++ gs)).vars pv)
    (hps : before = pa ++ pv) (hb : Below W.heap.size W W')
    (hok : ∀ (j : Nat) (t : TypeId) (r : Value), f.resultTypes[j]? = some t → (v.resultList f.resultTypes.size)[j]? = some r → Value.okWide P W' .any 0 t r) :
    s.post enc P f apart fresh handsOn again W args v W' := by
  have hold : ∀ p ∈ before, (fun b => decide (b < W.heap.size)) p.block = true := fun p hp => by simpa using hW.lt p hp
  have hlt : ∀ p ∈ before, p.block < W.heap.size := hW.lt
  refine ⟨ds, gs, before, [], pa, pv, hW, hres _ _ _, hargs _ hold, hvars _ hold, World.keptBut_mono (fun p hp => ⟨hp, ?_⟩) (hb.frame (· ∈ before)), fun _ => ?_⟩
  · rw [hps, List.mem_append] at hp
    exact Or.inr hp
  · obtain ⟨_, _, _, _, _, hz, hn⟩ := hW
    refine ⟨hok, _, _, ([] ++ pa) ++ pv, ⟨[] ++ pa, pv, trodAll_append (hargs _ (fun _ _ => rfl)) (hres _ _ _), hvars _ (fun _ _ => rfl), rfl, ?_, ?_⟩, ?_⟩
    · intro b off hp
      have hp' : MemPlace.cell b off ∈ before := by rw [hps]; simpa using hp
      rw [hb.frozen (hlt _ hp')]
      exact hz b off hp'
    · intro ha
      have := hn ha
      rw [hps] at this
      simpa using this
    · intro p hp _
      rw [hps]
      simpa using hp
end Go.X
