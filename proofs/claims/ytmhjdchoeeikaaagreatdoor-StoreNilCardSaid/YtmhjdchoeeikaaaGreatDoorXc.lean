/-
  Operations of X against the machine: cells, numbers, strings. No conditions. An executor of its own, proved sound against the model; nothing here is of one program.
-/
import Derived.Test.YtmhjdchoeeikaaaGreatDoorXb
import Derived.Laws.Cells
import Derived.OrdersIn
import Derived.RangeFuncIn
set_option linter.unusedVariables false
namespace Go.X

def NextV (r : Result Next) (v : Value) (w : World) : Prop := r = .ok (.value v) w ∨ (r = .ok .skip w ∧ v = undef)
/-- what an effect has to do with what the machine does -/
def EffOk (P : Program) (φ : Ph) (H : Nat → Obj) (n : Nat) (w : World) (e : Eff) (r : Result Next) : Prop := match e with
  | .bad _ => True
  | .val v => ∃ v' w', NextV r v' w' ∧ VR φ v v' ∧ RelH P φ H w' ∧ ∀ nx, Stp φ H nx w φ H nx w'
  | .new ob v => ∃ v' w2 g off sz, NextV r v' (World.add w2 g) ∧ w2.heap = w.heap ∧ w2.os = w.os ∧ w2.tape = w.tape ∧ w2.output = w.output ∧
      VR (φ.set n (w.heap.size, off, sz)) v v' ∧ ObjR P (φ.set n (w.heap.size, off, sz)) ob (some g) off sz ∧ (∀ m since seen last, ob = .miter (some m) since seen last → H m ≠ .free ∧ RelH P (φ.set n (w.heap.size, off, sz)) (upd H n ob) (World.add w2 g))
  | .set b ob v => ∃ v' w', NextV r v' w' ∧ VR φ v v' ∧ RelH P φ (upd H b ob) w' ∧ ∀ nx, Stp φ H nx w φ (upd H b ob) nx w'
  | .setnew b ob ob2 v => ∃ v' w' φ', NextV r v' w' ∧ VR φ' v v' ∧ Ex.below φ φ' ∧ RelH P φ' (upd (upd H b ob) n ob2) w' ∧ Stp φ H n w φ' (upd (upd H b ob) n ob2) (n + 1) w'
  | .call f args => ∃ args', r = .ok (.enter f args') w ∧ VRs φ args args'.toList
  | .round l args => ∃ args', VRs φ args args'.toList ∧ ∀ B sz q, φ l = some (B, 0, sz) → w.heap[B]? = some (.loop q) → args'.size = q.params.size →
      r = .ok (.round B q.fn ((q.params.zip args').foldl (fun tmps (t, a) => tmps.setIfInBounds t a) q.tmps) q.assign q.body) w
  | .fork b l => ∃ x ∈ l, ∃ v' w', NextV r v' w' ∧ VR φ x.2 v' ∧ RelH P φ (upd H b x.1) w' ∧ ∀ nx, Stp φ H nx w φ (upd H b x.1) nx w'

section
variable {P : Program} {φ : Ph} {H : Nat → Obj} {n : Nat} {w : World}
theorem EffOk.value {v : V} {v' : Value} {r : Result Next} (hr : r = .ok (.value v') w) (hv : VR φ v v') (hR : RelH P φ H w) : EffOk P φ H n w (.val v) r :=
  ⟨v', w, .inl hr, hv, hR, fun _ => Stp.refl _ _ _ _⟩
/-- with draws -/
theorem EffOk.value' {v : V} {v' : Value} {r : Result Next} {w' : World} (hr : r = .ok (.value v') w') (hv : VR φ v v') (hR : RelH P φ H w)
    (e : w'.heap = w.heap) (ho : w'.os = w.os) (ht : w'.tape = w.tape) (hp : w'.output = w.output) : EffOk P φ H n w (.val v) r :=
  ⟨v', w', .inl hr, hv, hR.same e, fun _ => Stp.same _ e ho ht hp⟩

/-! ### Cells -/
theorem cell_of {b B off sz : Nat} (hR : RelH P φ H w) (hb : H b ≠ .free) (hφ : φ b = some (B, off, sz)) : ObjR P φ (H b) w.heap[B]? off sz := by
  obtain ⟨B', o', s', h1, _, h3⟩ := hR.obj b hb
  rw [h1] at hφ; cases hφ; exact h3
theorem rd_cells {b B off sz : Nat} (hR : RelH P φ H w) {vs : List V} {e : TypeId} {hi : Nat} (hb : H b = .cells vs e hi) (hφ : φ b = some (B, off, sz)) {i : Nat} {v : V} (hv : vs[i]? = some v) :
    ∃ x, w.cell? ⟨B, off + i, none⟩ = some x ∧ VR φ v x ∧ x.oneCell = true := by
  have h := cell_of hR (by rw [hb]; simp) hφ
  rw [hb] at h
  obtain ⟨c, h1, h2, h3, h4, h5, h6⟩ := h
  obtain ⟨x, hx, hvx⟩ := h4 i v hv
  exact ⟨x, by simp [World.cell?, h1, hx], hvx, h5 x (by simpa using Array.mem_of_getElem? hx)⟩
theorem rd_bytes {b B off sz : Nat} (hR : RelH P φ H w) {s l : Nat} {e : TypeId} {hi : Nat} (hb : H b = .bytes s l e hi) (hφ : φ b = some (B, off, sz)) {i : Nat} (hi' : i < l) :
    w.cell? ⟨B, off + i, none⟩ = some (.int .u8 (Int.ofNat (sGet s l i))) := by
  have h := cell_of hR (by rw [hb]; simp) hφ
  rw [hb] at h
  obtain ⟨c, fr, h1, h2, h3, h4, h5, _⟩ := h
  simp [World.cell?, h1, h5 i hi']
theorem addr_add (B o n : Nat) : (⟨B, o, none⟩ : Addr).add n = ⟨B, o + n, none⟩ := by
  unfold Addr.add; split
  · rename_i h; subst h; rfl
  · rfl
theorem sCells_get (s l : Nat) : ∀ (n i j : Nat), j < n → (sCells s l n i)[j]? = some (.int .u8 (Int.ofNat (sGet s l (i + j))))
  | 0, _, _, h => by omega
  | n + 1, i, 0, _ => by simp [sCells]
  | n + 1, i, j + 1, h => by
    simp only [sCells, List.getElem?_cons_succ]
    rw [sCells_get s l n (i + 1) j (by omega)]
    congr 4; omega
theorem sCells_length (s l : Nat) : ∀ (n i : Nat), (sCells s l n i).length = n
  | 0, _ => rfl
  | n + 1, i => by simp [sCells, sCells_length s l n]
/-- a run of cells, by getO -/
theorem run_getO {b B off sz o m : Nat} (hR : RelH P φ H w) (hφ : φ b = some (B, off, sz)) {ob : Obj} (hb : H b = ob) {l : List V} (hl : getO ob o m = some l) :
    ∃ cs : List Value, (loadCells ⟨B, off + o, none⟩ m).run P w = .ok cs.toArray w ∧ VRs φ l cs ∧ (∀ c ∈ cs, c.oneCell = true) ∧ cs.length = m ∧ l.length = m ∧
      (∀ j x, cs[j]? = some x → w.cell? ⟨B, off + o + j, none⟩ = some x) := by
  have key : ∀ (l : List V), l.length = m → (∀ (j : Nat) (v : V), l[j]? = some v → ∃ x, w.cell? ⟨B, off + (o + j), none⟩ = some x ∧ VR φ v x ∧ x.oneCell = true) →
      ∃ cs : List Value, (loadCells ⟨B, off + o, none⟩ m).run P w = .ok cs.toArray w ∧ VRs φ l cs ∧ (∀ c ∈ cs, c.oneCell = true) ∧ cs.length = m ∧ l.length = m ∧
      (∀ j x, cs[j]? = some x → w.cell? ⟨B, off + o + j, none⟩ = some x) := by
    intro l hlen hc
    let f : Nat → Value := fun j => (w.cell? ⟨B, off + (o + j), none⟩).getD undef
    have hf : ∀ j, j < m → w.cell? ⟨B, off + (o + j), none⟩ = some (f j) := by
      intro j hj
      obtain ⟨x, hx, _⟩ := hc j l[j] (by simp [hlen, hj])
      simp [f, hx]
    refine ⟨(List.range m).map f, ?_, ?_, ?_, by simp, hlen, ?_⟩
    · refine run_loadCells w _ m f (fun j hj => ?_)
      rw [addr_add, Nat.add_assoc]; exact hf j hj
    · refine VRs.of_get _ _ (by simp [hlen]) (fun i v x hv hx => ?_)
      have hi : i < m := by
        have := List.getElem?_eq_some_iff.1 hv
        obtain ⟨h1, _⟩ := this; omega
      obtain ⟨y, hy, hvy, _⟩ := hc i v hv
      have e : x = f i := by simp [hi] at hx; exact hx.symm
      rw [hf i hi] at hy; cases hy; rw [e]; exact hvy
    · intro c hc'
      obtain ⟨j, hj, rfl⟩ := List.mem_map.1 hc'
      have hj' := List.mem_range.1 hj
      obtain ⟨x, hx, _, h1⟩ := hc j l[j] (by simp [hlen, hj'])
      rw [hf j hj'] at hx; cases hx; exact h1
    · intro j x hx
      have hj : j < m := by
        obtain ⟨h1, _⟩ := List.getElem?_eq_some_iff.1 hx
        simpa using h1
      have e : x = f j := by simp [hj] at hx; exact hx.symm
      rw [e, Nat.add_assoc]; exact hf j hj
  cases ob with
  | cells vs e hi =>
    simp only [getO, takeL_eq, dropL_eq, lenL_eq] at hl
    cases h : Nat.beq (0 + (List.take m (List.drop o vs)).length) m with
    | false => rw [h] at hl; simp at hl
    | true =>
      rw [h] at hl; simp only [cond_true, Option.some.injEq] at hl
      have hlen : l.length = m := by rw [← hl]; have := Nat.eq_of_beq_eq_true h; omega
      refine key l hlen (fun j v hv => ?_)
      have : vs[o + j]? = some v := by
        rw [← hl] at hv
        rw [List.getElem?_take] at hv
        split at hv
        · simpa using hv
        · cases hv
      obtain ⟨x, h1, h2, h3⟩ := rd_cells hR hb hφ this
      exact ⟨x, h1, h2, h3⟩
  | bytes s k e hi =>
    simp only [getO] at hl
    cases h : Nat.ble (o + m) k with
    | false => rw [h] at hl; simp at hl
    | true =>
      rw [h] at hl; simp only [cond_true, Option.some.injEq] at hl
      have hk := Nat.le_of_ble_eq_true h
      subst hl
      refine key _ (sCells_length _ _ _ _) (fun j v hv => ?_)
      have hj : j < m := by
        obtain ⟨h1, _⟩ := List.getElem?_eq_some_iff.1 hv
        rwa [sCells_length] at h1
      rw [sCells_get _ _ _ _ _ hj] at hv; cases hv
      exact ⟨_, rd_bytes hR hb hφ (by omega), .int _ _, rfl⟩
  | _ => simp [getO] at hl

/-! ### Types -/
theorem run_typeInfo' {t : TypeId} {i : TypeInfo} (h : P.info? t = some i) : (typeInfo t).run P w = .ok i w := by
  simp only [typeInfo, Sem.run_bind, run_program, Result.andThen, h]; rfl
theorem run_underlying' {t : TypeId} {d : TypeDesc} (h : P.underlying t = some d) : (underlying t).run P w = .ok d w := by
  simp only [underlying, Sem.run_bind, run_program, Result.andThen, h]; rfl
theorem info_of_underlying {t : TypeId} {d : TypeDesc} (h : P.underlying t = some d) : ∃ i, P.info? t = some i := by
  unfold Program.underlying at h
  cases hi : P.info? t with
  | none => rw [hi] at h; cases h
  | some i => exact ⟨i, rfl⟩
theorem run_sizeOf' {t : TypeId} {i : TypeInfo} (h : P.info? t = some i) : (sizeOf t).run P w = .ok (P.cellsOf t) w := by
  simp only [sizeOf, Sem.run_bind, run_typeInfo' h, Result.andThen, Sem.run_pure, Program.cellsOf, h, Option.map_some, Option.getD_some]
theorem info_of_cells {t : TypeId} (h : P.cellsOf t ≠ 0) : ∃ i, P.info? t = some i := by
  unfold Program.cellsOf at h
  cases hi : P.info? t with
  | none => rw [hi] at h; exact absurd rfl h
  | some i => exact ⟨i, rfl⟩
theorem run_isAgg {t : TypeId} {d : TypeDesc} (h : P.underlying t = some d) : (isAgg t).run P w = .ok (match d with | .struct _ | .array _ _ => true | _ => false) w := by
  simp only [isAgg, Sem.run_bind, run_underlying' h, Result.andThen]
  cases d <;> rfl
theorem lay_one {t : TypeId} (h : lay P t = .one) : ∃ i, P.info? t = some i ∧ (isAgg t).run P w = .ok false w ∧ P.cellsOf t = 1 := by
  unfold lay at h
  cases hu : P.underlying t with
  | none => rw [hu] at h; cases h
  | some d =>
    obtain ⟨i, hi⟩ := info_of_underlying hu
    have h1 : P.cellsOf t = 1 := by
      rw [hu] at h
      cases hq : Nat.beq (P.cellsOf t) 1 with
      | true => exact Nat.eq_of_beq_eq_true hq
      | false => rw [hq] at h; cases d <;> cases h
    refine ⟨i, hi, ?_, h1⟩
    rw [run_isAgg hu]
    rw [hu] at h
    cases d <;> first | rfl | cases h
theorem lay_agg {t : TypeId} {m : Nat} (h : lay P t = .agg m) : ∃ i, P.info? t = some i ∧ (isAgg t).run P w = .ok true w ∧ m = P.cellsOf t := by
  unfold lay at h
  cases hu : P.underlying t with
  | none => rw [hu] at h; cases h
  | some d =>
    obtain ⟨i, hi⟩ := info_of_underlying hu
    rw [run_isAgg hu]
    rw [hu] at h
    cases d <;> first | (cases h; exact ⟨i, hi, rfl, rfl⟩) | (cases hq : Nat.beq (P.cellsOf t) 1 <;> rw [hq] at h <;> cases h)

/-- a variable read -/
theorem run_loadX {b B off sz o : Nat} (hR : RelH P φ H w) (hφ : φ b = some (B, off, sz)) {ob : Obj} (hb : H b = ob) {t : TypeId} {v : V} (hl : loadX (lay P t) ob o = .val v) :
    ∃ x, (loadVar t ⟨B, off + o, none⟩).run P w = .ok x w ∧ VR φ v x := by
  have ag : ∀ m l, lay P t = .agg m → getO ob o m = some l → v = .agg l → ∃ x, (loadVar t ⟨B, off + o, none⟩).run P w = .ok x w ∧ VR φ v x := by
    intro m l hla hg hv
    obtain ⟨i, hi, hag, hm⟩ := lay_agg (w := w) hla
    obtain ⟨cs, h1, h2, h3, _⟩ := run_getO hR hφ hb hg
    refine ⟨.agg ⟨cs⟩, ?_, by rw [hv]; exact .agg _ _ h2 h3⟩
    simp only [loadVar, Sem.run_bind, hag, Result.andThen, if_true, run_sizeOf' hi, ← hm, h1, Sem.run_pure]
  have on : ∀ x, lay P t = .one → w.cell? ⟨B, off + o, none⟩ = some x → VR φ v x → ∃ x, (loadVar t ⟨B, off + o, none⟩).run P w = .ok x w ∧ VR φ v x := by
    intro x hla hx hv
    obtain ⟨i, hi, hag, _⟩ := lay_one (w := w) hla
    refine ⟨x, ?_, hv⟩
    simp only [loadVar, Sem.run_bind, hag, Result.andThen, Bool.false_eq_true, if_false, run_load, hx]
  cases ob with
  | cells vs e hi =>
    simp only [loadX] at hl
    cases hla : lay P t with
    | bad => rw [hla] at hl; simp [partL] at hl
    | one =>
      rw [hla] at hl
      simp only [partL, getL_eq] at hl
      cases hg : vs[o]? with
      | none => rw [hg] at hl; cases hl
      | some y =>
        rw [hg] at hl; cases hl
        obtain ⟨x, h1, h2, _⟩ := rd_cells hR hb hφ hg
        exact on x hla h1 h2
    | agg m =>
      rw [hla] at hl
      simp only [partL] at hl
      cases hq : Nat.beq (lenL (takeL m (dropL o vs)) 0) m with
      | false => rw [hq] at hl; simp at hl
      | true =>
        rw [hq] at hl; simp only [cond_true, Eff.val.injEq] at hl
        exact ag m _ hla (by simp only [getO, hq, cond_true]) hl.symm
  | bytes s k e hi =>
    simp only [loadX] at hl
    cases hla : lay P t with
    | bad => rw [hla] at hl; cases hl
    | one =>
      rw [hla] at hl
      cases hq : Nat.ble (o + 1) k with
      | false => simp only [hq] at hl; simp at hl
      | true =>
        simp only [hq, cond_true, Eff.val.injEq] at hl
        subst hl
        exact on _ hla (rd_bytes hR hb hφ (by have := Nat.le_of_ble_eq_true hq; omega)) (.int _ _)
    | agg m =>
      rw [hla] at hl
      cases hq : Nat.ble (o + m) k with
      | false => simp only [hq] at hl; simp at hl
      | true =>
        simp only [hq, cond_true, Eff.val.injEq] at hl
        exact ag m _ hla (by simp only [getO, hq, cond_true]) hl.symm
  | _ => simp [loadX] at hl
end
end Go.X

namespace Go.X
section
variable {P : Program} {φ : Ph} {H : Nat → Obj} {n : Nat} {w : World}

/-! ### Stores -/
def spliceA (c : Array Value) (k : Nat) : List Value → Array Value
  | [] => c
  | v :: r => spliceA (c.setIfInBounds k v) (k + 1) r
theorem spliceA_size : ∀ (l : List Value) (c : Array Value) (k : Nat), (spliceA c k l).size = c.size
  | [], _, _ => rfl
  | v :: r, c, k => by simp [spliceA, spliceA_size r]
theorem spliceA_get : ∀ (l : List Value) (c : Array Value) (k j : Nat), k + l.length ≤ c.size →
    (spliceA c k l)[j]? = if k ≤ j ∧ j < k + l.length then l[j - k]? else c[j]?
  | [], c, k, j, _ => by
    simp [spliceA]; intro h1 h2; omega
  | v :: r, c, k, j, h => by
    simp only [List.length_cons] at h
    simp only [spliceA]
    rw [spliceA_get r _ _ _ (by simp; omega)]
    by_cases h1 : j = k
    · subst h1
      rw [if_neg (by omega), if_pos (by simp)]
      have : j < c.size := by omega
      simp [this]
    · by_cases h2 : k + 1 ≤ j ∧ j < k + 1 + r.length
      · rw [if_pos h2, if_pos (by simp; omega)]
        rw [show j - k = (j - (k + 1)) + 1 by omega]; simp
      · rw [if_neg h2, if_neg (by simp; omega)]
        simp [Ne.symm h1]
theorem oneCell_eq (v : Value) : v.oneCell' = v.oneCell := by cases v <;> rfl
theorem put_put (w : World) (B : Nat) (g g' : Go.Obj) : World.put (World.put w B g) B g' = World.put w B g' := by
  simp [World.put, Array.setIfInBounds_setIfInBounds]
theorem run_storeCells : ∀ (l : List Value) (w : World) (B k i : Nat) (c : Array Value) (e : TypeId) (fr : Nat × Nat), w.heap[B]? = some (.cells c e fr) → k + i + l.length ≤ c.size →
    (∀ x ∈ l, x.oneCell = true) → (∀ j, j < c.size → ¬ (fr.1 ≤ j ∧ j < fr.2)) →
    (storeCells ⟨B, k, none⟩ l i).run P w = .ok () (World.put w B (.cells (spliceA c (k + i) l) e fr))
  | [], w, B, k, i, c, e, fr, h, _, _, _ => by
    simp only [storeCells, Sem.run_pure, spliceA]
    congr 1
    have hB : B < w.heap.size := by
      rcases Nat.lt_or_ge B w.heap.size with h' | h'
      · exact h'
      · rw [Array.getElem?_eq_none h'] at h; cases h
    have : w.heap.setIfInBounds B (.cells c e fr) = w.heap := by
      apply Array.ext_getElem?
      intro j
      by_cases e' : j = B
      · subst e'
        have hh : w.heap[j] = .cells c e fr := by rw [Array.getElem?_eq_getElem hB] at h; exact Option.some.inj h
        simp [hB, hh]
      · simp [Ne.symm e']
    simp [World.put, this]
  | v :: r, w, B, k, i, c, e, fr, h, hs, h1, hf => by
    simp only [List.length_cons] at hs
    have hc : w.cell? ⟨B, k + i, none⟩ = c[k + i]? := by simp [World.cell?, h]
    have hin : k + i < c.size := by omega
    have hfz : w.frozen? ⟨B, k + i, none⟩ = false := by
      have := hf (k + i) hin
      simp only [World.frozen?, h]
      rw [Bool.eq_false_iff]
      simpa using this
    have hset : w.setCell ⟨B, k + i, none⟩ v = World.put w B (.cells (c.setIfInBounds (k + i) v) e fr) := by
      have hB : B < w.heap.size := by
        rcases Nat.lt_or_ge B w.heap.size with h' | h'
        · exact h'
        · rw [Array.getElem?_eq_none h'] at h; cases h
      simp only [World.setCell, World.put]
      congr 1
      apply Array.ext_getElem?
      intro j
      rw [Array.getElem?_modify]
      by_cases e' : B = j
      · subst e'
        have hh : w.heap[B] = .cells c e fr := by rw [Array.getElem?_eq_getElem hB] at h; exact Option.some.inj h
        simp [hB, hh]
      · simp [e']
    have hB : B < w.heap.size := by
      rcases Nat.lt_or_ge B w.heap.size with h' | h'
      · exact h'
      · rw [Array.getElem?_eq_none h'] at h; cases h
    have ih := run_storeCells r (World.put w B (.cells (c.setIfInBounds (k + i) v) e fr)) B k (i + 1) _ e fr (put_get w B _ hB) (by simp; omega) (fun x hx => h1 x (by simp [hx])) (by simpa using hf)
    simp only [storeCells, Sem.run_bind, addr_add]
    rw [run_store P w _ v _ (by rw [oneCell_eq]; exact h1 v (by simp)), hc]
    simp only [Array.getElem?_eq_getElem hin, hfz, Bool.false_eq_true, if_false, Result.andThen, hset]
    rw [ih, put_put, show k + (i + 1) = k + i + 1 by omega]
    rfl
theorem ByteR_sGet (s l : Nat) (i : Nat) : sGet s l i < 256 := Nat.mod_lt _ (by decide)
theorem sGet_div (s l i : Nat) : sGet s l i = s / 256 ^ i % 256 := by
  unfold sGet
  rw [Nat.shiftRight_eq_div_pow, Nat.pow_mul]
theorem sCut_eq (q n : Nat) : sCut q n = q % 256 ^ n := by
  have e : 2 ^ (8 * n) = 256 ^ n := by rw [Nat.pow_mul]
  unfold sCut
  rw [e]
  cases h : Nat.ble (Nat.log2 q + 1) (8 * n) with
  | false => rfl
  | true =>
    have h1 := Nat.le_of_ble_eq_true h
    have h2 : q < 2 ^ (Nat.log2 q + 1) := Nat.lt_log2_self
    have h3 : 2 ^ (Nat.log2 q + 1) ≤ 2 ^ (8 * n) := Nat.pow_le_pow_right (by decide) h1
    rw [e] at h3
    exact (Nat.mod_eq_of_lt (Nat.lt_of_lt_of_le h2 h3)).symm
theorem sSub_eq (s l lo hi : Nat) : sSub s l lo hi = s / 256 ^ lo % 256 ^ (hi - lo) := by
  unfold sSub
  rw [sCut_eq, Nat.shiftRight_eq_div_pow, Nat.pow_mul]
theorem sCat_eq (s l t : Nat) : sCat s l t = s + t * 256 ^ l := by
  unfold sCat
  cases h : Nat.beq t 0 with
  | true => rw [Nat.eq_of_beq_eq_true h]; simp
  | false => rw [Nat.shiftLeft_eq, Nat.pow_mul]; rfl
theorem sCat_lt {s l t m : Nat} (hs : s < 256 ^ l) (ht : t < 256 ^ m) : sCat s l t < 256 ^ (l + m) := by
  rw [sCat_eq, Nat.pow_add, Nat.mul_comm (256 ^ l)]
  calc s + t * 256 ^ l < 256 ^ l + t * 256 ^ l := by omega
    _ = (t + 1) * 256 ^ l := by rw [Nat.add_mul]; omega
    _ ≤ 256 ^ m * 256 ^ l := Nat.mul_le_mul_right _ ht
theorem sCat_get {s l t m : Nat} (hs : s < 256 ^ l) (i : Nat) (_ : i < l + m) :
    sGet (sCat s l t) (l + m) i = if i < l then sGet s l i else sGet t m (i - l) := by
  simp only [sGet_div, sCat_eq]
  split
  · rename_i h
    have hl : l = i + (1 + (l - i - 1)) := by omega
    have : t * 256 ^ l = 256 ^ i * (256 * (t * 256 ^ (l - i - 1))) := by
      rw [show 256 ^ l = 256 ^ (i + (1 + (l - i - 1))) by rw [← hl], Nat.pow_add, Nat.pow_add, Nat.pow_one]
      ac_rfl
    rw [this, Nat.add_mul_div_left _ _ (Nat.pow_pos (by decide)), Nat.add_mul_mod_self_left]
  · rename_i h
    rw [show 256 ^ i = 256 ^ l * 256 ^ (i - l) by rw [← Nat.pow_add]; congr 1; omega, ← Nat.div_div_eq_div_mul]
    rw [Nat.add_mul_div_right _ _ (Nat.pow_pos (by decide)), Nat.div_eq_of_lt hs, Nat.zero_add]
/-- the bytes of a number -/
theorem bytesOfL_spec : ∀ (xs : List V) (s n t m : Nat), s < 256 ^ n → bytesOfL xs s n = some (t, m) →
    m = n + xs.length ∧ t < 256 ^ m ∧ (∀ i, i < n → sGet t m i = sGet s n i) ∧ ∀ j (v : V), xs[j]? = some v → v = .int .u8 (Int.ofNat (sGet t m (n + j)))
  | [], s, n, t, m, hs, h => by
    simp [bytesOfL] at h; obtain ⟨rfl, rfl⟩ := h
    simp [hs]
  | v :: r, s, n, t, m, hs, h => by
    simp only [bytesOfL] at h
    cases hv : byteV v with
    | none => rw [hv] at h; cases h
    | some q =>
      rw [hv] at h
      have hq : v = .int .u8 (Int.ofNat q) ∧ q ≤ 255 := by
        unfold byteV at hv
        split at hv
        · rename_i m'
          cases hb : Nat.ble m' 255 with
          | false => rw [hb] at hv; cases hv
          | true => rw [hb] at hv; cases hv; exact ⟨rfl, Nat.le_of_ble_eq_true hb⟩
        · cases hv
      obtain ⟨rfl, hq2⟩ := hq
      have hq1 : q < 256 ^ 1 := by omega
      have hs' : sCat s n q < 256 ^ (n + 1) := sCat_lt hs hq1
      obtain ⟨h1, h2, h3, h4⟩ := bytesOfL_spec r (sCat s n q) (n + 1) t m hs' h
      refine ⟨by simp; omega, h2, fun i hi => ?_, ?_⟩
      · rw [h3 i (by omega), sCat_get (m := 1) hs i (by omega), if_pos hi]
      · intro j u hj
        cases j with
        | zero =>
          simp at hj; subst hj
          rw [Nat.add_zero, h3 n (by omega), sCat_get (m := 1) hs n (by omega), if_neg (by omega), Nat.sub_self, sGet_div]
          simp only [Nat.pow_zero, Nat.div_one]
          rw [Nat.mod_eq_of_lt (by omega)]; rfl
        | succ j =>
          simp only [List.getElem?_cons_succ] at hj
          have := h4 j u hj
          rw [this, show n + 1 + j = n + (j + 1) by omega]
theorem sSub_lt (s l lo hi : Nat) : sSub s l lo hi < 256 ^ (hi - lo) := by
  rw [sSub_eq]; exact Nat.mod_lt _ (Nat.pow_pos (by decide))
theorem sSub_get (s l lo hi i : Nat) (_ : hi ≤ l) (h2 : lo + i < hi) : sGet (sSub s l lo hi) (hi - lo) i = sGet s l (lo + i) := by
  simp only [sGet_div, sSub_eq]
  rw [Nat.pow_add, ← Nat.div_div_eq_div_mul]
  generalize s / 256 ^ lo = q
  have : hi - lo = i + (1 + (hi - lo - i - 1)) := by omega
  rw [this, Nat.pow_add, Nat.mod_mul_right_div_self, Nat.pow_add, Nat.pow_one, Nat.mod_mul_right_mod]
theorem sPut_lt {s l o t m : Nat} (ht : t < 256 ^ m) (h : o + m ≤ l) : sPut s l o t m < 256 ^ l := by
  unfold sPut
  have h1 := sCat_lt (sSub_lt s l 0 o) ht
  rw [Nat.sub_zero] at h1
  have h2 := sCat_lt h1 (sSub_lt s l (o + m) l)
  have e : o + m + (l - (o + m)) = l := by omega
  rwa [e] at h2
theorem sPut_get {s l o t m : Nat} (ht : t < 256 ^ m) (h : o + m ≤ l) (i : Nat) (hi : i < l) :
    sGet (sPut s l o t m) l i = if o ≤ i ∧ i < o + m then sGet t m (i - o) else sGet s l i := by
  unfold sPut
  have e : l = (o + m) + (l - (o + m)) := by omega
  have g0 : sSub s l 0 o < 256 ^ o := by have := sSub_lt s l 0 o; rwa [Nat.sub_zero] at this
  have g1 : sGet (sCat (sCat (sSub s l 0 o) o t) (o + m) (sSub s l (o + m) l)) l i =
      sGet (sCat (sCat (sSub s l 0 o) o t) (o + m) (sSub s l (o + m) l)) ((o + m) + (l - (o + m))) i := by rw [← e]
  rw [g1, sCat_get (sCat_lt g0 ht) i (by omega)]
  by_cases h1 : i < o + m
  · rw [if_pos h1, sCat_get g0 i h1]
    by_cases h2 : i < o
    · rw [if_pos h2, if_neg (by omega)]
      have := sSub_get s l 0 o i (by omega) (by omega)
      simpa using this
    · rw [if_neg h2, if_pos ⟨by omega, h1⟩]
  · rw [if_neg h1, if_neg (by omega)]
    have := sSub_get s l (o + m) l (i - (o + m)) (Nat.le_refl _) (by omega)
    rw [this]; congr 1; omega
end
end Go.X

namespace Go.X
section
variable {P : Program} {φ : Ph} {H : Nat → Obj} {n : Nat} {w : World}
theorem putL_length {α : Type} (l : List α) (o : Nat) (xs : List α) (h : o + xs.length ≤ l.length) : (putL l o xs).length = l.length := by
  simp [putL, takeL_eq, dropL_eq]; omega
theorem putL_get {α : Type} (l : List α) (o : Nat) (xs : List α) (h : o + xs.length ≤ l.length) (i : Nat) :
    (putL l o xs)[i]? = if o ≤ i ∧ i < o + xs.length then xs[i - o]? else l[i]? := by
  simp only [putL, takeL_eq, dropL_eq]
  by_cases h1 : i < o
  · rw [List.getElem?_append_left (by simp; omega), if_neg (by omega), List.getElem?_take, if_pos h1]
  · rw [List.getElem?_append_right (by simp; omega)]
    simp only [List.length_take, Nat.min_eq_left (by omega : o ≤ l.length)]
    by_cases h2 : i < o + xs.length
    · rw [List.getElem?_append_left (by omega), if_pos ⟨by omega, h2⟩]
    · rw [List.getElem?_append_right (by omega), if_neg (by omega), List.getElem?_drop]
      congr 1; omega
theorem not_loop_of_cells {B : Nat} {c : Array Value} {e : TypeId} {fr : Nat × Nat} (h : w.heap[B]? = some (.cells c e fr)) {g : Go.Obj} :
    ∀ r : Loop, w.heap[B]? = some (.loop r) → ∃ r' : Loop, g = .loop r' ∧ r'.fn = r.fn ∧ r'.tmps = r.tmps ∧ r'.params = r.params ∧ r'.assign = r.assign ∧ r'.body = r.body ∧ r'.defers = r.defers := by
  intro r hr; rw [h] at hr; cases hr
theorem VRs.all {φ : Ph} {l : List V} {cs : List Value} (h : VRs φ l cs) : ∀ (j : Nat) (v : V) (x : Value), l[j]? = some v → cs[j]? = some x → VR φ v x := by
  intro j v x hv hx
  obtain ⟨y, hy, h'⟩ := h.get j hv
  rw [hx] at hy; cases hy; exact h'
theorem mem_splice {c : Array Value} {k : Nat} {cs : List Value} (h : k + cs.length ≤ c.size) (h1 : ∀ x ∈ c.toList, x.oneCell = true) (h2 : ∀ x ∈ cs, x.oneCell = true) :
    ∀ x ∈ (spliceA c k cs).toList, x.oneCell = true := by
  intro x hx
  obtain ⟨j, hj⟩ := List.mem_iff_getElem?.1 hx
  rw [Array.getElem?_toList, spliceA_get cs c k j h] at hj
  split at hj
  · exact h2 x (List.mem_of_getElem? hj)
  · exact h1 x (List.mem_of_getElem? (by rw [Array.getElem?_toList]; exact hj))
/-- a row of cells, or of bytes, turned as a whole -/
theorem RelH.set_row (hR : RelH P φ H w) {b B off sz : Nat} (hb : H b ≠ .free) (hφ : φ b = some (B, off, sz)) {c : Array Value} {e : TypeId} {fr : Nat × Nat} (hc : w.heap[B]? = some (.cells c e fr))
    {ob : Obj} (ho : notIter ob = true) {c' : Array Value} {fr' : Nat × Nat} (hr : ObjR P φ ob (some (.cells c' e fr')) off sz) :
    RelH P φ (upd H b ob) (World.put w B (.cells c' e fr')) ∧ ∀ nx, Stp φ H nx w φ (upd H b ob) nx (World.put w B (.cells c' e fr')) :=
  ⟨hR.set hb hφ hr (hR.iter_set hb hφ ho), fun nx => Stp.set nx hb hφ ob (fun m h => absurd h (not_over ho m)) _ (not_loop_of_cells hc)⟩
theorem run_putO {b B off sz o : Nat} (hR : RelH P φ H w) (hφ : φ b = some (B, off, sz)) {ob ob' : Obj} (hb : H b = ob) {xs : List V} {cs : List Value} (hx : VRs φ xs cs) (h1 : ∀ x ∈ cs, x.oneCell = true)
    (hp : putO ob o xs = some ob') : ∃ w', (storeCells ⟨B, off + o, none⟩ cs).run P w = .ok () w' ∧ RelH P φ (upd H b ob') w' ∧ ∀ nx, Stp φ H nx w φ (upd H b ob') nx w' := by
  have hlen := hx.length
  cases ob with
  | cells vs e hi =>
    simp only [putO, lenL_eq] at hp
    cases hq : Nat.ble (o + (0 + xs.length)) (0 + vs.length) with
    | false => rw [hq] at hp; cases hp
    | true =>
      rw [hq] at hp; simp only [cond_true, Option.some.injEq] at hp
      have hle := Nat.le_of_ble_eq_true hq
      have hle : o + xs.length ≤ vs.length := by omega
      have hob := cell_of hR (by rw [hb]; simp) hφ
      rw [hb] at hob
      obtain ⟨c, g1, g2, g3, g4, g5, g6⟩ := hob
      have hrun := run_storeCells (P := P) cs w B (off + o) 0 c e (0, 0) g1 (by omega) h1 (by intro j _; simp)
      refine ⟨_, hrun, ?_⟩
      subst hp
      refine hR.set_row (by rw [hb]; simp) hφ g1 rfl ?_
      refine ⟨_, rfl, by rw [spliceA_size]; exact g2, by rw [putL_length _ _ _ hle]; exact g3, ?_, mem_splice (by omega) g5 h1, g6⟩
      intro i v hv
      rw [putL_get _ _ _ hle] at hv
      rw [spliceA_get _ _ _ _ (by omega)]
      split at hv
      · rename_i hin
        rw [if_pos (by omega), show off + i - (off + o + 0) = i - o by omega]
        obtain ⟨x, hx1, hx2⟩ := hx.get _ hv
        exact ⟨x, hx1, hx2⟩
      · rename_i hin
        rw [if_neg (by omega)]
        exact g4 i v hv
  | bytes s l e hi =>
    simp only [putO] at hp
    cases hbo : bytesOfL xs 0 0 with
    | none => rw [hbo] at hp; cases hp
    | some tm =>
      obtain ⟨t, m⟩ := tm
      rw [hbo] at hp
      obtain ⟨k1, k2, _, k4⟩ := bytesOfL_spec xs 0 0 t m (by simp) hbo
      cases hq : Nat.ble (o + m) l with
      | false => simp only [hq] at hp; cases hp
      | true =>
        simp only [hq, cond_true, Option.some.injEq] at hp
        have hle := Nat.le_of_ble_eq_true hq
        have hm : m = xs.length := by omega
        have hob := cell_of hR (by rw [hb]; simp) hφ
        rw [hb] at hob
        obtain ⟨c, fr, g1, g2, g3, g4, g5, g6, g7, g8⟩ := hob
        have hrun := run_storeCells (P := P) cs w B (off + o) 0 c e fr g1 (by omega) h1 g7.free
        refine ⟨_, hrun, ?_⟩
        subst hp
        refine hR.set_row (by rw [hb]; simp) hφ g1 rfl ?_
        refine ⟨_, fr, rfl, by rw [spliceA_size]; exact g2, g3, sPut_lt k2 hle, ?_, mem_splice (by omega) g6 h1, by rw [spliceA_size]; exact g7, g8⟩
        intro i hi'
        rw [spliceA_get _ _ _ _ (by omega), sPut_get k2 hle i hi']
        by_cases hin : o ≤ i ∧ i < o + m
        · rw [if_pos (by omega), if_pos hin, show off + i - (off + o + 0) = i - o by omega]
          have hj : i - o < xs.length := by omega
          have hv : xs[i - o]? = some xs[i - o] := List.getElem?_eq_getElem hj
          obtain ⟨x, hx1, hx2⟩ := hx.get _ hv
          have e1 := k4 _ _ hv
          rw [e1] at hx2
          cases hx2
          rw [hx1, Nat.zero_add]
        · rw [if_neg (by omega), if_neg hin]
          exact g5 i hi'
  | _ => simp [putO] at hp
theorem VR.oneV {v : V} {x : Value} (h : VR φ v x) (h1 : oneV v = true) : x.oneCell = true := by
  cases h <;> first | rfl | (simp [Go.X.oneV] at h1)
theorem cells_one {x : Value} (h : x.oneCell = true) : x.cells = #[x] := by
  cases x <;> first | rfl | (simp [Value.oneCell] at h)
theorem run_storeX {b B off sz o : Nat} (hR : RelH P φ H w) (hφ : φ b = some (B, off, sz)) {t : TypeId} {v : V} {x : Value} (hv : VR φ v x) {b' : Nat} {ob' : Obj} {u : V}
    (hs : storeX (lay P t) b (H b) o v = .set b' ob' u) :
    b' = b ∧ u = und ∧ ∃ w', (storeVar t ⟨B, off + o, none⟩ x).run P w = .ok () w' ∧ RelH P φ (upd H b ob') w' ∧ ∀ nx, Stp φ H nx w φ (upd H b ob') nx w' := by
  cases hla : lay P t with
  | bad => rw [hla] at hs; simp [storeX] at hs
  | one =>
    rw [hla] at hs
    simp only [storeX] at hs
    cases h1 : oneV v with
    | false => rw [h1] at hs; simp at hs
    | true =>
      rw [h1] at hs
      simp only [cond_true] at hs
      cases hp : putO (H b) o [v] with
      | none => rw [hp] at hs; cases hs
      | some y =>
        rw [hp] at hs; cases hs
        refine ⟨rfl, rfl, ?_⟩
        obtain ⟨i, hi, hag, hsz⟩ := lay_one (w := w) hla
        have ho := hv.oneV h1
        obtain ⟨w', hrun, hrest⟩ := run_putO hR hφ rfl (.cons _ _ _ _ hv .nil) (by simpa using ho) hp
        refine ⟨w', ?_, hrest⟩
        simp only [storeVar, Sem.run_bind, run_sizeOf' hi, Result.andThen, hsz, cells_one ho]
        simpa [Sem.run_bind, Sem.run_ite] using hrun
  | agg m =>
    rw [hla] at hs
    simp only [storeX] at hs
    cases v with
    | agg l =>
      simp only [lenL_eq] at hs
      cases h1 : Nat.beq (0 + l.length) m with
      | false => rw [h1] at hs; simp at hs
      | true =>
        rw [h1] at hs
        simp only [cond_true] at hs
        have hm := Nat.eq_of_beq_eq_true h1
        cases hp : putO (H b) o l with
        | none => rw [hp] at hs; cases hs
        | some y =>
          rw [hp] at hs; cases hs
          refine ⟨rfl, rfl, ?_⟩
          obtain ⟨i, hi, hag, hsz⟩ := lay_agg (w := w) hla
          cases hv with
          | agg _ cs hcs hone =>
            obtain ⟨w', hrun, hrest⟩ := run_putO hR hφ rfl hcs hone hp
            refine ⟨w', ?_, hrest⟩
            have := hcs.length
            have hsz' : (Value.agg ⟨cs⟩).cells.size = P.cellsOf t := by show cs.length = _; omega
            simp only [storeVar, Sem.run_bind, run_sizeOf' hi, Result.andThen]
            rw [if_neg (by rw [hsz']; simp)]
            exact hrun
    | _ => simp at hs
end
end Go.X

namespace Go.X
section
variable {P : Program} {φ : Ph} {H : Nat → Obj} {w : World} {ρ : Operand → Value} {o : Oper} {c : Cx}
theorem run_v {s : Sem Value} {x : Value} {w' : World} (h : s.run P w = .ok x w') : (do pure (Next.value (← s)) : Sem Next).run P w = .ok (.value x) w' := by
  simp only [Sem.run_bind, h, Result.andThen, Sem.run_pure]
theorem run_u {s : Sem Unit} {w' : World} (h : s.run P w = .ok () w') : (do s; pure Next.skip : Sem Next).run P w = .ok .skip w' := by
  simp only [Sem.run_bind, h, Result.andThen, Sem.run_pure]
theorem sub_ne (hs : Sub (c.hp) H) {b : Nat} {ob : Obj} (h : c.hp b = ob) (hne : ob ≠ .free) : H b = ob := by
  rw [← hs b (by rw [h]; exact hne), h]
theorem effMove_ok {x : Operand} (hR : RelH P φ H w) (ho : o.op = .move x ∨ o.op = .assign x) (hv : VR φ (c.rd x) (ρ x)) {C : Cfg} :
    EffOk P φ H c.nx w (eMove x C c) ((execOp ρ o).run P w) := by
  refine .value ?_ hv hR
  rcases ho with ho | ho <;> simp only [execOp, ho] <;> rfl
theorem effPick_ok {k a b : Operand} (hR : RelH P φ H w) (ho : o.op = .pick k a b) (hk : VR φ (c.rd k) (ρ k)) (ha : VR φ (c.rd a) (ρ a)) (hb : VR φ (c.rd b) (ρ b)) :
    EffOk P φ H c.nx w (effPick k a b P c) ((execOp ρ o).run P w) := by
  unfold effPick
  cases h : c.rd k with
  | bool t =>
    rw [h] at hk
    generalize hx : ρ k = x at hk
    cases hk
    cases t with
    | true =>
      refine .value ?_ ha hR
      simp only [execOp, ho, hx, asBool, Sem.run_bind, Sem.run_pure, Result.andThen]; rfl
    | false =>
      refine .value ?_ hb hR
      simp only [execOp, ho, hx, asBool, Sem.run_bind, Sem.run_pure, Result.andThen]; rfl
  | _ => trivial
theorem effNil_ok {x : Operand} (hR : RelH P φ H w) (ho : o.op = .nilCheck x) (hv : VR φ (c.rd x) (ρ x)) :
    EffOk P φ H c.nx w (effNil x P c) ((execOp ρ o).run P w) := by
  unfold effNil
  cases h : c.rd x with
  | ptr b q =>
    rw [h] at hv
    generalize hx : ρ x = y at hv
    cases hv with
    | ptr _ _ B off sz hb =>
      refine .value ?_ (.ptr _ _ _ _ _ hb) hR
      simp only [execOp, ho, hx]; rfl
  | _ => trivial
theorem effIface_ok {t : TypeId} {x : Operand} (hR : RelH P φ H w) (ho : o.op = .makeInterface t x) (hv : VR φ (c.rd x) (ρ x)) :
    EffOk P φ H c.nx w (effIface t x P c) ((execOp ρ o).run P w) := by
  unfold effIface
  cases h : P.underlying t with
  | none => trivial
  | some d =>
    cases d with
    | interface ms => trivial
    | _ =>
      refine .value ?_ (.ifc _ _ _ hv) hR
      simp only [execOp, ho]
      refine run_v ?_
      simp only [Instr.makeInterface, Sem.run_bind, run_underlying' h, Result.andThen]; rfl
theorem rds_ok {l : List Operand} (h : ∀ x ∈ l, VR φ (c.rd x) (ρ x)) : VRs φ (rds l c) (l.map ρ) := by
  induction l with
  | nil => exact .nil
  | cons x r ih => exact .cons _ _ _ _ (h x (by simp)) (ih fun y hy => h y (by simp [hy]))
theorem effFunc_ok {fn : Fn} {first cap : Array Operand} (hR : RelH P φ H w) (ho : o.op = .makeFunc fn first cap) (hv : ∀ x ∈ cap.toList, VR φ (c.rd x) (ρ x)) :
    EffOk P φ H c.nx w (effFunc fn first cap P c) ((execOp ρ o).run P w) := by
  unfold effFunc
  cases h : (okFn fn && first.toList.isEmpty) with
  | false => trivial
  | true =>
    simp only [Bool.and_eq_true, List.isEmpty_iff] at h
    obtain ⟨h1, h2⟩ := h
    simp only [cond_true]
    cases fn with
    | func f =>
      refine .value (v' := .func (.func f) #[] ⟨cap.toList.map ρ⟩) ?_ (.fnF _ _ _ (rds_ok hv)) hR
      simp only [execOp, ho]
      refine run_v ?_
      have e1 : first.map ρ = #[] := by
        apply Array.ext'
        simp [h2]
      have e2 : cap.map ρ = ⟨cap.toList.map ρ⟩ := by apply Array.ext'; simp
      simp only [Instr.makeFunc, e1, e2]; rfl
    | _ => simp [okFn] at h1
theorem effExtract_ok {x : Operand} {i : Nat} (hR : RelH P φ H w) (ho : o.op = .extract x i) (hv : VR φ (c.rd x) (ρ x)) :
    EffOk P φ H c.nx w (effExtract x i P c) ((execOp ρ o).run P w) := by
  unfold effExtract
  cases h : c.rd x with
  | tup l =>
    rw [h] at hv
    generalize hx : ρ x = y at hv
    cases hv with
    | tup _ cs hcs =>
      simp only [getL_eq]
      cases hi : l[i]? with
      | none => trivial
      | some v =>
        obtain ⟨z, hz, hvz⟩ := hcs.get i hi
        refine .value ?_ hvz hR
        simp only [execOp, ho, hx]
        refine run_v ?_
        simp only [Instr.extract, List.getElem?_toArray, hz]; rfl
  | _ => trivial
theorem effLoad_ok {t : TypeId} {a : Operand} (hs : Sub (c.hp) H) (hR : RelH P φ H w) (ho : o.op = .load t a) (hv : VR φ (c.rd a) (ρ a)) :
    EffOk P φ H c.nx w (effLoad t a P c) ((execOp ρ o).run P w) := by
  unfold effLoad
  cases h : c.rd a with
  | ptr b q =>
    rw [h] at hv
    generalize hx : ρ a = y at hv
    cases hv with
    | ptr _ _ B off sz hb =>
      simp only
      cases he : loadX (lay P t) (c.hp b) q with
      | val v =>
        have hne : c.hp b ≠ .free := by intro e; rw [e] at he; simp [loadX] at he
        have hb' := hs b hne
        obtain ⟨z, hz, hvz⟩ := run_loadX hR hb rfl (t := t) (o := q) (v := v) (by rw [← hb']; exact he)
        refine .value ?_ hvz hR
        simp only [execOp, ho, hx]
        refine run_v ?_
        simp only [Instr.loadAt, Instr.sureAddr, Sem.run_bind, Sem.run_pure, Result.andThen, hz]
      | bad _ => trivial
      | _ =>
        exfalso
        revert he
        cases c.hp b <;> simp only [loadX] <;> (try simp) <;> cases lay P t <;> simp only [partL] <;> (try simp) <;>
          (first | (split <;> simp) | (rename_i z; cases (Nat.beq _ _) <;> simp) | (cases Nat.ble _ _ <;> simp) | skip)
  | _ => trivial
end
end Go.X

namespace Go.X
section
variable {P : Program} {φ : Ph} {H : Nat → Obj} {w : World} {ρ : Operand → Value} {o : Oper} {c : Cx}
theorem bitsOp_ok {op : BinOp} {k : IntKind} {a b n : Int} (h : bitsOp op k a b = some n) : (Op.intBits op k a b).run P w = .ok (.int k n) w := by
  unfold bitsOp at h
  have e (x : Nat) : (BitVec.ofInt k.bits (Int.ofNat x)).toNat = x % 2 ^ k.bits := by
    have h0 : (0 : Int) < 2 ^ k.bits := Int.pow_pos (by decide)
    rw [BitVec.toNat_ofInt]
    have : (Int.ofNat x) % ((2 ^ k.bits : Nat) : Int) = ((x % 2 ^ k.bits : Nat) : Int) := rfl
    rw [this]; rfl
  split at h
  all_goals (first | (cases h; done) | skip)
  all_goals
    cases h
    simp only [Op.intBits, wrapX_eq, pow2]
    simp only [BitVec.toNat_and, BitVec.toNat_or, BitVec.toNat_xor, e]
    rfl
theorem intOp_ok {op : BinOp} {k : IntKind} {a b : Int} {v : V} {t : TypeId} (h : intOp op k a b = .val v) (hs : isShift op = false) :
    ∃ x, (binOp op t (.int k a) (.int k b)).run P w = .ok x w ∧ VR φ v x := by
  cases op <;> simp only [intOp, isShift] at h hs <;> simp only [binOp, ne_eq, not_true, if_false]
  case add => cases h; exact ⟨_, by simp only [Op.intArith, wrapX_eq]; rfl, .int _ _⟩
  case sub => cases h; exact ⟨_, by simp only [Op.intArith, wrapX_eq]; rfl, .int _ _⟩
  case mul => cases h; exact ⟨_, by simp only [Op.intArith, wrapX_eq]; rfl, .int _ _⟩
  case quo =>
    rw [ieqb_eq] at h
    cases hb : (b == 0) with
    | true => rw [hb] at h; simp at h
    | false =>
      rw [hb] at h; cases h
      exact ⟨_, by simp only [Op.intDiv, wrapX_eq]; rw [if_neg (by simpa using hb)]; rfl, .int _ _⟩
  case rem =>
    rw [ieqb_eq] at h
    cases hb : (b == 0) with
    | true => rw [hb] at h; simp at h
    | false =>
      rw [hb] at h; cases h
      exact ⟨_, by simp only [Op.intDiv]; rw [if_neg (by simpa using hb)]; rfl, .int _ _⟩
  case eql => cases h; exact ⟨_, by simp only [Op.intCmp, ieqb_eq]; rfl, .bool _⟩
  case neq => cases h; exact ⟨_, by simp only [Op.intCmp, ieqb_eq]; rfl, .bool _⟩
  case lss => cases h; exact ⟨_, by simp only [Op.intCmp, iltb_eq]; rfl, .bool _⟩
  case leq => cases h; exact ⟨_, by simp only [Op.intCmp, iltb_eq]; rw [show (decide (a ≤ b)) = !(decide (b < a)) by rw [Bool.eq_iff_iff]; simp]; rfl, .bool _⟩
  case gtr => cases h; exact ⟨_, by simp only [Op.intCmp, iltb_eq]; rfl, .bool _⟩
  case geq => cases h; exact ⟨_, by simp only [Op.intCmp, iltb_eq]; rw [show (decide (a ≥ b)) = !(decide (a < b)) by rw [Bool.eq_iff_iff]; simp]; rfl, .bool _⟩
  case shl => cases hs
  case shr => cases hs
  all_goals
    split at h
    · rename_i n hn; cases h; exact ⟨_, bitsOp_ok hn, .int _ _⟩
    · cases h
theorem shiftOp_ok {op : BinOp} {k k' : IntKind} {a b : Int} {v : V} {t : TypeId} (h : shiftOp op k a b = .val v) :
    ∃ x, (binOp op t (.int k a) (.int k' b)).run P w = .ok x w ∧ VR φ v x := by
  unfold shiftOp at h
  cases b with
  | negSucc m => cases h
  | ofNat m =>
    simp only at h
    have h0 : ¬ (Int.ofNat m < 0) := by show ¬ ((m : Int) < 0); omega
    cases op <;> simp only at h <;> try (cases h; done)
    · cases h
      refine ⟨_, ?_, .int _ _⟩
      simp only [binOp, Op.shift, wrapX_eq, pow2]
      rw [if_neg h0]
      have : Int.ofNat (2 ^ Nat.min m k.bits) = (2 : Int) ^ min (Int.ofNat m).toNat k.bits := by
        rw [show (Int.ofNat m).toNat = m from rfl, show Nat.min m k.bits = min m k.bits from rfl]
        simp
      rw [this]; rfl
    · cases a with
      | negSucc q => cases h
      | ofNat q =>
        cases h
        refine ⟨_, ?_, .int _ _⟩
        simp only [binOp, Op.shift, pow2]
        rw [if_neg h0]
        have : (Int.ofNat q).fdiv (2 ^ min (Int.ofNat m).toNat k.bits) = Int.ofNat (q / 2 ^ Nat.min m k.bits) := by
          rw [show (Int.ofNat m).toNat = m from rfl, show Nat.min m k.bits = min m k.bits from rfl]
          have : (2 : Int) ^ min m k.bits = Int.ofNat (2 ^ min m k.bits) := by simp
          rw [this]; show Int.fdiv (q : Int) ((2 ^ min m k.bits : Nat) : Int) = _; rw [Int.fdiv_eq_ediv_of_nonneg _ (Int.natCast_nonneg _)]; rfl
        rw [this]; rfl
/-! ### Strings as numbers -/
theorem bytesL_length (s l : Nat) : (bytesL s l).length = l := by simp [bytesL]
theorem bytesL_get (s l i : Nat) (h : i < l) : (bytesL s l)[i]? = some (UInt8.ofNat (sGet s l i)) := by simp [bytesL, h]
theorem toNat_ofNat (s l i : Nat) : (UInt8.ofNat (sGet s l i)).toNat = sGet s l i := by
  have := ByteR_sGet s l i
  simp only [UInt8.toNat_ofNat']
  omega
theorem strB_size (s l : Nat) : (strB s l).size = l := by simp [strB, ByteArray.size, bytesL_length]
theorem toList_loop (b : ByteArray) : ∀ (n i : Nat) (r : List UInt8), b.size - i = n → ByteArray.toList.loop b i r = r.reverse ++ b.data.toList.drop i
  | 0, i, r, h => by
    unfold ByteArray.toList.loop
    rw [if_neg (by omega), List.drop_eq_nil_of_le (by simp only [Array.length_toList]; show b.size ≤ i; omega), List.append_nil]
  | n + 1, i, r, h => by
    unfold ByteArray.toList.loop
    rw [if_pos (by omega), toList_loop b n (i + 1) _ (by omega)]
    have hi : i < b.data.toList.length := by simp only [Array.length_toList]; show i < b.size; omega
    rw [List.drop_eq_getElem_cons hi, List.reverse_cons, List.append_assoc, List.singleton_append]
    congr 2
    have hi' : i < b.data.size := by simpa using hi
    show b.data[i]! = b.data[i]
    rw [getElem!_pos b.data i hi']
theorem toList_data (b : ByteArray) : b.toList = b.data.toList := by
  unfold ByteArray.toList
  rw [toList_loop b _ 0 [] rfl]; simp
theorem strB_toList (s l : Nat) : (strB s l).toList = bytesL s l := by
  rw [toList_data]; rfl
theorem pow256_pos (n : Nat) : 0 < 256 ^ n := Nat.pow_pos (by decide)
/-- the first byte, and the others -/
theorem sGet_zero (s l : Nat) : sGet s (l + 1) 0 = s % 256 := by
  rw [sGet_div, Nat.pow_zero, Nat.div_one]
theorem sGet_succ (s l i : Nat) : sGet s (l + 1) (i + 1) = sGet (s / 256) l i := by
  rw [sGet_div, sGet_div, Nat.div_div_eq_div_mul, Nat.pow_succ, Nat.mul_comm]
theorem bytesL_succ (s l : Nat) : bytesL s (l + 1) = UInt8.ofNat (s % 256) :: bytesL (s / 256) l := by
  apply List.ext_getElem?
  intro i
  cases i with
  | zero => rw [bytesL_get _ _ _ (by omega), sGet_zero]; rfl
  | succ i =>
    rw [List.getElem?_cons_succ]
    by_cases hi : i < l
    · rw [bytesL_get _ _ _ (by omega), bytesL_get _ _ _ hi, sGet_succ]
    · rw [List.getElem?_eq_none (by rw [bytesL_length]; omega), List.getElem?_eq_none (by rw [bytesL_length]; omega)]
theorem div_lt256 {s l : Nat} (h : s < 256 ^ (l + 1)) : s / 256 < 256 ^ l := by
  rw [Nat.div_lt_iff_lt_mul (by decide), ← Nat.pow_succ]; exact h
theorem ofNat_inj {a b : Nat} (h : UInt8.ofNat (a % 256) = UInt8.ofNat (b % 256)) : a % 256 = b % 256 := by
  have := congrArg UInt8.toNat h
  simp only [UInt8.toNat_ofNat'] at this
  omega
theorem bytesL_inj : ∀ {l s t : Nat}, s < 256 ^ l → t < 256 ^ l → bytesL s l = bytesL t l → s = t
  | 0, s, t, h1, h2, _ => by simp at h1 h2; omega
  | l + 1, s, t, h1, h2, h => by
    rw [bytesL_succ, bytesL_succ] at h
    injection h with e1 e2
    have e3 := bytesL_inj (div_lt256 h1) (div_lt256 h2) e2
    have e4 := ofNat_inj e1
    omega
theorem sEq_ok {s l t m : Nat} (h1 : s < 256 ^ l) (h2 : t < 256 ^ m) : ((strB s l).toList == (strB t m).toList) = sEq s l t m := by
  rw [strB_toList, strB_toList, Bool.eq_iff_iff]
  simp only [beq_iff_eq, sEq]
  cases hlm : Nat.beq l m with
  | false =>
    simp only [cond_false, Bool.false_eq_true, iff_false]
    intro h
    have := congrArg List.length h
    rw [bytesL_length, bytesL_length] at this
    rw [this, Nat.beq_refl] at hlm; cases hlm
  | true =>
    have := Nat.eq_of_beq_eq_true hlm; subst this
    simp only [cond_true, Nat.beq_eq]
    exact ⟨bytesL_inj h1 h2, fun h => by rw [h]⟩
theorem strB_inj {s l t m : Nat} (h1 : s < 256 ^ l) (h2 : t < 256 ^ m) (h : strB s l = strB t m) : l = m ∧ s = t := by
  have e := congrArg ByteArray.size h
  rw [strB_size, strB_size] at e
  subst e
  have : bytesL s l = bytesL t l := by
    have := congrArg (fun b : ByteArray => b.data.toList) h
    exact this
  exact ⟨rfl, bytesL_inj h1 h2 this⟩
theorem sLtF_ok {l m s t : Nat} : ∀ (f i : Nat), i + f = (if l ≤ m then l else m) →
    sLtF s l t m f i = Op.bytesLess ((bytesL s l).drop i) ((bytesL t m).drop i)
  | 0, i, h => by
    simp only [sLtF]
    by_cases hlm : l ≤ m
    · rw [if_pos hlm] at h
      have e1 : (bytesL s l).drop i = [] := List.drop_eq_nil_of_le (by rw [bytesL_length]; omega)
      rw [e1]
      by_cases hlt : l < m
      · have hi : i < (bytesL t m).length := by rw [bytesL_length]; omega
        rw [List.drop_eq_getElem_cons hi, Nat.ble_eq_true_of_le (by omega : l + 1 ≤ m)]
        rfl
      · have e2 : (bytesL t m).drop i = [] := List.drop_eq_nil_of_le (by rw [bytesL_length]; omega)
        rw [e2]
        have : Nat.ble (l + 1) m = false := by rw [Bool.eq_false_iff]; intro h; have := Nat.le_of_ble_eq_true h; omega
        rw [this]; rfl
    · rw [if_neg hlm] at h
      have e2 : (bytesL t m).drop i = [] := List.drop_eq_nil_of_le (by rw [bytesL_length]; omega)
      have : Nat.ble (l + 1) m = false := by rw [Bool.eq_false_iff]; intro h; have := Nat.le_of_ble_eq_true h; omega
      rw [e2, this]
      cases (bytesL s l).drop i <;> rfl
  | f + 1, i, h => by
    have hl : i < l ∧ i < m := by split at h <;> omega
    have h1 : i < (bytesL s l).length := by rw [bytesL_length]; exact hl.1
    have h2 : i < (bytesL t m).length := by rw [bytesL_length]; exact hl.2
    have g1 : (bytesL s l)[i] = UInt8.ofNat (sGet s l i) := by
      have := bytesL_get s l i hl.1
      rw [List.getElem?_eq_getElem h1] at this; exact Option.some.inj this
    have g2 : (bytesL t m)[i] = UInt8.ofNat (sGet t m i) := by
      have := bytesL_get t m i hl.2
      rw [List.getElem?_eq_getElem h2] at this; exact Option.some.inj this
    rw [List.drop_eq_getElem_cons h1, List.drop_eq_getElem_cons h2, g1, g2]
    simp only [sLtF, Op.bytesLess]
    rw [← sLtF_ok f (i + 1) (by omega)]
    have q1 := ByteR_sGet s l i
    have q2 := ByteR_sGet t m i
    generalize sGet s l i = a at *
    generalize sGet t m i = b at *
    have lt_iff : (UInt8.ofNat a < UInt8.ofNat b) ↔ a < b := by
      rw [UInt8.lt_iff_toNat_lt]; simp only [UInt8.toNat_ofNat']; omega
    have eq_iff : (UInt8.ofNat a = UInt8.ofNat b) ↔ a = b := by
      constructor
      · intro h; have := congrArg UInt8.toNat h; simp only [UInt8.toNat_ofNat'] at this; omega
      · intro h; rw [h]
    by_cases hab : a = b
    · subst hab
      rw [Nat.beq_refl]
      have h5 : decide (UInt8.ofNat a < UInt8.ofNat a) = false := by simp
      rw [h5, Bool.false_or, beq_self_eq_true, Bool.true_and]; rfl
    · have h6 : Nat.beq a b = false := by rw [Bool.eq_false_iff]; intro h; exact hab (Nat.eq_of_beq_eq_true h)
      have h9 : (UInt8.ofNat a == UInt8.ofNat b) = false := by rw [Bool.eq_false_iff]; intro h; exact hab (eq_iff.1 (by simpa using h))
      rw [h6, h9, Bool.false_and, Bool.or_false]
      show Nat.ble (a + 1) b = _
      rw [Bool.eq_iff_iff, Nat.ble_eq, decide_eq_true_eq, lt_iff]
      omega
theorem bytesLess_ok {l m s t : Nat} (_ : s < 256 ^ l) (_ : t < 256 ^ m) : Op.bytesLess (bytesL s l) (bytesL t m) = sLt s l t m := by
  unfold sLt
  rw [sLtF_ok _ _ (by
    rw [Nat.zero_add]
    by_cases h : l ≤ m
    · rw [if_pos h, Nat.ble_eq_true_of_le h]; rfl
    · have : Nat.ble l m = false := by rw [Bool.eq_false_iff]; intro h'; exact h (Nat.le_of_ble_eq_true h')
      rw [if_neg h, this]; rfl)]
  simp
theorem strB_append {s l t m : Nat} (hs : s < 256 ^ l) : strB s l ++ strB t m = strB (sCat s l t) (l + m) := by
  apply ByteArray.ext
  apply Array.ext'
  rw [ByteArray.data_append, Array.toList_append]
  show bytesL s l ++ bytesL t m = bytesL (sCat s l t) (l + m)
  apply List.ext_getElem?
  intro i
  by_cases h : i < l + m
  · rw [bytesL_get _ _ _ h, sCat_get hs i h]
    by_cases h1 : i < l
    · rw [List.getElem?_append_left (by rw [bytesL_length]; exact h1), bytesL_get _ _ _ h1, if_pos h1]
    · rw [List.getElem?_append_right (by rw [bytesL_length]; omega), bytesL_length, bytesL_get _ _ _ (by omega), if_neg h1]
  · rw [List.getElem?_eq_none (by rw [List.length_append, bytesL_length, bytesL_length]; omega), List.getElem?_eq_none (by rw [bytesL_length]; omega)]
theorem strB_extract {s l a b : Nat} (h1 : a ≤ b) (h2 : b ≤ l) : (strB s l).extract a b = strB (sSub s l a b) (b - a) := by
  apply ByteArray.ext
  apply Array.ext'
  rw [ByteArray.data_extract, Array.toList_extract]
  show (bytesL s l).extract a b = bytesL (sSub s l a b) (b - a)
  apply List.ext_getElem?
  intro i
  rw [List.extract_eq_take_drop, List.getElem?_take]
  by_cases h : i < b - a
  · rw [if_pos h, List.getElem?_drop, bytesL_get _ _ _ (by omega), bytesL_get _ _ _ h, sSub_get _ _ _ _ _ h2 (by omega)]
  · rw [if_neg h, List.getElem?_eq_none (by rw [bytesL_length]; omega)]
theorem natOf_ok : ∀ (l : List UInt8), natOf l < 256 ^ l.length ∧ bytesL (natOf l) l.length = l
  | [] => by simp [natOf, bytesL]
  | b :: r => by
    obtain ⟨h1, h2⟩ := natOf_ok r
    have hb : b.toNat < 256 := b.toNat_lt
    simp only [natOf, List.length_cons]
    refine ⟨by rw [Nat.pow_succ]; omega, ?_⟩
    rw [bytesL_succ, show (b.toNat + 256 * natOf r) % 256 = b.toNat by omega, show (b.toNat + 256 * natOf r) / 256 = natOf r by omega, h2]
    simp
theorem strB_natOf (s : ByteArray) : strB (natOfB s) s.data.toList.length = s := by
  apply ByteArray.ext
  apply Array.ext'
  exact (natOf_ok s.data.toList).2
end
end Go.X
