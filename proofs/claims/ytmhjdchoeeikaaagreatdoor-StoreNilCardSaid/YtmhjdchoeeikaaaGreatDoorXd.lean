/-
  Operations of X against the machine: sameness, binary operations. No conditions. An executor of its own, proved sound against the model; nothing here is of one program.
-/
import Derived.Test.YtmhjdchoeeikaaaGreatDoorXc
import Derived.ChangeKeysEq
set_option linter.unusedVariables false
namespace Go.X
section
variable {P : Program} {φ : Ph} {H : Nat → Obj} {w : World} {ρ : Operand → Value} {o : Oper} {c : Cx}
/-- a part of an aggregate -/
theorem run_partL {l : List V} {cs : List Value} (hcs : VRs φ l cs) (h1 : ∀ x ∈ cs, x.oneCell = true) {t : TypeId} {off : Nat} {v : V} (hp : partL (lay P t) l off = .val v) :
    ∃ x, (part t ⟨cs⟩ off).run P w = .ok x w ∧ VR φ v x := by
  cases hla : lay P t with
  | bad => rw [hla] at hp; cases hp
  | one =>
    rw [hla] at hp
    simp only [partL, getL_eq] at hp
    cases hg : l[off]? with
    | none => rw [hg] at hp; cases hp
    | some y =>
      rw [hg] at hp; cases hp
      obtain ⟨i, hi, hag, _⟩ := lay_one (w := w) hla
      obtain ⟨x, hx, hv⟩ := hcs.get off hg
      refine ⟨x, ?_, hv⟩
      simp only [part, Sem.run_bind, hag, Result.andThen, Bool.false_eq_true, if_false, List.getElem?_toArray, hx]
      rfl
  | agg m =>
    rw [hla] at hp
    simp only [partL, takeL_eq, dropL_eq, lenL_eq] at hp
    cases hq : Nat.beq (0 + (List.take m (List.drop off l)).length) m with
    | false => rw [hq] at hp; cases hp
    | true =>
      rw [hq] at hp; simp only [cond_true, Eff.val.injEq] at hp
      subst hp
      obtain ⟨i, hi, hag, hm⟩ := lay_agg (w := w) hla
      refine ⟨.agg ⟨(cs.drop off).take m⟩, ?_, .agg _ _ ((hcs.drop off).take m) (fun x hx => h1 x (List.mem_of_mem_drop (List.mem_of_mem_take hx)))⟩
      simp only [part, Sem.run_bind, hag, Result.andThen, if_true, run_sizeOf' hi, ← hm, Sem.run_pure]
      congr 2
      apply Array.ext'
      rw [Array.toList_extract, List.extract_eq_take_drop]
      simp
theorem partL_form (la : Lay) (l : List V) (q : Nat) : (∃ v, partL la l q = .val v) ∨ (∃ s, partL la l q = .bad s) := by
  cases la with
  | bad => exact .inr ⟨_, rfl⟩
  | one => simp only [partL]; cases getL l q <;> simp
  | agg m => simp only [partL]; cases Nat.beq _ _ <;> simp
section leaves
variable {D : Nat} {t : TypeId} {x y : V} {x' y' : Value} {b : Bool}
theorem eqBool_ok (hu : P.underlying t = some .bool) (h : eqBool x y = some b) (hx : VR φ x x') (hy : VR φ y y') : (Op.equalIn (D + 1) t x' y').run P w = .ok b w := by
  cases x <;> cases y <;> simp only [eqBool] at h <;> (try (cases h; done))
  cases hx; cases hy; cases h
  simp only [Op.equalIn, Sem.run_bind, run_underlying' hu, Result.andThen]; rfl
theorem eqInt_ok {k0 : IntKind} (hu : P.underlying t = some (.int k0)) (h : eqInt x y = some b) (hx : VR φ x x') (hy : VR φ y y') : (Op.equalIn (D + 1) t x' y').run P w = .ok b w := by
  cases x <;> cases y <;> simp only [eqInt] at h <;> (try (cases h; done))
  rename_i k1 a k2 e
  cases hx; cases hy
  simp only [keq_eq, ieqb_eq] at h
  by_cases hk : k1 = k2
  · subst hk
    simp only [decide_true, cond_true, Option.some.injEq] at h
    subst h
    simp only [Op.equalIn, Sem.run_bind, run_underlying' hu, Result.andThen, if_true]; rfl
  · simp only [hk, decide_false, cond_false] at h; cases h
theorem eqStr_ok (hu : P.underlying t = some .string) (h : eqStr x y = some b) (hx : VR φ x x') (hy : VR φ y y') : (Op.equalIn (D + 1) t x' y').run P w = .ok b w := by
  cases x <;> cases y <;> simp only [eqStr] at h <;> (try (cases h; done))
  cases hx with
  | str s l h1 =>
    cases hy with
    | str s' l' h2 =>
      cases h
      simp only [Op.equalIn, Sem.run_bind, run_underlying' hu, Result.andThen]
      rw [beq_toListBytes, sEq_ok h1 h2]; rfl
theorem eqPtr_ok {e : TypeId} (hu : P.underlying t = some (.pointer e)) (h : eqPtr (Nat.beq (P.cellsOf e) 0) x y = some b) (hx : VR φ x x') (hy : VR φ y y') : (Op.equalIn (D + 1) t x' y').run P w = .ok b w := by
  cases x <;> cases y <;> simp only [eqPtr] at h <;> (try (cases h; done))
  · rename_i b1 o1 b2 o2
    cases hx with
    | ptr _ _ B off sz g1 =>
      cases hy with
      | ptr _ _ B' off' sz' g2 =>
        cases hq : Nat.beq (P.cellsOf e) 0 with
        | true => rw [hq] at h; cases h
        | false =>
          rw [hq] at h
          cases hb : Nat.beq b1 b2 with
          | false => rw [hb] at h; cases h
          | true =>
            rw [hb] at h; cases h
            have := Nat.eq_of_beq_eq_true hb; subst this
            rw [g1] at g2; cases g2
            have hne : P.cellsOf e ≠ 0 := by intro h0; rw [h0] at hq; cases hq
            obtain ⟨i, hi⟩ := info_of_cells hne
            simp only [Op.equalIn, Sem.run_bind, run_underlying' hu, Result.andThen, run_sizeOf' hi, ne_eq, hne, not_false_eq_true, if_true, sameAddr, beq_self_eq_true]
            simp only [Sem.run_pure]
            congr 1
            rw [Bool.eq_iff_iff]
            simp
  all_goals
    cases hx; cases hy; cases h
    simp only [Op.equalIn, Sem.run_bind, run_underlying' hu, Result.andThen]; rfl
theorem eqSlc_ok {e : TypeId} (hu : P.underlying t = some (.slice e)) (h : eqSlc x y = some b) (hx : VR φ x x') (hy : VR φ y y') : (Op.equalIn (D + 1) t x' y').run P w = .ok b w := by
  cases x <;> cases y <;> simp only [eqSlc] at h <;> (try (cases h; done))
  all_goals
    cases hx <;> (cases hy <;> (cases h; simp only [Op.equalIn, Sem.run_bind, run_underlying' hu, Result.andThen]; rfl))
theorem eqMap_ok {k e : TypeId} (hu : P.underlying t = some (.map k e)) (h : eqMap x y = some b) (hx : VR φ x x') (hy : VR φ y y') : (Op.equalIn (D + 1) t x' y').run P w = .ok b w := by
  cases x <;> cases y <;> simp only [eqMap] at h <;> (try (cases h; done))
  all_goals
    cases hx; cases hy; cases h
    simp only [Op.equalIn, Sem.run_bind, run_underlying' hu, Result.andThen]; rfl
theorem eqFn_ok {ps rs : Array TypeId} {v : Bool} (hu : P.underlying t = some (.func ps rs v)) (h : eqFn x y = some b) (hx : VR φ x x') (hy : VR φ y y') : (Op.equalIn (D + 1) t x' y').run P w = .ok b w := by
  cases x <;> cases y <;> simp only [eqFn] at h <;> (try (cases h; done))
  all_goals
    cases hx <;> (cases hy <;> (cases h; simp only [Op.equalIn, Sem.run_bind, run_underlying' hu, Result.andThen]; rfl))
theorem asIfc_nil {x : V} (h : asIfc x = .nil) : x = .nili := by cases x <;> simp [asIfc] at h <;> rfl
theorem asIfc_val {x : V} {t1 : TypeId} {v1 : V} (h : asIfc x = .val t1 v1) : x = .ifc t1 v1 := by cases x <;> simp [asIfc] at h <;> simp [h]
theorem asAgg_some {x : V} {l : List V} (h : asAgg x = some l) : x = .agg l := by cases x <;> simp [asAgg] at h <;> simp [h]
theorem eqIfc_ok {ms : Array (String × TypeId)} (hu : P.underlying t = some (.interface ms)) {f : TypeId → V → V → Option Bool}
    (h : (match asIfc x, asIfc y with
      | .nil, .nil => some true
      | .nil, .val _ _ => some false
      | .val _ _, .nil => some false
      | .val t1 v1, .val t2 v2 => bif Nat.beq t1 t2 then (bif comparable P t1 then f t1 v1 v2 else none) else some false
      | _, _ => none) = some b) (hx : VR φ x x') (hy : VR φ y y')
    (ih : ∀ t1 v1 v2 z1 z2, f t1 v1 v2 = some b → VR φ v1 z1 → VR φ v2 z2 → (Op.equalIn D t1 z1 z2).run P w = .ok b w) : (Op.equalIn (D + 1) t x' y').run P w = .ok b w := by
  cases hax : asIfc x with
  | no => rw [hax] at h; cases h
  | nil =>
    have ex := asIfc_nil hax; subst ex
    cases hay : asIfc y with
    | no => rw [hax, hay] at h; cases h
    | nil =>
      have ey := asIfc_nil hay; subst ey
      rw [hax] at h; cases hx; cases hy; cases h
      simp only [Op.equalIn, Sem.run_bind, run_underlying' hu, Result.andThen]; rfl
    | val t2 v2 =>
      have ey := asIfc_val hay; subst ey
      rw [hax, hay] at h; cases hx; cases hy; cases h
      simp only [Op.equalIn, Sem.run_bind, run_underlying' hu, Result.andThen]; rfl
  | val t1 v1 =>
    have ex := asIfc_val hax; subst ex
    cases hay : asIfc y with
    | no => rw [hax, hay] at h; cases h
    | nil =>
      have ey := asIfc_nil hay; subst ey
      rw [hax, hay] at h; cases hx; cases hy; cases h
      simp only [Op.equalIn, Sem.run_bind, run_underlying' hu, Result.andThen]; rfl
    | val t2 v2 =>
      have ey := asIfc_val hay; subst ey
      rw [hax, hay] at h
      simp only at h
      cases hx with
      | ifc _ _ z1 hz1 =>
        cases hy with
        | ifc _ _ z2 hz2 =>
          cases hb : Nat.beq t1 t2 with
          | false =>
            rw [hb] at h; cases h
            have hne : t1 ≠ t2 := by rintro rfl; rw [Nat.beq_refl] at hb; cases hb
            simp only [Op.equalIn, Sem.run_bind, run_underlying' hu, Result.andThen]
            rw [if_pos hne]; rfl
          | true =>
            rw [hb] at h
            have := Nat.eq_of_beq_eq_true hb; subst this
            simp only [cond_true] at h
            cases hc : comparable P t1 with
            | false => rw [hc] at h; cases h
            | true =>
              rw [hc] at h
              simp only [cond_true] at h
              have ⟨i, hi, hc'⟩ : ∃ i, P.info? t1 = some i ∧ i.comparable = true := by
                unfold comparable at hc
                split at hc
                · rename_i i hi; exact ⟨i, hi, hc⟩
                · cases hc
              have ih' := ih t1 v1 v2 z1 z2 h hz1 hz2
              simp only [Op.equalIn, Sem.run_bind, run_underlying' hu, Result.andThen]
              rw [if_neg (by simp)]
              simp only [Sem.run_bind, run_typeInfo' hi, Result.andThen, hc', Bool.not_true, Bool.false_eq_true, if_false, ih']
end leaves
mutual
theorem eqX_ok : ∀ (d : Nat) (t : TypeId) (x y : V) (x' y' : Value) (b : Bool), eqX P d t x y = some b → VR φ x x' → VR φ y y' → ∀ D, d ≤ D → (Op.equalIn D t x' y').run P w = .ok b w
  | 0, _, _, _, _, _, _, h, _, _, _, _ => by simp [eqX] at h
  | d + 1, t, x, y, x', y', b, h, hx, hy, 0, hD => by omega
  | d + 1, t, x, y, x', y', b, h, hx, hy, D + 1, hD => by
    have hD' : d ≤ D := by omega
    simp only [eqX] at h
    cases hu : P.underlying t with
    | none => rw [hu] at h; cases h
    | some k =>
      rw [hu] at h
      cases k with
      | bool => exact eqBool_ok hu h hx hy
      | int k0 => exact eqInt_ok hu h hx hy
      | string => exact eqStr_ok hu h hx hy
      | pointer e => exact eqPtr_ok hu h hx hy
      | slice e => exact eqSlc_ok hu h hx hy
      | map k e => exact eqMap_ok hu h hx hy
      | func a e f => exact eqFn_ok hu h hx hy
      | interface ms => exact eqIfc_ok hu h hx hy (fun t1 v1 v2 z1 z2 hf h1 h2 => eqX_ok d t1 v1 v2 z1 z2 b hf h1 h2 D hD')
      | struct fs =>
        simp only at h
        cases hax : asAgg x with
        | none => rw [hax] at h; cases h
        | some a =>
          have ex := asAgg_some hax; subst ex
          cases hay : asAgg y with
          | none => rw [hax, hay] at h; cases h
          | some e =>
            have ey := asAgg_some hay; subst ey
            rw [hax, hay] at h
            simp only at h
            cases hx with
            | agg _ xs hxs o1 =>
              cases hy with
              | agg _ ys hys o2 =>
                cases hst : P.stoodInHeld t with
                | true => rw [hst] at h; cases h
                | false =>
                  rw [hst] at h
                  simp only [cond_false] at h
                  have hfs : P.fieldsOf t = fs := by simp [Program.fieldsOf, hu]
                  rw [run_equalIn_struct w D t ⟨xs⟩ ⟨ys⟩ (by rw [hfs]; exact hu) hst, hfs]
                  exact eqFs_ok d fs.toList a e xs ys b h hxs o1 hys o2 D hD'
      | array m e =>
        simp only at h
        cases hax : asAgg x with
        | none => rw [hax] at h; cases h
        | some a =>
          have ex := asAgg_some hax; subst ex
          cases hay : asAgg y with
          | none => rw [hax, hay] at h; cases h
          | some a' =>
            have ey := asAgg_some hay; subst ey
            rw [hax, hay] at h
            simp only at h
            cases hi : P.info? e with
            | none => rw [hi] at h; cases h
            | some i =>
              rw [hi] at h
              cases hx with
              | agg _ xs hxs o1 =>
                cases hy with
                | agg _ ys hys o2 =>
                  rw [run_equalIn_array w D ⟨xs⟩ ⟨ys⟩ hu hi]
                  have := eqEs_ok d e m 0 a a' xs ys b h hxs o1 hys o2 D hD'
                  rwa [← List.range_eq_range'] at this
      | _ => cases h
theorem eqFs_ok : ∀ (d : Nat) (fs : List Field) (a e : List V) (xs ys : List Value) (b : Bool), eqFs P d (fieldsOf fs) a e = some b → VRs φ a xs → (∀ x ∈ xs, x.oneCell = true) →
    VRs φ e ys → (∀ x ∈ ys, x.oneCell = true) → ∀ D, d ≤ D → (Op.eqFields D ⟨xs⟩ ⟨ys⟩ fs).run P w = .ok b w
  | 0, _, _, _, _, _, _, h, _, _, _, _, _, _ => by simp [eqFs] at h
  | d + 1, [], _, _, _, _, b, h, _, _, _, _, D, _ => by
    simp [fieldsOf, eqFs] at h; subst h; rfl
  | d + 1, f :: fs, a, e, xs, ys, b, h, hxs, o1, hys, o2, D, hD => by
    simp only [fieldsOf] at h
    cases hn : (f.name == "_") with
    | true =>
      rw [hn] at h
      simp only [cond_true] at h
      have := eqFs_ok (d + 1) fs a e xs ys b h hxs o1 hys o2 D hD
      simp only [Op.eqFields]
      rw [if_neg (by simpa using hn)]
      exact this
    | false =>
      rw [hn] at h
      simp only [cond_false, eqFs] at h
      rcases partL_form (lay P f.type) a f.offset with ⟨v, hv⟩ | ⟨s, hs⟩
      · rcases partL_form (lay P f.type) e f.offset with ⟨u, hu⟩ | ⟨s, hs⟩
        · rw [hv, hu] at h
          simp only at h
          obtain ⟨x, hx1, hx2⟩ := run_partL (P := P) (w := w) hxs o1 hv
          obtain ⟨y, hy1, hy2⟩ := run_partL (P := P) (w := w) hys o2 hu
          cases hq : eqX P d f.type v u with
          | none => rw [hq] at h; cases h
          | some r =>
            rw [hq] at h
            have ih := eqX_ok d f.type v u x y r hq hx2 hy2 D (by omega)
            simp only [Op.eqFields]
            rw [if_pos (by simpa using hn)]
            simp only [Sem.run_bind, hx1, hy1, ih, Result.andThen]
            cases r with
            | false => cases h; rfl
            | true =>
              have := eqFs_ok d fs a e xs ys b h hxs o1 hys o2 D (by omega)
              simpa using this
        · rw [hv, hs] at h; cases h
      · rw [hs] at h; cases h
theorem eqEs_ok : ∀ (d : Nat) (e : TypeId) (m i : Nat) (a a' : List V) (xs ys : List Value) (b : Bool), eqEs P d e (P.cellsOf e) m i a a' = some b → VRs φ a xs → (∀ x ∈ xs, x.oneCell = true) →
    VRs φ a' ys → (∀ x ∈ ys, x.oneCell = true) → ∀ D, d ≤ D → (Op.eqItems D e (P.cellsOf e) ⟨xs⟩ ⟨ys⟩ (List.range' i m)).run P w = .ok b w
  | 0, _, _, _, _, _, _, _, _, h, _, _, _, _, _, _ => by simp [eqEs] at h
  | d + 1, _, 0, i, _, _, _, _, b, h, _, _, _, _, D, _ => by
    simp [eqEs] at h; subst h; rfl
  | d + 1, e, m + 1, i, a, a', xs, ys, b, h, hxs, o1, hys, o2, D, hD => by
    simp only [eqEs] at h
    rcases partL_form (lay P e) a (i * P.cellsOf e) with ⟨v, hv⟩ | ⟨s, hs⟩
    · rcases partL_form (lay P e) a' (i * P.cellsOf e) with ⟨u, hu⟩ | ⟨s, hs⟩
      · rw [hv, hu] at h
        simp only at h
        obtain ⟨x, hx1, hx2⟩ := run_partL (P := P) (w := w) hxs o1 hv
        obtain ⟨y, hy1, hy2⟩ := run_partL (P := P) (w := w) hys o2 hu
        cases hq : eqX P d e v u with
        | none => rw [hq] at h; cases h
        | some r =>
          rw [hq] at h
          have ih := eqX_ok d e v u x y r hq hx2 hy2 D (by omega)
          rw [List.range'_succ]
          simp only [Op.eqItems, Sem.run_bind, hx1, hy1, ih, Result.andThen]
          cases r with
          | false => cases h; rfl
          | true =>
            have := eqEs_ok d e m (i + 1) a a' xs ys b h hxs o1 hys o2 D (by omega)
            simpa using this
      · rw [hv, hs] at h; cases h
    · rw [hs] at h; cases h
end
end
end Go.X

namespace Go.X
section
variable {P : Program} {φ : Ph} {H : Nat → Obj} {w : World} {ρ : Operand → Value} {o : Oper} {c : Cx}
def plainV : Value → Bool
  | .int .. | .string _ | .float .. | .complex .. => false
  | _ => true
theorem eqGuard_ok (op : BinOp) (t : TypeId) (x y : Operand) (a b : Value)
    (h1 : a = .nilIface → b = .nilIface → isConst x = true ∨ isConst y = true) (h2 : ∀ l m, a = .agg l → b = .agg m → P.eqGuardType P.depth t = false) :
    (eqGuard op t x y a b).run P w = .ok () w := by
  have core : ∀ op', op' = .eql ∨ op' = .neq → (eqGuard op' t x y a b).run P w = .ok () w := by
    intro op' hop
    have nn : a = .nilIface → b = .nilIface → (eqGuard op' t x y a b).run P w = .ok () w := by
      rintro rfl rfl
      rcases h1 rfl rfl with h | h
      · cases x <;> simp [isConst] at h
        rcases hop with rfl | rfl <;> rfl
      · cases y <;> simp [isConst] at h
        cases x <;> (rcases hop with rfl | rfl <;> rfl)
    have aa : ∀ l m, a = .agg l → b = .agg m → (eqGuard op' t x y a b).run P w = .ok () w := by
      rintro l m rfl rfl
      have := h2 _ _ rfl rfl
      rcases hop with rfl | rfl <;>
        (simp only [eqGuard, Bool.not_true, Bool.false_eq_true, if_false, Sem.run_bind, run_program, Result.andThen, this, Bool.not_false, if_true, Sem.run_pure])
    cases a <;> cases b <;> first | exact nn rfl rfl | exact aa _ _ rfl rfl | (rcases hop with rfl | rfl <;> rfl)
  cases op <;> first | exact core _ (.inl rfl) | exact core _ (.inr rfl) | rfl
theorem binEq_ok {op : BinOp} {t : TypeId} {v u : V} {x y : Value} {r : V} (h : eqOp op (eqX P eqFuel t v u) = .val r) (hv : VR φ v x) (hu : VR φ u y) (hp : plainV x = true) :
    ∃ z, (binOp op t x y).run P w = .ok z w ∧ VR φ r z := by
  have e1 : ∀ b, eqX P eqFuel t v u = some b → (Op.equal t x y).run P w = .ok b w := fun b hb => eqX_ok eqFuel t v u x y b hb hv hu 10000 (by decide)
  cases hq : eqX P eqFuel t v u with
  | none => rw [hq] at h; cases op <;> simp [eqOp] at h
  | some b =>
    rw [hq] at h
    have e2 := e1 b hq
    cases op <;> simp only [eqOp] at h <;> (try (cases h; done))
    · cases h
      refine ⟨.bool b, ?_, .bool _⟩
      have : binOp .eql t x y = (do pure (.bool (← Op.equal t x y))) := by
        cases x <;> simp [plainV] at hp <;> rfl
      rw [this]
      simp only [Sem.run_bind, e2, Result.andThen]; rfl
    · cases h
      refine ⟨.bool !b, ?_, .bool _⟩
      have : binOp .neq t x y = (do pure (.bool (!(← Op.equal t x y)))) := by
        cases x <;> simp [plainV] at hp <;> rfl
      rw [this]
      simp only [Sem.run_bind, e2, Result.andThen]; rfl
theorem eqOp_form (op : BinOp) (r : Option Bool) : (∃ v, eqOp op r = .val v) ∨ (∃ s, eqOp op r = .bad s) := by
  cases op <;> cases r <;> simp [eqOp]
theorem binV_ok {op : BinOp} {t : TypeId} {x y : Operand} {q : TypeId} {v : V} {z : Value} (hR : RelH P φ H w) (ho : o.op = .binOp op t x y q)
    (hg : (eqGuard op t x y (ρ x) (ρ y)).run P w = .ok () w) (hz : (binOp op t (ρ x) (ρ y)).run P w = .ok z w) (hv : VR φ v z) : EffOk P φ H c.nx w (.val v) ((execOp ρ o).run P w) := by
  refine .value ?_ hv hR
  simp only [execOp, ho]
  refine run_v ?_
  simp only [Sem.run_bind, hg, Result.andThen, hz]
theorem strOp_ok {op : BinOp} {t : TypeId} {s l u m : Nat} {v : V} (hs : s < 256 ^ l) (hu : u < 256 ^ m) (h : strOp op s l u m = .val v) :
    ∃ z, (binOp op t (.string (strB s l)) (.string (strB u m))).run P w = .ok z w ∧ VR φ v z := by
  cases op <;> simp only [strOp] at h <;> (try (cases h; done)) <;> simp only [binOp, Op.stringOp]
  case add =>
    cases hq : Nat.ble (l + m) 1000000000 with
    | false => rw [hq] at h; cases h
    | true =>
      rw [hq] at h; cases h
      have := Nat.le_of_ble_eq_true hq
      refine ⟨.string (strB (sCat s l u) (l + m)), ?_, .str _ _ (sCat_lt hs hu)⟩
      rw [if_neg (by rw [strB_size, strB_size]; simp [IntKind.max, IntKind.signed, IntKind.bits]; omega), strB_append hs]; rfl
  case eql => cases h; exact ⟨_, by rw [sEq_ok hs hu]; rfl, .bool _⟩
  case neq => cases h; exact ⟨_, by rw [sEq_ok hs hu]; rfl, .bool _⟩
  case lss => cases h; exact ⟨_, by rw [strB_toList, strB_toList, bytesLess_ok hs hu]; rfl, .bool _⟩
  case leq => cases h; exact ⟨_, by rw [sEq_ok hs hu, strB_toList, strB_toList, bytesLess_ok hs hu]; rfl, .bool _⟩
  case gtr => cases h; exact ⟨_, by rw [sEq_ok hs hu, strB_toList, strB_toList, bytesLess_ok hs hu]; rfl, .bool _⟩
  case geq => cases h; exact ⟨_, by rw [strB_toList, strB_toList, bytesLess_ok hs hu]; rfl, .bool _⟩
theorem strOp_form (op : BinOp) (s l u m : Nat) : (∃ v, strOp op s l u m = .val v) ∨ (∃ q, strOp op s l u m = .bad q) := by
  cases op <;> simp [strOp] <;> cases Nat.ble (l + m) 1000000000 <;> simp
theorem intOp_form (op : BinOp) (k : IntKind) (a b : Int) : (∃ v, intOp op k a b = .val v) ∨ (∃ q, intOp op k a b = .bad q) := by
  cases op <;> simp [intOp] <;> first | (cases ieqb b 0 <;> simp; done) | (cases h : bitsOp _ k a b <;> simp; done)
theorem shiftOp_form (op : BinOp) (k : IntKind) (a b : Int) : (∃ v, shiftOp op k a b = .val v) ∨ (∃ q, shiftOp op k a b = .bad q) := by
  cases b <;> simp only [shiftOp]
  · cases op <;> simp <;> cases a <;> simp
  · simp
theorem plain_guard {a b : Value} (h : plainV a = false) (op : BinOp) (t : TypeId) (x y : Operand) : (eqGuard op t x y a b).run P w = .ok () w :=
  eqGuard_ok op t x y a b (fun e => by subst e; cases h) (fun l m e => by subst e; cases h)
/-! ### Capacities -/
theorem repL_one (n : Nat) : (repL [V.junk] n) = List.replicate n .junk := by
  induction n with
  | zero => rfl
  | succ n ih => simp [repL, ih, List.replicate_succ]
theorem gtCap_ok {n b q es : Nat} {t : TypeId} {B off sz cap : Nat} {x y : Operand} {u : TypeId} (hs : Sub (c.hp) H) (hR : RelH P φ H w) (ho : o.op = .binOp .gtr t x y u)
    (hx : ρ x = .int .i64 (Int.ofNat n)) (hy : ρ y = .int .i64 cap) (hφ : φ b = some (B, off, sz)) (hc : q + cap * es = sz) (he : 1 ≤ es) :
    EffOk P φ H c.nx w (gtCap n b q es (c.hp b)) ((execOp ρ o).run P w) := by
  have hg : (eqGuard .gtr t x y (ρ x) (ρ y)).run P w = .ok () w := by rw [hx]; exact plain_guard rfl _ _ _ _
  have hz : (binOp .gtr t (ρ x) (ρ y)).run P w = .ok (.bool (decide ((n : Int) > cap))) w := by
    rw [hx, hy]; simp only [binOp, ne_eq, not_true, if_false, Op.intCmp]; rfl
  have hrun : (execOp ρ o).run P w = .ok (.value (.bool (decide ((n : Int) > cap)))) w := by
    simp only [execOp, ho]
    refine run_v ?_
    simp only [Sem.run_bind, hg, Result.andThen, hz]
  have mulle : ∀ {a b : Nat}, a * es ≤ b * es ↔ a ≤ b := fun {a b} => Nat.mul_le_mul_right_iff (by omega)
  unfold gtCap
  cases h1 : Nat.ble (q + n * es) (known (c.hp b)) with
  | true =>
    have h1' := Nat.le_of_ble_eq_true h1
    simp only [cond_true]
    refine .value (v' := .bool false) ?_ (.bool _) hR
    rw [hrun]
    have hk : known (c.hp b) ≤ sz := by
      cases hob : c.hp b with
      | cells vs e hi =>
        have hb := sub_ne hs hob (by simp)
        have := cell_of hR (by rw [hb]; simp) hφ
        rw [hb] at this
        obtain ⟨_, _, _, h3, _⟩ := this
        simpa [known, lenL_eq] using h3
      | bytes s l e hi =>
        have hb := sub_ne hs hob (by simp)
        have := cell_of hR (by rw [hb]; simp) hφ
        rw [hb] at this
        obtain ⟨_, _, _, _, h3, _⟩ := this
        exact h3
      | _ => simp [known]
    have : n * es ≤ cap * es := by omega
    have := mulle.1 this
    simp; omega
  | false =>
    simp only [cond_false]
    cases h2 : (!(Nat.beq (hiOf (c.hp b)) 0) && Nat.ble (hiOf (c.hp b)) (q + n * es)) with
    | true =>
      simp only [cond_true]
      refine .value (v' := .bool true) ?_ (.bool _) hR
      rw [hrun]
      simp only [Bool.and_eq_true, Bool.not_eq_true'] at h2
      obtain ⟨h3, h4⟩ := h2
      have h4 := Nat.le_of_ble_eq_true h4
      have hne : hiOf (c.hp b) ≠ 0 := by intro e; rw [e] at h3; cases h3
      have hk : sz < hiOf (c.hp b) := by
        cases hob : c.hp b with
        | cells vs e hi =>
          have hb := sub_ne hs hob (by simp)
          have := cell_of hR (by rw [hb]; simp) hφ
          rw [hb] at this
          obtain ⟨_, _, _, _, _, _, h3⟩ := this
          rw [hob] at hne
          exact h3 hne
        | bytes s l e hi =>
          have hb := sub_ne hs hob (by simp)
          have := cell_of hR (by rw [hb]; simp) hφ
          rw [hb] at this
          obtain ⟨_, _, _, _, _, _, _, _, _, h3⟩ := this
          rw [hob] at hne
          exact h3 hne
        | _ => rw [hob] at hne; simp [hiOf] at hne
      have : cap * es < n * es := by omega
      have : cap < n := by
        rcases Nat.lt_or_ge cap n with h | h
        · exact h
        · have := mulle.2 h; omega
      simp; omega
    | false =>
      simp only [cond_false]
      cases hob : c.hp b with
      | cells vs e hi =>
        have hb := sub_ne hs hob (by simp)
        have hcell := cell_of hR (by rw [hb]; simp) hφ
        rw [hb] at hcell
        obtain ⟨cc, g1, g2, g3, g4, g5, g6⟩ := hcell
        have same : ∀ ob', notIter ob' = true → ObjR P φ ob' (some (.cells cc e (0, 0))) off sz → RelH P φ (upd H b ob') w ∧ ∀ nx, Stp φ H nx w φ (upd H b ob') nx w := by
          intro ob' hn hr
          have hB : B < w.heap.size := by
            rcases Nat.lt_or_ge B w.heap.size with h' | h'
            · exact h'
            · rw [Array.getElem?_eq_none h'] at g1; cases g1
          have ew : World.put w B (.cells cc e (0, 0)) = w := by
            have : w.heap.setIfInBounds B (.cells cc e (0, 0)) = w.heap := by
              apply Array.ext_getElem?
              intro j
              by_cases e' : j = B
              · subst e'
                have hh : w.heap[j] = .cells cc e (0, 0) := by rw [Array.getElem?_eq_getElem hB] at g1; exact Option.some.inj g1
                simp [hB, hh]
              · simp [Ne.symm e']
            simp [World.put, this]
          have := hR.set_row (by rw [hb]; simp) hφ g1 hn hr
          rw [ew] at this
          exact this
        simp only [atLeast]
        rcases Nat.lt_or_ge cap n with hlt | hge
        · refine ⟨_, List.mem_cons_self, .bool true, w, .inl ?_, .bool _, ?_⟩
          · rw [hrun]; simp; omega
          · refine same _ (by simp [under, notIter]) ?_
            refine ⟨cc, rfl, g2, g3, g4, g5, ?_⟩
            intro _
            have h5 : sz < q + n * es := by
              have : cap * es < n * es := by
                rcases Nat.lt_or_ge (cap * es) (n * es) with h | h
                · exact h
                · have := mulle.1 h; omega
              omega
            cases hz0 : Nat.beq hi 0 with
            | true => simpa using h5
            | false =>
              have hne : hi ≠ 0 := by intro e; rw [e] at hz0; cases hz0
              simp only [cond_false]
              have := g6 hne
              exact Nat.lt_min.2 ⟨this, h5⟩
        · refine ⟨_, List.mem_cons_of_mem _ List.mem_cons_self, .bool false, w, .inl ?_, .bool _, ?_⟩
          · rw [hrun]; simp; omega
          · refine same _ (by simp [notIter]) ?_
            have hle : q + n * es ≤ sz := by have := mulle.2 hge; omega
            refine ⟨cc, rfl, g2, ?_, ?_, g5, g6⟩
            · rw [repL_one, lenL_eq]; simp; omega
            · intro i v hv
              rw [repL_one, lenL_eq] at hv
              rcases Nat.lt_or_ge i vs.length with hi' | hi'
              · rw [List.getElem?_append_left hi'] at hv
                exact g4 i v hv
              · rw [List.getElem?_append_right hi'] at hv
                have hlt : i - vs.length < q + n * es - (0 + vs.length) := by
                  obtain ⟨h1, _⟩ := List.getElem?_eq_some_iff.1 hv
                  simpa using h1
                have : v = .junk := by
                  rw [List.getElem?_replicate, if_pos hlt] at hv
                  exact (Option.some.inj hv).symm
                subst this
                have hin : off + i < cc.size := by omega
                exact ⟨cc[off + i], Array.getElem?_eq_getElem hin, .junk _⟩
      | _ => simp [atLeast, EffOk]
theorem eqX_junk (d : Nat) (t : TypeId) (u : V) : eqX P d t .junk u = none := by
  cases d with
  | zero => simp [eqX]
  | succ d =>
    simp only [eqX]
    cases P.underlying t with
    | none => rfl
    | some k => cases k <;> simp [eqBool, eqInt, eqStr, eqPtr, eqSlc, eqMap, eqFn, asIfc, asAgg]
theorem eqX_capv (d : Nat) (t : TypeId) (u : V) (b p es : Nat) : eqX P d t (.capv b p es) u = none := by
  cases d with
  | zero => simp [eqX]
  | succ d =>
    simp only [eqX]
    cases P.underlying t with
    | none => rfl
    | some k => cases k <;> simp [eqBool, eqInt, eqStr, eqPtr, eqSlc, eqMap, eqFn, asIfc, asAgg]
theorem eqX_nj (d : Nat) (t : TypeId) : eqX P d t .nili .junk = none := by
  cases d with
  | zero => simp [eqX]
  | succ d =>
    simp only [eqX]
    cases P.underlying t with
    | none => rfl
    | some k => cases k <;> simp [eqBool, eqInt, eqStr, eqPtr, eqSlc, eqMap, eqFn, asIfc, asAgg]
theorem effBin_ok {op : BinOp} {t : TypeId} {x y : Operand} {q : TypeId} (hs : Sub (c.hp) H) (hR : RelH P φ H w) (ho : o.op = .binOp op t x y q)
    (hx : VR φ (c.rd x) (ρ x)) (hy : VR φ (c.rd y) (ρ y)) : EffOk P φ H c.nx w (effBin op t x y P c) ((execOp ρ o).run P w) := by
  have gen : ∀ v, c.rd x = v → (∀ (e : Value), VR φ v e → plainV e = true ∧ (e = .nilIface → False) ∧ (∀ l, e = .agg l → False)) →
      EffOk P φ H c.nx w (eqOp op (eqX P eqFuel t v (c.rd y))) ((execOp ρ o).run P w) := by
    intro v hv hp
    rw [hv] at hx
    obtain ⟨p1, p2, p3⟩ := hp _ hx
    rcases eqOp_form op (eqX P eqFuel t v (c.rd y)) with ⟨r, hr⟩ | ⟨s, hr⟩
    · rw [hr]
      obtain ⟨z, hz, hvz⟩ := binEq_ok (w := w) hr hx hy p1
      exact binV_ok hR ho (eqGuard_ok _ _ _ _ _ _ (fun e => (p2 e).elim) (fun l m e => (p3 l e).elim)) hz hvz
    · rw [hr]; trivial
  unfold effBin
  cases hv : c.rd x with
  | int k a =>
    rw [hv] at hx
    generalize hρx : ρ x = x' at hx
    cases hx
    simp only
    cases hu : c.rd y with
    | int k' b =>
      rw [hu] at hy
      generalize hρy : ρ y = y' at hy
      cases hy
      simp only [binI, binII]
      cases hsh : isShift op with
      | true =>
        simp only [cond_true]
        rcases shiftOp_form op k a b with ⟨r, hr⟩ | ⟨s, hr⟩
        · rw [hr]
          obtain ⟨z, hz, hvz⟩ := shiftOp_ok (P := P) (φ := φ) (w := w) (k' := k') (t := t) hr
          exact binV_ok hR ho (by rw [hρx]; exact plain_guard rfl _ _ _ _) (by rw [hρx, hρy]; exact hz) hvz
        · rw [hr]; trivial
      | false =>
        simp only [cond_false, keq_eq]
        by_cases hk : k = k'
        · subst hk
          simp only [decide_true, cond_true]
          rcases intOp_form op k a b with ⟨r, hr⟩ | ⟨s, hr⟩
          · rw [hr]
            obtain ⟨z, hz, hvz⟩ := intOp_ok (P := P) (φ := φ) (w := w) (t := t) hr hsh
            exact binV_ok hR ho (by rw [hρx]; exact plain_guard rfl _ _ _ _) (by rw [hρx, hρy]; exact hz) hvz
          · rw [hr]; trivial
        · simp only [hk, decide_false, cond_false]; trivial
    | capv b p es =>
      rw [hu] at hy
      generalize hρy : ρ y = y' at hy
      cases hy with
      | capv _ _ _ B off sz cap h1 h2 h3 =>
        simp only [binI, keq_eq]
        by_cases hk : k = .i64
        · subst hk
          simp only [decide_true, cond_true]
          cases op <;> cases a <;> first | exact gtCap_ok hs hR ho hρx hρy h1 h2 h3 | trivial
        · simp only [hk, decide_false, cond_false]; trivial
    | _ => trivial
  | str s l =>
    rw [hv] at hx
    generalize hρx : ρ x = x' at hx
    cases hx with
    | str _ _ hsl =>
      simp only
      cases hu : c.rd y with
      | str u m =>
        rw [hu] at hy
        generalize hρy : ρ y = y' at hy
        cases hy with
        | str _ _ hum =>
          simp only [binS]
          rcases strOp_form op s l u m with ⟨r, hr⟩ | ⟨e, hr⟩
          · rw [hr]
            obtain ⟨z, hz, hvz⟩ := strOp_ok (P := P) (φ := φ) (w := w) (t := t) hsl hum hr
            exact binV_ok hR ho (by rw [hρx]; exact plain_guard rfl _ _ _ _) (by rw [hρx, hρy]; exact hz) hvz
          · rw [hr]; trivial
      | _ => trivial
  | nili =>
    simp only
    have fin : (c.rd y = .nili → (isConst x || isConst y) = true) → EffOk P φ H c.nx w (eqOp op (eqX P eqFuel t .nili (c.rd y))) ((execOp ρ o).run P w) := by
      intro hk
      have hx' := hx
      rw [hv] at hx'
      generalize hρx : ρ x = x' at hx'
      cases hx'
      rcases eqOp_form op (eqX P eqFuel t .nili (c.rd y)) with ⟨r, hr⟩ | ⟨s, hr⟩
      · rw [hr]
        obtain ⟨z, hz, hvz⟩ := binEq_ok (w := w) (x := .nilIface) hr .nili hy rfl
        refine binV_ok hR ho ?_ (by rw [hρx]; exact hz) hvz
        rw [hρx]
        refine eqGuard_ok _ _ _ _ _ _ (fun _ e2 => ?_) (fun l m e => by cases e)
        have : c.rd y = .nili := by
          cases hu : c.rd y with
          | nili => rfl
          | junk =>
            exfalso
            rw [hu] at hr
            rw [eqX_nj] at hr; cases op <;> simp [eqOp] at hr
          | _ => rw [hu, e2] at hy; cases hy
        simpa using hk this
      · rw [hr]; trivial
    cases hu : c.rd y with
    | nili =>
      simp only [binN]
      cases hk : (isConst x || isConst y) with
      | true =>
        simp only [cond_true]
        have := fin (fun _ => hk)
        rwa [hu] at this
      | false => trivial
    | _ =>
      simp only [binN]
      have := fin (fun e => by rw [hu] at e; cases e)
      rwa [hu] at this
  | agg a =>
    have hx' := hx
    rw [hv] at hx'
    generalize hρx : ρ x = x' at hx'
    cases hx' with
    | agg _ xs h1 h2 =>
      simp only
      cases hu : c.rd y with
      | agg e =>
        rw [hu] at hy
        simp only [binA]
        cases hg : P.eqGuardType P.depth t with
        | true => trivial
        | false =>
          simp only [cond_false]
          rcases eqOp_form op (eqX P eqFuel t (.agg a) (.agg e)) with ⟨r, hr⟩ | ⟨s, hr⟩
          · rw [hr]
            obtain ⟨z, hz, hvz⟩ := binEq_ok (w := w) hr (.agg _ _ h1 h2) hy rfl
            refine binV_ok hR ho ?_ (by rw [hρx]; exact hz) hvz
            rw [hρx]
            exact eqGuard_ok _ _ _ _ _ _ (fun e1 => by cases e1) (fun _ _ _ _ => hg)
          · rw [hr]; trivial
      | _ => trivial
  | junk =>
    simp only
    rw [eqX_junk]
    cases op <;> trivial
  | capv b p es =>
    simp only
    rw [eqX_capv]
    cases op <;> trivial
  | _ => exact gen _ hv (by intro e he; cases he <;> simp [plainV])
end
end Go.X
