/-
  Operations of X against the machine: conversions, rows, slices, append, copy. No conditions. An executor of its own, proved sound against the model; nothing here is of one program.
-/
import Derived.Test.YtmhjdchoeeikaaaGreatDoorXd
import Derived.Laws.BytesString
import Derived.Laws.Cover4
set_option linter.unusedVariables false
namespace Go.X
section
variable {P : Program} {φ : Ph} {H : Nat → Obj} {w : World} {ρ : Operand → Value} {o : Oper} {c : Cx}
theorem xor_ok (k : IntKind) (n : Int) : (Op.intBits .xor k (if k.signed then -1 else k.max) n).run P w = .ok (.int k (k.wrap (-1 - n))) w := by
  have ones : BitVec.ofInt k.bits (if k.signed then -1 else k.max) = BitVec.allOnes k.bits := by
    cases k <;> (apply BitVec.eq_of_toNat_eq; simp [IntKind.signed, IntKind.max, IntKind.bits])
  have e : k.wrap ((BitVec.ofInt k.bits (if k.signed then -1 else k.max) ^^^ BitVec.ofInt k.bits n).toNat : Int) = k.wrap (-1 - n) := by
    rw [ones, BitVec.allOnes_xor, BitVec.toNat_not, BitVec.toNat_ofInt]
    cases k <;> simp only [IntKind.wrap, IntKind.bits, IntKind.signed] <;> simp <;> omega
  simp only [Op.intBits, e]
  rfl
theorem effUn_ok {op : UnOp} {t : TypeId} {x : Operand} (hR : RelH P φ H w) (ho : o.op = .unOp op t x) (hv : VR φ (c.rd x) (ρ x)) :
    EffOk P φ H c.nx w (effUn op x P c) ((execOp ρ o).run P w) := by
  unfold effUn
  cases op with
  | neg =>
    cases h : c.rd x with
    | int k n =>
      rw [h] at hv
      generalize hx : ρ x = y at hv
      cases hv
      refine .value ?_ (.int _ _) hR
      simp only [execOp, ho, hx, wrapX_eq]
      refine run_v ?_
      simp only [Op.unary, Op.intArith]; rfl
    | _ => trivial
  | not =>
    cases h : c.rd x with
    | bool b =>
      rw [h] at hv
      generalize hx : ρ x = y at hv
      cases hv
      refine .value ?_ (.bool _) hR
      simp only [execOp, ho, hx]
      exact run_v rfl
    | _ => trivial
  | xor =>
    cases h : c.rd x with
    | int k n =>
      rw [h] at hv
      generalize hx : ρ x = y at hv
      cases hv
      refine .value ?_ (.int _ _) hR
      simp only [execOp, ho, hx, wrapX_eq]
      refine run_v ?_
      simp only [Op.unary]
      exact xor_ok k n
    | _ => trivial
  | _ => cases c.rd x <;> trivial
theorem fold_push (ns : List Int) : ∀ s : ByteArray, ns.foldl (fun r n => r.push (UInt8.ofNat n.toNat)) s = ⟨⟨s.data.toList ++ ns.map fun n => UInt8.ofNat n.toNat⟩⟩ := by
  induction ns with
  | nil => intro s; apply ByteArray.ext; apply Array.ext'; simp
  | cons n ns ih =>
    intro s
    rw [List.foldl_cons, ih]
    apply ByteArray.ext; apply Array.ext'
    simp [ByteArray.push]
/-- bytes read -/
theorem run_getB {b B off sz q n s : Nat} (hR : RelH P φ H w) (hφ : φ b = some (B, off, sz)) {ob : Obj} (hb : H b = ob) (hg : getB ob q n = some s) :
    s < 256 ^ n ∧ ∃ ns : List Int, (loadCells ⟨B, off + q, none⟩ n).run P w = .ok (ns.map (Value.int .u8)).toArray w ∧ ns.length = n ∧
      (∀ j x, ns[j]? = some x → x = Int.ofNat (sGet s n j) ∧ w.cell? ⟨B, off + q + j, none⟩ = some (.int .u8 x)) := by
  have key : ∀ s, s < 256 ^ n → (∀ j, j < n → w.cell? ⟨B, off + (q + j), none⟩ = some (.int .u8 (Int.ofNat (sGet s n j)))) →
      s < 256 ^ n ∧ ∃ ns : List Int, (loadCells ⟨B, off + q, none⟩ n).run P w = .ok (ns.map (Value.int .u8)).toArray w ∧ ns.length = n ∧
      (∀ j x, ns[j]? = some x → x = Int.ofNat (sGet s n j) ∧ w.cell? ⟨B, off + q + j, none⟩ = some (.int .u8 x)) := by
    intro s hs hc
    refine ⟨hs, (List.range n).map (fun j => Int.ofNat (sGet s n j)), ?_, by simp, ?_⟩
    · rw [run_loadCells w _ n (fun j => .int .u8 (Int.ofNat (sGet s n j))) (fun j hj => by rw [addr_add, Nat.add_assoc]; exact hc j hj)]
      congr 2
      simp
    · intro j x hx
      have hj : j < n := by
        obtain ⟨h1, _⟩ := List.getElem?_eq_some_iff.1 hx
        simpa using h1
      simp [hj] at hx
      subst hx
      exact ⟨rfl, by rw [Nat.add_assoc]; exact hc j hj⟩
  cases ob with
  | bytes s0 l e hi =>
    simp only [getB] at hg
    cases hq : Nat.ble (q + n) l with
    | false => rw [hq] at hg; cases hg
    | true =>
      rw [hq] at hg; cases hg
      have hle := Nat.le_of_ble_eq_true hq
      refine key _ (by have := sSub_lt s0 l q (q + n); rwa [Nat.add_sub_cancel_left] at this) (fun j hj => ?_)
      rw [rd_bytes hR hb hφ (by omega)]
      have := sSub_get s0 l q (q + n) j hle (by omega)
      rw [Nat.add_sub_cancel_left] at this
      rw [this]
  | cells vs e hi =>
    simp only [getB, takeL_eq, dropL_eq] at hg
    cases hbo : bytesOfL (List.take n (List.drop q vs)) 0 0 with
    | none => rw [hbo] at hg; cases hg
    | some tm =>
      obtain ⟨t, m⟩ := tm
      rw [hbo] at hg
      cases hm : Nat.beq m n with
      | false => simp only [hm] at hg; cases hg
      | true =>
        simp only [hm, cond_true, Option.some.injEq] at hg
        subst hg
        have hm := Nat.eq_of_beq_eq_true hm; subst hm
        obtain ⟨k1, k2, _, k4⟩ := bytesOfL_spec _ 0 0 t m (by simp) hbo
        refine key _ k2 (fun j hj => ?_)
        have hlen : (List.take m (List.drop q vs)).length = m := by omega
        have hv : (List.take m (List.drop q vs))[j]? = some ((List.take m (List.drop q vs))[j]'(by omega)) := List.getElem?_eq_getElem _
        have e1 := k4 _ _ hv
        have e2 : vs[q + j]? = some (.int .u8 (Int.ofNat (sGet t m (0 + j)))) := by
          rw [← e1, ← hv, List.getElem?_take, if_pos hj, List.getElem?_drop]
        obtain ⟨x, x1, x2, _⟩ := rd_cells hR hb hφ e2
        cases x2
        rw [x1, Nat.zero_add]
  | _ => simp [getB] at hg
theorem strB_of_ns {s n : Nat} {ns : List Int} (hl : ns.length = n) (h : ∀ (j : Nat) (x : Int), ns[j]? = some x → x = Int.ofNat (sGet s n j)) :
    ns.foldl (fun r n => r.push (UInt8.ofNat n.toNat)) ByteArray.empty = strB s n := by
  rw [fold_push]
  apply ByteArray.ext; apply Array.ext'
  show [] ++ ns.map (fun n => UInt8.ofNat n.toNat) = bytesL s n
  rw [List.nil_append]
  apply List.ext_getElem?
  intro j
  by_cases hj : j < n
  · rw [bytesL_get _ _ _ hj, List.getElem?_map, List.getElem?_eq_getElem (by omega)]
    have := h j _ (List.getElem?_eq_getElem (by omega : j < ns.length))
    simp [this]
  · rw [List.getElem?_eq_none (by simp; omega), List.getElem?_eq_none (by rw [bytesL_length]; omega)]
theorem strB_get! (s l i : Nat) (h : i < l) : ((strB s l).get! i).toNat = sGet s l i := by
  have hd : (strB s l).data.size = l := by show (bytesL s l).length = l; exact bytesL_length _ _
  have : (strB s l).get! i = UInt8.ofNat (sGet s l i) := by
    show (strB s l).data[i]! = _
    rw [getElem!_pos _ i (by omega)]
    have e : (strB s l).data[i]? = some (UInt8.ofNat (sGet s l i)) := by
      show (⟨bytesL s l⟩ : Array UInt8)[i]? = _
      rw [List.getElem?_toArray]; exact bytesL_get _ _ _ h
    rw [Array.getElem?_eq_getElem (by omega)] at e
    exact Option.some.inj e
  rw [this, toNat_ofNat]
theorem decode_ok (s l i : Nat) (h : i < l) : Utf8.decode (strB s l) i = sDecode s l i := by
  have at0 : ((strB s l).get! (i + 0)).toNat = sGet s l (i + 0) := strB_get! s l (i + 0) h
  have cont : ∀ k, (decide (i + k < (strB s l).size) && ((strB s l).get! (i + k)).toNat / 64 == 2) = (Nat.ble (i + k + 1) l && Nat.beq (sGet s l (i + k) / 64) 2) := by
    intro k
    rw [strB_size]
    by_cases hk : i + k < l
    · rw [strB_get! s l _ hk, decide_eq_true hk, Nat.ble_eq_true_of_le (by omega : i + k + 1 ≤ l), Bool.true_and, Bool.true_and]
      rw [Bool.eq_iff_iff]; simp
    · rw [decide_eq_false hk, Bool.false_and]
      have : Nat.ble (i + k + 1) l = false := by rw [Bool.eq_false_iff]; intro e; have := Nat.le_of_ble_eq_true e; omega
      rw [this, Bool.false_and]
  have at' : ∀ k, (Nat.ble (i + k + 1) l && Nat.beq (sGet s l (i + k) / 64) 2) = true → ((strB s l).get! (i + k)).toNat = sGet s l (i + k) := by
    intro k hk
    rw [Bool.and_eq_true] at hk
    exact strB_get! s l _ (by have := Nat.le_of_ble_eq_true hk.1; omega)
  simp only [Utf8.decode, sDecode, at0, cont]
  split
  · rfl
  · split
    · rename_i h1; rw [Bool.and_eq_true] at h1; rw [at' 1 h1.2]
    · split
      · rename_i h1; rw [Bool.and_eq_true, Bool.and_eq_true] at h1; rw [at' 1 h1.1.2, at' 2 h1.2]
      · split
        · rename_i h1; rw [Bool.and_eq_true, Bool.and_eq_true, Bool.and_eq_true] at h1; rw [at' 1 h1.1.1.2, at' 2 h1.1.2, at' 3 h1.2]
        · rfl
theorem sRunes_ok (s l : Nat) : ∀ (f i : Nat) (acc : Array Value), ∃ cs : List Value, Conv.runesFrom (strB s l) f i acc = acc ++ cs.toArray ∧ VRs φ (sRunes s l f i) cs ∧ (∀ x ∈ cs, x.oneCell = true)
  | 0, i, acc => ⟨[], by simp [Conv.runesFrom], .nil, by simp⟩
  | f + 1, i, acc => by
    simp only [Conv.runesFrom, sRunes, strB_size]
    by_cases h : i < l
    · rw [if_pos h, Nat.ble_eq_true_of_le (by omega : i + 1 ≤ l), cond_true, decode_ok s l i h]
      obtain ⟨r, wd⟩ := sDecode s l i
      simp only
      obtain ⟨cs, h1, h2, h3⟩ := sRunes_ok s l f (i + wd) (acc.push (.int .i32 (Int.ofNat r)))
      refine ⟨.int .i32 (Int.ofNat r) :: cs, ?_, .cons _ _ _ _ (.int _ _) h2, ?_⟩
      · rw [h1]; apply Array.ext'; simp
      · intro x hx
        rcases List.mem_cons.1 hx with rfl | hx
        · rfl
        · exact h3 x hx
    · have : Nat.ble (i + 1) l = false := by rw [Bool.eq_false_iff]; intro e; have := Nat.le_of_ble_eq_true e; omega
      rw [if_neg h, this, cond_false]
      exact ⟨[], by simp, .nil, by simp⟩
theorem encB_ok (r : Int) : (Utf8.encode r) = strB (natOf (encB r)) (encB r).length := (strB_natOf (Utf8.encode r)).symm
theorem encRunes_ok {φ : Ph} : ∀ (vs : List V) (s n t m : Nat) (cs : List Value), s < 256 ^ n → encRunes vs s n = some (t, m) → VRs φ vs cs →
    t < 256 ^ m ∧ ∃ ns : List Int, cs = ns.map (Value.int .i32) ∧ strB t m = ns.foldl (fun s n => s ++ Utf8.encode n) (strB s n)
  | [], s, n, t, m, cs, hs, h, hc => by
    cases hc
    simp only [encRunes, Option.some.injEq, Prod.mk.injEq] at h
    obtain ⟨rfl, rfl⟩ := h
    exact ⟨hs, [], rfl, rfl⟩
  | v :: r, s, n, t, m, cs, hs, h, hc => by
    cases hc with
    | cons _ x _ xs hv ht =>
      simp only [encRunes] at h
      split at h
      · rename_i q
        cases hv
        have hl := natOf_ok (encB q)
        obtain ⟨h1, ns, h2, h3⟩ := encRunes_ok r _ _ t m xs (sCat_lt hs hl.1) h ht
        refine ⟨h1, q :: ns, by rw [h2]; rfl, ?_⟩
        rw [h3, List.foldl_cons]
        congr 1
        rw [← strB_append hs, ← encB_ok]
      · cases h
end
end Go.X

namespace Go.X
section
variable {P : Program} {φ : Ph} {H : Nat → Obj} {w : World} {ρ : Operand → Value} {o : Oper} {c : Cx}
theorem choose_appendCap (need old : Nat) (e : TypeId) (w : World) : ∃ cap, need ≤ cap ∧ (choose (.appendCap need old e)).run P w = .ok cap { w with drawn := w.drawn + 1 } := by
  refine ⟨need + w.tape w.drawn (.appendCap need old e) % (2 ^ 63 - need), by omega, ?_⟩
  rw [run_choose]
  simp only [Question.forced, Bool.false_eq_true, if_false, Question.cut]
inductive CvR (P : Program) (src dst : TypeId) : Cv → Prop
  | int (k : IntKind) (d : TypeDesc) : P.underlying src = some d → P.underlying dst = some (.int k) → CvR P src dst (.int k)
  | str (d : TypeDesc) : P.underlying src = some d → P.underlying dst = some .string → (∀ e, d ≠ .slice e) → CvR P src dst .str
  | toBytes (e : TypeId) : P.underlying src = some .string → P.underlying dst = some (.slice e) → P.underlying e = some (.int .u8) → CvR P src dst (.toBytes e)
  | toRunes (e : TypeId) : P.underlying src = some .string → P.underlying dst = some (.slice e) → P.underlying e = some (.int .i32) → CvR P src dst (.toRunes e)
  | ofBytes (e : TypeId) : P.underlying src = some (.slice e) → P.underlying dst = some .string → P.underlying e = some (.int .u8) → CvR P src dst .ofBytes
  | ofRunes (e : TypeId) : P.underlying src = some (.slice e) → P.underlying dst = some .string → P.underlying e = some (.int .i32) → CvR P src dst .ofRunes
  | mark (e q : TypeId) : P.underlying src = some (.slice q) → P.underlying dst = some (.slice e) → P.underlying e = some (.int .u8) → src = dst → CvR P src dst .mark
  | bad : CvR P src dst .bad
theorem cvOf_ok (P : Program) (src dst : TypeId) : CvR P src dst (cvOf P src dst) := by
  unfold cvOf
  cases hs : P.underlying src with
  | none => cases P.underlying dst with
    | none => exact .bad
    | some d => cases d <;> exact .bad
  | some d =>
    cases hd : P.underlying dst with
    | none => cases d <;> exact .bad
    | some d' =>
      cases d' with
      | int k => simp only; exact .int k d hs hd
      | string =>
        cases d with
        | slice e =>
          simp only
          split
          · rename_i he; exact .ofBytes e hs hd he
          · rename_i he; exact .ofRunes e hs hd he
          · exact .bad
        | _ => simp only; exact .str _ hs hd (by intro e; simp)
      | slice e =>
        cases d with
        | string =>
          simp only
          split
          · rename_i he; exact .toBytes e hs hd he
          · rename_i he; exact .toRunes e hs hd he
          · exact .bad
        | slice q =>
          simp only
          split
          · rename_i he
            cases hb : Nat.beq src dst with
            | true => exact .mark e q hs hd he (Nat.eq_of_beq_eq_true hb)
            | false => exact .bad
          · exact .bad
        | _ => exact .bad
      | _ => cases d <;> exact .bad
/-- a freeze behind a row's end turns nothing that is known of a row of bytes -/
theorem freeze_put (w : World) {B : Nat} {cc : Array Value} {e : TypeId} {fr : Nat × Nat} (h : w.heap[B]? = some (.cells cc e fr)) (hf : frOk cc.size fr) :
    ∃ fr', w.freeze ⟨B, cc.size, none⟩ 1 = World.put w B (.cells cc e fr') ∧ frOk cc.size fr' := by
  have hB : B < w.heap.size := by
    rcases Nat.lt_or_ge B w.heap.size with h' | h'
    · exact h'
    · rw [Array.getElem?_eq_none h'] at h; cases h
  refine ⟨if fr.1 == fr.2 then (cc.size, cc.size + 1) else (min fr.1 cc.size, max fr.2 (cc.size + 1)), ?_, ?_⟩
  · simp only [World.freeze, World.put]
    rw [if_neg (by decide)]
    congr 1
    apply Array.ext_getElem?
    intro j
    rw [Array.getElem?_modify]
    by_cases e' : B = j
    · subst e'
      have hh : w.heap[B] = .cells cc e fr := by rw [Array.getElem?_eq_getElem hB] at h; exact Option.some.inj h
      simp [hB, hh]
    · simp [e']
  · by_cases he : fr.1 = fr.2
    · simp only [he, beq_self_eq_true, if_true]; exact .inr (Nat.le_refl _)
    · rw [if_neg (by simpa using he)]
      rcases hf with h2 | h2
      · exact absurd h2 he
      · exact .inr (by simp only; omega)
theorem effConv_ok {src dst : TypeId} {x : Operand} (hs : Sub (c.hp) H) (hR : RelH P φ H w) (hn : φ c.nx = none) (ho : o.op = .convert src dst x) (hv : VR φ (c.rd x) (ρ x)) :
    EffOk P φ H c.nx w (effConv src dst x P c) ((execOp ρ o).run P w) := by
  have hcv := cvOf_ok P src dst
  unfold effConv
  generalize cvOf P src dst = cv at hcv
  have val : ∀ (v : V) (z : Value), (convert src dst (ρ x)).run P w = .ok z w → VR φ v z → EffOk P φ H c.nx w (.val v) ((execOp ρ o).run P w) := by
    intro v z hz hvz
    refine .value ?_ hvz hR
    simp only [execOp, ho]
    exact run_v hz
  cases hcv with
  | bad => cases c.rd x <;> trivial
  | int k d h1 h2 =>
    cases h : c.rd x with
    | int k' n =>
      rw [h] at hv
      generalize hx : ρ x = y at *
      cases hv
      refine val _ _ ?_ (.int _ _)
      simp only [convert, Sem.run_bind, run_underlying' h1, run_underlying' h2, Result.andThen, wrapX_eq]
      rfl
    | _ => trivial
  | str d h1 h2 h3 =>
    cases h : c.rd x with
    | int k' n =>
      rw [h] at hv
      generalize hx : ρ x = y at *
      cases hv
      refine val _ (.string (strB (natOf (encB n)) (encB n).length)) ?_ (.str _ _ (natOf_ok _).1)
      simp only [convert, Sem.run_bind, run_underlying' h1, run_underlying' h2, Result.andThen]
      cases d <;> first | (exact absurd rfl (h3 _)) | (rw [← encB_ok]; rfl)
    | str s l =>
      rw [h] at hv
      generalize hx : ρ x = y at *
      cases hv with
      | str _ _ hsl =>
        refine val _ (.string (strB s l)) ?_ (.str _ _ hsl)
        simp only [convert, Sem.run_bind, run_underlying' h1, run_underlying' h2, Result.andThen]
        cases d <;> first | (exact absurd rfl (h3 _)) | rfl
    | _ => trivial
  | toBytes e h1 h2 h3 =>
    cases h : c.rd x with
    | str s l =>
      rw [h] at hv
      generalize hx : ρ x = y at *
      cases hv with
      | str _ _ hsl =>
        simp only
        obtain ⟨cap, hc1, hc2⟩ := choose_appendCap (P := P) (strB s l).size 0 e w
        rw [strB_size] at hc1
        let cc : Array Value := ((strB s l).data.map fun b => (.int .u8 b.toNat : Value)) ++ Array.replicate (cap - (strB s l).size) (.int .u8 0)
        have hcs : cc.size = cap := by
          have : (strB s l).data.size = l := by show (bytesL s l).length = l; exact bytesL_length _ _
          simp only [cc, Array.size_append, Array.size_map, Array.size_replicate, this, strB_size]; omega
        let w2 : World := { w with drawn := w.drawn + 1 }
        refine ⟨.slice (some ⟨w.heap.size, 0, none⟩) l cap, w2, .cells cc e (cap, cap + 1), 0, cap, .inl ?_, rfl, rfl, rfl, rfl, ?_, ?_, by intro m since seen last hh; cases hh⟩
        · simp only [execOp, ho, hx]
          refine run_v ?_
          simp only [convert, Sem.run_bind, run_underlying' h1, run_underlying' h2, Result.andThen, run_underlying' h3, Conv.stringToBytes, hc2, newRow, run_newObj, Sem.run_pure, markStringish, run_shape]
          have hshape : ∀ cc' : Array Value, ({ w with drawn := w.drawn + 1, heap := w.heap.push (.cells cc' e) } : World).shape? w.heap.size = some (e, cc'.size) := by
            intro cc'; simp [World.shape?]
          rw [hshape]
          simp only [run_freeze, strB_size]
          have hfz : ({ w with drawn := w.drawn + 1, heap := w.heap.push (.cells cc e) } : World).freeze { block := w.heap.size, off := cc.size } 1 = World.add w2 (.cells cc e (cap, cap + 1)) := by
            simp only [World.freeze, World.add, w2]
            rw [if_neg (by decide)]
            congr 1
            apply Array.ext_getElem?
            intro j
            rw [Array.getElem?_modify]
            by_cases e' : w.heap.size = j
            · subst e'; simp [hcs]
            · simp only [e', if_false, Array.getElem?_push, Ne.symm e']
          have hcc : cc = ((strB s l).data.map fun b => (.int .u8 b.toNat : Value)) ++ Array.replicate (cap - l) (.int .u8 0) := by simp only [cc, strB_size]
          rw [hcc] at hfz
          show Result.ok _ (World.freeze _ _ _) = _
          congr 1
          rw [← hcc]
          rw [← hcc] at hfz
          exact hfz
        · exact .slcN _ _ _ _ _ _ _ _ _ _ (Ph.set_same _ _ _) (fun _ => rfl) hc1 (by omega) (by omega)
        · refine ⟨cc, _, rfl, by omega, hc1, hsl, ?_, ?_, .inr (by simp only; omega), by simp⟩
          · intro i hi
            have : (strB s l).data.size = l := by show (bytesL s l).length = l; exact bytesL_length _ _
            simp only [cc]
            rw [Array.getElem?_append_left (by simp [this]; omega), Array.getElem?_map]
            have e : (strB s l).data[0 + i]? = some (UInt8.ofNat (sGet s l i)) := by
              show (⟨bytesL s l⟩ : Array UInt8)[0 + i]? = _
              rw [Nat.zero_add, List.getElem?_toArray]; exact bytesL_get _ _ _ hi
            rw [e]
            simp only [Option.map_some, toNat_ofNat]; rfl
          · intro z hz
            simp only [cc, Array.toList_append, Array.toList_map, Array.toList_replicate, List.mem_append, List.mem_map, List.mem_replicate] at hz
            rcases hz with ⟨q, _, rfl⟩ | ⟨_, rfl⟩ <;> rfl
    | _ => trivial
  | toRunes e h1 h2 h3 =>
    cases h : c.rd x with
    | str s l =>
      rw [h] at hv
      generalize hx : ρ x = y at *
      cases hv with
      | str _ _ hsl =>
        simp only
        obtain ⟨cs, r1, r2, r3⟩ := sRunes_ok (φ := φ) s l l 0 #[]
        rw [show #[] ++ cs.toArray = cs.toArray by simp] at r1
        have hlen := r2.length
        obtain ⟨cap, hc1, hc2⟩ := choose_appendCap (P := P) cs.toArray.size 0 e w
        simp only [List.size_toArray] at hc1
        let cc : Array Value := cs.toArray ++ Array.replicate (cap - cs.toArray.size) (.int .i32 0)
        have hcs : cc.size = cap := by simp only [cc, Array.size_append, Array.size_replicate, List.size_toArray]; omega
        let w2 : World := { w with drawn := w.drawn + 1 }
        refine ⟨.slice (some ⟨w.heap.size, 0, none⟩) cs.length cap, w2, .cells cc e (0, 0), 0, cap, .inl ?_, rfl, rfl, rfl, rfl, ?_, ?_, by intro m since seen last hh; cases hh⟩
        · simp only [execOp, ho, hx]
          refine run_v ?_
          simp only [convert, Sem.run_bind, run_underlying' h1, run_underlying' h2, Result.andThen, run_underlying' h3, Conv.stringToRunes, strB_size, r1, hc2, newRow, run_newObj, Sem.run_pure]
          rfl
        · rw [lenL_eq, Nat.zero_add, ← hlen]
          exact .slcN _ _ _ _ _ _ _ _ _ _ (Ph.set_same _ _ _) (fun _ => rfl) hc1 (by omega) (by omega)
        · refine ⟨cc, rfl, by omega, by omega, ?_, ?_, by simp⟩
          · intro i v hi
            obtain ⟨z, z1, z2⟩ := r2.get i hi
            refine ⟨z, ?_, z2.mono (Ph.set_below hn)⟩
            have hlt : i < cs.length := by
              obtain ⟨h1, _⟩ := List.getElem?_eq_some_iff.1 z1; exact h1
            simp only [cc]
            rw [Array.getElem?_append_left (by simpa using hlt), Nat.zero_add, List.getElem?_toArray]; exact z1
          · intro z hz
            simp only [cc, Array.toList_append, Array.toList_replicate, List.mem_append, List.mem_replicate] at hz
            rcases hz with hz | ⟨_, rfl⟩
            · exact r3 z hz
            · rfl
    | _ => trivial
  | ofBytes e h1 h2 h3 =>
    cases h : c.rd x with
    | nils =>
      rw [h] at hv
      generalize hx : ρ x = y at *
      cases hv
      refine val _ (.string (strB 0 0)) ?_ (.str _ _ (by decide))
      rw [run_convert_bytes_string w src dst e _ _ _ h1 h3 h2]
      rfl
    | slc b q l cap es ex =>
      rw [h] at hv
      generalize hx : ρ x = y at *
      simp only
      cases hg : getB (c.hp b) q l with
      | none => trivial
      | some s =>
        simp only
        have hne : c.hp b ≠ .free := by intro e'; rw [e'] at hg; simp [getB] at hg
        have hb := hs b hne
        rw [hb] at hg
        -- the address, where something lies there
        have key : ∀ B off sz ao cap', φ b = some (B, off, sz) → (cap' ≠ 0 → ao = off + q) → l ≤ cap' → ρ x = .slice (some ⟨B, ao, none⟩) l cap' →
            EffOk P φ H c.nx w (.val (.str s l)) ((execOp ρ o).run P w) := by
          intro B off sz ao cap' hφ hao hl hρ
          obtain ⟨s1, ns, s2, s3, s4⟩ := run_getB hR hφ rfl hg
          have hload : (loadCells ⟨B, ao, none⟩ l).run P w = .ok (ns.map (Value.int .u8)).toArray w := by
            by_cases h0 : cap' = 0
            · have : l = 0 := by omega
              subst this
              have : ns = [] := List.length_eq_zero_iff.1 s3
              subst this; rfl
            · rw [hao h0]; exact s2
          refine .value (v' := .string (strB s l)) ?_ (.str _ _ s1) hR
          simp only [execOp, ho, hρ]
          refine run_v ?_
          rw [run_convert_bytes_string w src dst e _ _ _ h1 h3 h2, run_bytesToString w _ _ _ ns hload, strB_of_ns s3 (fun j x hj => (s4 j x hj).1)]
        cases hv with
        | slcE _ _ _ _ _ B off sz ao g1 g2 g3 g4 => exact key B off sz ao cap g1 g2 g3 hx
        | slcN _ _ _ _ _ B off sz ao cap' g1 g2 g3 g4 g5 => exact key B off sz ao cap' g1 g2 g3 hx
    | _ => trivial
  | ofRunes e h1 h2 h3 =>
    have hconv : ∀ a l k, (convert src dst (.slice a l k)).run P w = (Conv.runesToString (.slice a l k)).run P w := by
      intro a l k
      simp only [convert, Sem.run_bind, run_underlying' h1, run_underlying' h2, Result.andThen, run_underlying' h3]
    cases h : c.rd x with
    | nils =>
      rw [h] at hv
      generalize hx : ρ x = y at *
      cases hv
      refine val _ (.string (strB 0 0)) ?_ (.str _ _ (by decide))
      rw [hconv]; rfl
    | slc b q l cap es ex =>
      rw [h] at hv
      generalize hx : ρ x = y at *
      simp only
      cases hg : getO (c.hp b) q l with
      | none => trivial
      | some r =>
        simp only
        cases hr : encRunes r 0 0 with
        | none => trivial
        | some tm =>
          obtain ⟨t, m⟩ := tm
          simp only
          have hne : c.hp b ≠ .free := by intro e'; rw [e'] at hg; simp [getO] at hg
          have hb := hs b hne
          rw [hb] at hg
          have key : ∀ B off sz ao cap', φ b = some (B, off, sz) → (cap' ≠ 0 → ao = off + q) → l ≤ cap' → ρ x = .slice (some ⟨B, ao, none⟩) l cap' →
              EffOk P φ H c.nx w (.val (.str t m)) ((execOp ρ o).run P w) := by
            intro B off sz ao cap' hφ hao hl hρ
            obtain ⟨cs, s2, s3, s4, s5, s6, s7⟩ := run_getO hR hφ rfl hg
            obtain ⟨t1, ns, t2, t3⟩ := encRunes_ok r 0 0 t m cs (by decide) hr s3
            have hload : (loadCells ⟨B, ao, none⟩ l).run P w = .ok (ns.map (Value.int .i32)).toArray w := by
              by_cases h0 : cap' = 0
              · have : l = 0 := by omega
                subst this
                have : cs = [] := List.length_eq_zero_iff.1 s5
                subst this
                have : ns = [] := by simpa using t2.symm
                subst this; rfl
              · rw [hao h0, ← t2]; exact s2
            refine .value (v' := .string (strB t m)) ?_ (.str _ _ t1) hR
            simp only [execOp, ho, hρ]
            refine run_v ?_
            rw [hconv, run_runesToString w _ _ _ ns hload, t3]
            rfl
          cases hv with
          | slcE _ _ _ _ _ B off sz ao g1 g2 g3 g4 => exact key B off sz ao cap g1 g2 g3 hx
          | slcN _ _ _ _ _ B off sz ao cap' g1 g2 g3 g4 g5 => exact key B off sz ao cap' g1 g2 g3 hx
    | _ => trivial
  | mark e q h1 h2 h3 h4 =>
    cases h : c.rd x with
    | slc b q' l cap es ex =>
      rw [h] at hv
      generalize hx : ρ x = y at *
      simp only
      cases hob : c.hp b with
      | bytes s l' e' hi =>
        simp only
        have hb := sub_ne hs hob (by simp)
        have key : ∀ B off sz ao cap' v', φ b = some (B, off, sz) → VR φ (.slc b q' l cap es ex) v' → v' = .slice (some ⟨B, ao, none⟩) l cap' → ρ x = v' →
            EffOk P φ H c.nx w (.val (.slc b q' l cap es ex)) ((execOp ρ o).run P w) := by
          intro B off sz ao cap' v' hφ hvr hv' hρ
          have hcell := cell_of hR (by rw [hb]; simp) hφ
          rw [hb] at hcell
          obtain ⟨cc, fr, g1, g2, g3, g4, g5, g6, g7, g8⟩ := hcell
          obtain ⟨fr', f1, f2⟩ := freeze_put w g1 g7
          have hset := hR.set_row (ob := .bytes s l' e' hi) (by rw [hb]; simp) hφ g1 rfl ⟨cc, fr', rfl, g2, g3, g4, g5, g6, f2, g8⟩
          have hH : upd H b (.bytes s l' e' hi) = H := by
            funext y; unfold upd; split
            · rename_i e1; rw [e1, hb]
            · rfl
          rw [hH] at hset
          refine ⟨v', World.put w B (.cells cc e' fr'), .inl ?_, hvr, hset.1, fun nx => ?_⟩
          · simp only [execOp, ho, hρ]
            refine run_v ?_
            subst h4
            have hqe : q = e := by rw [h1] at h2; cases h2; rfl
            subst hqe
            have hshape : w.shape? B = some (e', cc.size) := by simp [World.shape?, g1]
            simp only [hv', convert, Sem.run_bind, run_underlying' h1, Result.andThen, run_underlying' h3, beq_self_eq_true, markStringish, run_shape, hshape]
            simp only [run_freeze, f1]
            rfl
          · have := hset.2 nx
            exact this
        cases hv with
        | slcE _ _ _ _ _ B off sz ao g1 g2 g3 g4 => exact key B off sz ao cap _ g1 (.slcE _ _ _ _ _ _ _ _ _ g1 g2 g3 g4) rfl hx
        | slcN _ _ _ _ _ B off sz ao cap' g1 g2 g3 g4 g5 => exact key B off sz ao cap' _ g1 (.slcN _ _ _ _ _ _ _ _ _ _ g1 g2 g3 g4 g5) rfl hx
      | _ => trivial
    | _ => trivial
end
end Go.X

namespace Go.X
section
variable {P : Program} {φ : Ph} {H : Nat → Obj} {w : World} {ρ : Operand → Value} {o : Oper} {c : Cx}
theorem one1_eq (v : Value) : one1 v = v.oneCell := by cases v <;> rfl
theorem ones_ok : ∀ {l : List Value}, ones l = true → ∀ x ∈ l, x.oneCell = true
  | [], _, x, hx => by cases hx
  | v :: r, h, x, hx => by
    simp only [ones] at h
    cases h1 : one1 v with
    | false => rw [h1] at h; cases h
    | true =>
      rw [h1] at h
      rcases List.mem_cons.1 hx with rfl | hx
      · rw [← one1_eq]; exact h1
      · exact ones_ok h x hx
mutual
theorem ofV_ok : ∀ v : Value, VR φ (ofV v) v
  | .bool b => by simp only [ofV]; exact .bool _
  | .int k n => by simp only [ofV]; exact .int _ _
  | .string s => by
    simp only [ofV]
    have h := natOf_ok s.data.toList
    have e := strB_natOf s
    have : VR φ (.str (natOfB s) s.data.toList.length) (.string (strB (natOfB s) s.data.toList.length)) := .str _ _ h.1
    rwa [e] at this
  | .pointer none => by simp only [ofV]; exact .nilp
  | .pointer (some _) => by simp only [ofV]; exact .junk _
  | .slice none 0 0 => by simp only [ofV]; exact .nils
  | .slice none 0 (_ + 1) => by simp only [ofV]; exact .junk _
  | .slice none (_ + 1) _ => by simp only [ofV]; exact .junk _
  | .slice (some _) _ _ => by simp only [ofV]; exact .junk _
  | .map none => by simp only [ofV]; exact .nilm
  | .map (some _) => by simp only [ofV]; exact .junk _
  | .func f ⟨a⟩ ⟨l⟩ => by
    cases f with
    | func f =>
      cases a with
      | nil => simp only [ofV]; exact .fnF _ _ _ (ofVs_ok l)
      | cons => simp only [ofV]; exact .junk _
    | _ => simp only [ofV]; exact .junk _
  | .nilFunc => by simp only [ofV]; exact .nilf
  | .iface t v => by simp only [ofV]; exact .ifc _ _ _ (ofV_ok v)
  | .nilIface => by simp only [ofV]; exact .nili
  | .agg ⟨l⟩ => by
    simp only [ofV]
    cases h : ones l with
    | false => exact .junk _
    | true => exact .agg _ _ (ofVs_ok l) (ones_ok h)
  | .tuple ⟨l⟩ => by simp only [ofV]; exact .tup _ _ (ofVs_ok l)
  | .float _ _ => by simp only [ofV]; exact .junk _
  | .complex _ _ _ => by simp only [ofV]; exact .junk _
  | .chan _ => by simp only [ofV]; exact .junk _
theorem ofVs_ok : ∀ l : List Value, VRs φ (ofVs l) l
  | [] => by simp only [ofVs]; exact .nil
  | v :: r => by simp only [ofVs]; exact .cons _ _ _ _ (ofV_ok v) (ofVs_ok r)
end
theorem zeroL_ok {t : TypeId} {l : List V} (h : zeroL P t = some l) : ∃ (i : TypeInfo) (z : Value) (cs : List Value), P.info? t = some i ∧ i.zero = some z ∧ z.cells = ⟨cs⟩ ∧
    (∀ φ, VRs φ l cs) ∧ (∀ x ∈ cs, x.oneCell = true) ∧ cs.length = P.cellsOf t ∧ l.length = P.cellsOf t ∧ ∀ w, (zeroValue t).run P w = .ok z w := by
  unfold zeroL at h
  cases hi : P.info? t with
  | none => rw [hi] at h; cases h
  | some i =>
    rw [hi] at h
    simp only at h
    cases hz : i.zero with
    | none => rw [hz] at h; cases h
    | some z =>
      rw [hz] at h
      simp only at h
      cases hc : z.cells with
      | mk cs =>
        rw [hc] at h
        simp only at h
        cases h1 : ones cs with
        | false => rw [h1] at h; cases h
        | true =>
          rw [h1] at h
          cases h2 : Nat.beq (lenL cs 0) i.size with
          | false => rw [h2] at h; cases h
          | true =>
            rw [h2] at h
            simp only [cond_true, Option.some.injEq] at h
            subst h
            have h2 := Nat.eq_of_beq_eq_true h2
            rw [lenL_eq] at h2
            have hsz : P.cellsOf t = i.size := by simp [Program.cellsOf, hi]
            have hv : VRs (fun _ => none) (ofVs cs) cs := ofVs_ok cs
            refine ⟨i, z, cs, rfl, hz, hc, fun _ => ofVs_ok cs, ones_ok h1, by omega, by have := hv.length; omega, fun w => ?_⟩
            simp only [zeroValue, Sem.run_bind, run_typeInfo' hi, Result.andThen, hz]; rfl
/-- a new row -/
theorem new_row {e : TypeId} {l : List V} {cs : List Value} {v : V} {v' : Value} {r : Result Next} {w2 : World} (hR : φ c.nx = none) (hl : VRs φ l cs) (h1 : ∀ x ∈ cs, x.oneCell = true)
    (hr : NextV r v' (World.add w2 (.cells ⟨cs⟩ e (0, 0)))) (hw : w2.heap = w.heap) (ho : w2.os = w.os) (ht : w2.tape = w.tape) (hp : w2.output = w.output)
    (hv : VR (φ.set c.nx (w.heap.size, 0, cs.length)) v v') : EffOk P φ H c.nx w (.new (.cells l e 0) v) r := by
  refine ⟨v', w2, _, 0, cs.length, hr, hw, ho, ht, hp, hv, ?_, by intro m since seen last hh; cases hh⟩
  refine ⟨⟨cs⟩, rfl, by simp, by rw [← hl.length]; exact Nat.le_refl _, ?_, by simpa using h1, by simp⟩
  intro i v hi
  obtain ⟨x, x1, x2⟩ := hl.get i hi
  exact ⟨x, by rw [Nat.zero_add, List.getElem?_toArray]; exact x1, x2.mono (Ph.set_below hR)⟩
theorem effAlloc_ok {e : TypeId} (hn : φ c.nx = none) (ho : o.op = .alloc e) : EffOk P φ H c.nx w (effAlloc e P c) ((execOp ρ o).run P w) := by
  unfold effAlloc
  cases hz : zeroL P e with
  | none => trivial
  | some l =>
    simp only
    obtain ⟨i, z, cs, z1, z2, z3, z4, z5, z6, z7, z8⟩ := zeroL_ok hz
    refine new_row (w2 := w) hn (z4 φ) z5 (.inl ?_) rfl rfl rfl rfl (.ptr _ _ _ _ _ (Ph.set_same _ _ _))
    simp only [execOp, ho]
    refine run_v ?_
    simp only [Instr.alloc, Sem.run_bind, z8, Result.andThen, newVar, newRow, run_newObj, Sem.run_pure, z3]
    rfl
theorem okCells_ok {v : V} {x : Value} (h : okCells v = true) (hv : VR φ v x) : VRs φ (cellsX v) x.cells.toList ∧ (∀ y ∈ x.cells.toList, y.oneCell = true) := by
  cases hv with
  | agg l cs h1 h2 => exact ⟨h1, h2⟩
  | junk => simp [okCells] at h
  | tup => simp [okCells] at h
  | bool b => exact ⟨.cons _ _ _ _ (.bool _) .nil, by simp [Value.cells, Value.oneCell]⟩
  | int k n => exact ⟨.cons _ _ _ _ (.int _ _) .nil, by simp [Value.cells, Value.oneCell]⟩
  | str s l g => exact ⟨.cons _ _ _ _ (.str _ _ g) .nil, by simp [Value.cells, Value.oneCell]⟩
  | ptr b o B off sz g => exact ⟨.cons _ _ _ _ (.ptr _ _ _ _ _ g) .nil, by simp [Value.cells, Value.oneCell]⟩
  | nilp => exact ⟨.cons _ _ _ _ .nilp .nil, by simp [Value.cells, Value.oneCell]⟩
  | slcE b o len cap es B off sz ao g ho hl hc => exact ⟨.cons _ _ _ _ (.slcE _ _ _ _ _ _ _ _ _ g ho hl hc) .nil, by simp [Value.cells, Value.oneCell]⟩
  | slcN b o len c' es B off sz ao cap g ho hl hc he => exact ⟨.cons _ _ _ _ (.slcN _ _ _ _ _ _ _ _ _ _ g ho hl hc he) .nil, by simp [Value.cells, Value.oneCell]⟩
  | nils => exact ⟨.cons _ _ _ _ .nils .nil, by simp [Value.cells, Value.oneCell]⟩
  | capv b o es B off sz cap g hc he => exact ⟨.cons _ _ _ _ (.capv _ _ _ _ _ _ _ g hc he) .nil, by simp [Value.cells, Value.oneCell]⟩
  | map r R sz g => exact ⟨.cons _ _ _ _ (.map _ _ _ g) .nil, by simp [Value.cells, Value.oneCell]⟩
  | nilm => exact ⟨.cons _ _ _ _ .nilm .nil, by simp [Value.cells, Value.oneCell]⟩
  | fnF f l cs g => exact ⟨.cons _ _ _ _ (.fnF _ _ _ g) .nil, by simp [Value.cells, Value.oneCell]⟩
  | fnY r R sz g => exact ⟨.cons _ _ _ _ (.fnY _ _ _ g) .nil, by simp [Value.cells, Value.oneCell]⟩
  | nilf => exact ⟨.cons _ _ _ _ .nilf .nil, by simp [Value.cells, Value.oneCell]⟩
  | ifc t v x g => exact ⟨.cons _ _ _ _ (.ifc _ _ _ g) .nil, by simp [Value.cells, Value.oneCell]⟩
  | nili => exact ⟨.cons _ _ _ _ .nili .nil, by simp [Value.cells, Value.oneCell]⟩
theorem effBox_ok {e : TypeId} {x : Operand} (hn : φ c.nx = none) (ho : o.op = .box e x) (hv : VR φ (c.rd x) (ρ x)) : EffOk P φ H c.nx w (effBox e x P c) ((execOp ρ o).run P w) := by
  show EffOk P φ H c.nx w (bif okCells (c.rd x) then .new (.cells (cellsX (c.rd x)) e 0) (.ptr c.nx 0) else .bad "box") _
  cases hk : okCells (c.rd x) with
  | false => trivial
  | true =>
    rw [cond_true]
    obtain ⟨h1, h2⟩ := okCells_ok hk hv
    refine new_row (w2 := w) hn h1 h2 (.inl ?_) rfl rfl rfl rfl (.ptr _ _ _ _ _ (Ph.set_same _ _ _))
    simp only [execOp, ho]
    refine run_v ?_
    simp only [Instr.box, Sem.run_bind, Result.andThen, newVar, newRow, run_newObj, Sem.run_pure]
    rfl
/-! ### Filling -/
theorem foldl_splice : ∀ (l : List Value) (cs : Array Value) (off k : Nat),
    (l.zipIdx k).foldl (fun cs (x : Value × Nat) => cs.setIfInBounds (off + x.2) x.1) cs = spliceA cs (off + k) l
  | [], _, _, _ => rfl
  | v :: r, cs, off, k => by
    simp only [List.zipIdx_cons, List.foldl_cons, spliceA]
    rw [foldl_splice r _ off (k + 1)]
    rfl
theorem putL_rel {l : List V} {cs : Array Value} {xs : List V} {ys : List Value} {off : Nat} (h : VRs φ l cs.toList) (hx : VRs φ xs ys) (hle : off + ys.length ≤ cs.size) :
    VRs φ (putL l off xs) (spliceA cs off ys).toList := by
  have h1 := h.length
  have h2 := hx.length
  have h3 : cs.size = l.length := by rw [← h1]; simp
  refine VRs.of_get _ _ (by rw [putL_length _ _ _ (by omega)]; simp [spliceA_size, h3]) ?_
  intro i v x hv hx'
  rw [putL_get _ _ _ (by omega)] at hv
  rw [Array.getElem?_toList, spliceA_get _ _ _ _ hle] at hx'
  split at hv
  · rename_i hin
    rw [if_pos (by omega)] at hx'
    exact hx.all _ _ _ hv hx'
  · rename_i hin
    rw [if_neg (by omega)] at hx'
    exact h.all i v x hv (by rw [Array.getElem?_toList]; exact hx')
theorem fill_ok (place : Nat → Option (Nat × Nat)) : ∀ (ps : List (Nat × Nat × V)) (ys : List (Nat × Value)) (l l' : List V) (cs : Array Value),
    All2 (fun (p : Nat × Nat × V) (y : Nat × Value) => place y.1 = some (p.1, p.2.1) ∧ VR φ p.2.2 y.2) ps ys → VRs φ l cs.toList → (∀ x ∈ cs.toList, x.oneCell = true) → fillX ps l = some l' →
    ∃ cs' : Array Value, Instr.fill place cs ys = some cs' ∧ VRs φ l' cs'.toList ∧ (∀ x ∈ cs'.toList, x.oneCell = true) ∧ cs'.size = cs.size
  | [], _, l, l', cs, .nil, h, h1, hf => by
    simp [fillX] at hf; subst hf
    exact ⟨cs, rfl, h, h1, rfl⟩
  | (off, n, v) :: ps, _, l, l', cs, .cons _ (i, x) _ ys ⟨hp, hv⟩ ht, h, h1, hf => by
    simp only [fillX] at hf
    cases hk : okCells v with
    | false => rw [hk] at hf; cases hf
    | true =>
      rw [hk] at hf
      simp only [cond_true, lenL_eq] at hf
      cases hb1 : Nat.beq (0 + (cellsX v).length) n with
      | false => rw [hb1] at hf; cases hf
      | true =>
        rw [hb1] at hf
        simp only [cond_true] at hf
        cases hb2 : Nat.ble (off + n) (0 + l.length) with
        | false => rw [hb2] at hf; cases hf
        | true =>
          rw [hb2] at hf
          simp only [cond_true] at hf
          have hb1 := Nat.eq_of_beq_eq_true hb1
          have hb2 := Nat.le_of_ble_eq_true hb2
          obtain ⟨c1, c2⟩ := okCells_ok hk hv
          have hlen : x.cells.toList.length = (cellsX v).length := c1.length
          have hlen2 := h.length
          have hx1 : x.cells.toList.length = n := by omega
          have hsz : x.cells.size = n := by rw [← hx1]; simp
          have hcs : cs.size = l.length := by rw [← hlen2]; simp
          obtain ⟨cs', k1, k2, k3, k4⟩ := fill_ok place ps ys _ l' (spliceA cs off x.cells.toList) ht (putL_rel h c1 (by rw [hx1]; omega)) (mem_splice (by rw [hx1]; omega) h1 c2) hf
          refine ⟨cs', ?_, k2, k3, by rw [k4, spliceA_size]⟩
          simp only [Instr.fill, hp]
          rw [if_neg (by rw [hsz]; simp; omega)]
          have e : x.cells.zipIdx.foldl (fun cs (x : Value × Nat) => cs.setIfInBounds (off + x.2) x.1) cs = spliceA cs off x.cells.toList := by
            rw [← Array.foldl_toList, Array.toList_zipIdx, foldl_splice, Nat.add_zero]
          rw [← k1, ← e]
end
end Go.X

namespace Go.X
section
variable {P : Program} {φ : Ph} {H : Nat → Obj} {w : World} {ρ : Operand → Value} {o : Oper} {c : Cx}
theorem isInfo_ok {t : TypeId} (h : isInfo P t = true) : ∃ i, P.info? t = some i := by
  unfold isInfo at h
  split at h
  · rename_i i hi; exact ⟨i, hi⟩
  · cases h
theorem allL_ok {α : Type} {f : α → Bool} : ∀ {l : List α}, allL f l = true → ∀ x ∈ l, f x = true
  | [], _, x, hx => by cases hx
  | y :: r, h, x, hx => by
    simp only [allL] at h
    cases h1 : f y with
    | false => rw [h1] at h; cases h
    | true =>
      rw [h1] at h
      rcases List.mem_cons.1 hx with rfl | hx
      · exact h1
      · exact allL_ok h x hx
theorem run_places : ∀ (l : List Field), (∀ f ∈ l, ∃ i, P.info? f.type = some i) → (l.mapM (fun f => do pure (f.offset, ← sizeOf f.type) : Field → Sem (Nat × Nat))).run P w = .ok (l.map fun f => (f.offset, P.cellsOf f.type)) w
  | [], _ => rfl
  | f :: r, h => by
    obtain ⟨i, hi⟩ := h f (by simp)
    rw [List.mapM_cons]
    simp only [Sem.run_bind, run_sizeOf' hi, Result.andThen, Sem.run_pure, run_places r (fun g hg => h g (by simp [hg])), List.map_cons]
theorem placeS_ok {fs : Array Field} : ∀ (parts : List (Nat × Operand)) (ps : List (Nat × Nat × V)), (∀ p ∈ parts, VR φ (c.rd p.2) (ρ p.2)) → placeS P fs c parts = some ps →
    All2 (fun (p : Nat × Nat × V) (y : Nat × Value) => (((fs.toList.map fun f => (f.offset, P.cellsOf f.type)).toArray[y.1]?) : Option (Nat × Nat)) = some (p.1, p.2.1) ∧ VR φ p.2.2 y.2) ps (parts.map fun p => (p.1, ρ p.2))
  | [], ps, _, h => by simp [placeS] at h; subst h; exact .nil
  | (i, x) :: r, ps, hv, h => by
    simp only [placeS] at h
    cases hf : fs[i]? with
    | none => rw [hf] at h; cases h
    | some f =>
      cases hr : placeS P fs c r with
      | none => rw [hf, hr] at h; cases h
      | some l =>
        rw [hf, hr] at h
        simp only [Option.some.injEq] at h
        subst h
        refine .cons _ _ _ _ ⟨?_, hv (i, x) (by simp)⟩ (placeS_ok r l (fun p hp => hv p (by simp [hp])) hr)
        have : fs.toList[i]? = some f := by rw [Array.getElem?_toList]; exact hf
        simp [this]
theorem placeA_ok (es : Nat) : ∀ (parts : List (Nat × Operand)), (∀ p ∈ parts, VR φ (c.rd p.2) (ρ p.2)) →
    All2 (fun (p : Nat × Nat × V) (y : Nat × Value) => (some (y.1 * es, es) : Option (Nat × Nat)) = some (p.1, p.2.1) ∧ VR φ p.2.2 y.2) (placeA es c parts) (parts.map fun p => (p.1, ρ p.2))
  | [], _ => .nil
  | (i, x) :: r, hv => .cons _ _ _ _ ⟨rfl, hv (i, x) (by simp)⟩ (placeA_ok es r (fun p hp => hv p (by simp [hp])))
theorem effBuild_ok {t : TypeId} {parts : Array (Nat × Operand)} (hR : RelH P φ H w) (ho : o.op = .build t parts) (hv : ∀ p ∈ parts.toList, VR φ (c.rd p.2) (ρ p.2)) :
    EffOk P φ H c.nx w (effBuild t parts P c) ((execOp ρ o).run P w) := by
  have hparts : (parts.map fun (i, x) => (i, ρ x)).toList = parts.toList.map fun p => (p.1, ρ p.2) := by simp
  unfold effBuild
  cases hz : zeroL P t with
  | none => trivial
  | some z =>
    obtain ⟨i, zv, cs, z1, z2, z3, z4, z5, z6, z7, z8⟩ := zeroL_ok hz
    cases hu : P.underlying t with
    | none => trivial
    | some d =>
      cases d with
      | struct fs =>
        simp only
        cases hok : okFields P fs with
        | false => trivial
        | true =>
          simp only [cond_true]
          cases hp : placeS P fs c parts.toList with
          | none => trivial
          | some ps =>
            simp only
            cases hf : fillX ps z with
            | none => trivial
            | some l =>
              simp only
              obtain ⟨cs', k1, k2, k3, k4⟩ := fill_ok _ ps _ z l ⟨cs⟩ (placeS_ok parts.toList ps hv hp) (z4 φ) z5 hf
              refine .value (v' := .agg cs') ?_ (by obtain ⟨cl⟩ := cs'; exact .agg _ _ k2 k3) hR
              simp only [execOp, ho]
              refine run_v ?_
              have hpl := run_places (P := P) (w := w) fs.toList (fun f hf => isInfo_ok (allL_ok hok f hf))
              simp only [Instr.build, Sem.run_bind, z8, Result.andThen, run_underlying' hu, Array.mapM_eq_mapM_toList, Sem.run_map, hpl, z3, hparts]
              rw [k1]; rfl
      | array m e =>
        simp only
        cases hok : isInfo P e with
        | false => trivial
        | true =>
          simp only [cond_true]
          obtain ⟨ie, hie⟩ := isInfo_ok hok
          cases hf : fillX (placeA (P.cellsOf e) c parts.toList) z with
          | none => trivial
          | some l =>
            simp only
            obtain ⟨cs', k1, k2, k3, k4⟩ := fill_ok (fun i => some (i * P.cellsOf e, P.cellsOf e)) _ _ z l ⟨cs⟩ (placeA_ok _ parts.toList hv) (z4 φ) z5 hf
            refine .value (v' := .agg cs') ?_ (by obtain ⟨cl⟩ := cs'; exact .agg _ _ k2 k3) hR
            simp only [execOp, ho]
            refine run_v ?_
            simp only [Instr.build, Sem.run_bind, z8, Result.andThen, run_underlying' hu, run_sizeOf' hie, z3, hparts]
            rw [k1]; rfl
      | _ => trivial
/-! ### Rows of zeros -/
theorem repL_get {α : Type} (z : List α) (hz : z ≠ []) : ∀ (n i : Nat), i < n * z.length → (repL z n)[i]? = z[i % z.length]?
  | 0, i, h => by omega
  | n + 1, i, h => by
    have hpos : 0 < z.length := List.length_pos_iff.2 hz
    simp only [repL]
    by_cases hi : i < z.length
    · rw [List.getElem?_append_left hi, Nat.mod_eq_of_lt hi]
    · rw [List.getElem?_append_right (by omega), repL_get z hz n (i - z.length) (by rw [Nat.succ_mul] at h; omega)]
      congr 1
      conv => rhs; rw [← Nat.sub_add_cancel (by omega : z.length ≤ i)]
      rw [Nat.add_mod_right]
theorem repL_length {α : Type} (z : List α) : ∀ n, (repL z n).length = n * z.length
  | 0 => by simp [repL]
  | n + 1 => by simp [repL, repL_length z n, Nat.succ_mul]; omega
def zerosA (zero : Array Value) (n : Nat) : Array Value := (Array.range n).map (zero[· % zero.size]!)
theorem zerosA_get (cs : List Value) (hz : cs ≠ []) (n i : Nat) (h : i < n) : (zerosA ⟨cs⟩ n)[i]? = cs[i % cs.length]? := by
  have hpos : 0 < cs.length := List.length_pos_iff.2 hz
  have hlt : i % cs.length < cs.length := Nat.mod_lt _ hpos
  unfold zerosA
  rw [Array.getElem?_map, Array.getElem?_range, if_pos h]
  simp only [Option.map_some]
  rw [show (⟨cs⟩ : Array Value).size = cs.length from rfl]
  rw [getElem!_pos (⟨cs⟩ : Array Value) _ hlt]
  rw [List.getElem?_eq_getElem hlt]
  rfl
theorem zerosA_size (z : Array Value) (n : Nat) : (zerosA z n).size = n := by simp [zerosA]
theorem zerosA_ok {z : List V} {cs : List Value} (h : VRs φ z cs) (h1 : ∀ x ∈ cs, x.oneCell = true) (n : Nat) : VRs φ (repL z n) (zerosA ⟨cs⟩ (n * cs.length)).toList ∧ ∀ x ∈ (zerosA ⟨cs⟩ (n * cs.length)).toList, x.oneCell = true := by
  have hlen := h.length
  by_cases hz : cs = []
  · subst hz
    have : z = [] := by cases h; rfl
    subst this
    have : repL ([] : List V) n = [] := List.length_eq_zero_iff.1 (by rw [repL_length]; simp)
    rw [this]
    have e : (zerosA ⟨[]⟩ (n * 0)).toList = [] := by simp [zerosA]
    simp only [List.length_nil]
    rw [e]
    exact ⟨.nil, by simp⟩
  · have hz' : z ≠ [] := by rintro rfl; cases h; exact hz rfl
    refine ⟨VRs.of_get _ _ (by rw [repL_length]; simp [zerosA_size, hlen]) ?_, ?_⟩
    · intro i v x hv hx
      have hi : i < n * z.length := by
        obtain ⟨h1, _⟩ := List.getElem?_eq_some_iff.1 hv
        rwa [repL_length] at h1
      rw [repL_get z hz' n i hi] at hv
      rw [Array.getElem?_toList, zerosA_get cs hz _ i (by rw [hlen]; exact hi), hlen] at hx
      exact h.all _ _ _ hv hx
    · intro x hx
      obtain ⟨i, hi⟩ := List.mem_iff_getElem?.1 hx
      rw [Array.getElem?_toList] at hi
      have hlt : i < n * cs.length := by
        have : i < (zerosA ⟨cs⟩ (n * cs.length)).size := by
          rcases Nat.lt_or_ge i (zerosA ⟨cs⟩ (n * cs.length)).size with h | h
          · exact h
          · rw [Array.getElem?_eq_none h] at hi; cases hi
        rwa [zerosA_size] at this
      rw [zerosA_get cs hz _ i hlt] at hi
      exact h1 x (List.mem_of_getElem? hi)
/-- a new row, of bytes where it is of bytes -/
theorem new_mkRow {u8 : Bool} {e : TypeId} {l : List V} {cs : List Value} {v : V} {v' : Value} {r : Result Next} {w2 : World} (hR : φ c.nx = none) (hl : VRs φ l cs) (h1 : ∀ x ∈ cs, x.oneCell = true)
    (hr : NextV r v' (World.add w2 (.cells ⟨cs⟩ e (0, 0)))) (hw : w2.heap = w.heap) (ho : w2.os = w.os) (ht : w2.tape = w.tape) (hp : w2.output = w.output)
    (hv : VR (φ.set c.nx (w.heap.size, 0, cs.length)) v v') : EffOk P φ H c.nx w (.new (mkRow u8 l e) v) r := by
  cases u8 with
  | false => exact new_row hR hl h1 hr hw ho ht hp hv
  | true =>
    simp only [mkRow]
    cases hb : bytesOfL l 0 0 with
    | none => exact new_row hR hl h1 hr hw ho ht hp hv
    | some tm =>
      obtain ⟨t, m⟩ := tm
      simp only
      obtain ⟨k1, k2, _, k4⟩ := bytesOfL_spec l 0 0 t m (by simp) hb
      have hlen := hl.length
      refine ⟨v', w2, _, 0, cs.length, hr, hw, ho, ht, hp, hv, ?_, by intro m since seen last hh; cases hh⟩
      refine ⟨⟨cs⟩, _, rfl, by simp, by omega, k2, ?_, by simpa using h1, .inl rfl, by simp⟩
      intro i hi
      have hv : l[i]? = some (l[i]'(by omega)) := List.getElem?_eq_getElem _
      obtain ⟨x, x1, x2⟩ := hl.get i hv
      rw [k4 _ _ hv] at x2
      cases x2
      rw [Nat.zero_add, List.getElem?_toArray, x1, Nat.zero_add]
theorem effBuildSlice_ok {t : TypeId} {len : Nat} {parts : Array (Nat × Operand)} (hn : φ c.nx = none) (ho : o.op = .buildSlice t len parts) (hv : ∀ p ∈ parts.toList, VR φ (c.rd p.2) (ρ p.2)) :
    EffOk P φ H c.nx w (effBuildSlice t len parts P c) ((execOp ρ o).run P w) := by
  have hparts : (parts.map fun (i, x) => (i, ρ x)).toList = parts.toList.map fun p => (p.1, ρ p.2) := by simp
  unfold effBuildSlice
  cases hu : P.underlying t with
  | none => trivial
  | some d =>
    cases d with
    | slice e =>
      simp only
      cases hb : Nat.ble (len * P.cellsOf e) 16777216 with
      | false => trivial
      | true =>
        have hb := Nat.le_of_ble_eq_true hb
        simp only [cond_true]
        cases hz : zeroL P e with
        | none => trivial
        | some z =>
          obtain ⟨i, zv, cs, z1, z2, z3, z4, z5, z6, z7, z8⟩ := zeroL_ok hz
          simp only
          cases hf : fillX (placeA (P.cellsOf e) c parts.toList) (repL z len) with
          | none => trivial
          | some l =>
            simp only
            obtain ⟨q1, q2⟩ := zerosA_ok (z4 φ) z5 len
            obtain ⟨cs', k1, k2, k3, k4⟩ := fill_ok (fun i => some (i * P.cellsOf e, P.cellsOf e)) _ _ (repL z len) l _ (placeA_ok _ parts.toList hv) q1 q2 hf
            have hlen : cs'.toList.length = len * P.cellsOf e := by
              rw [Array.length_toList, k4, zerosA_size, z6]
            refine new_mkRow (w2 := w) (v' := .slice (some ⟨w.heap.size, 0, none⟩) len len) hn k2 k3 (.inl ?_) rfl rfl rfl rfl ?_
            · simp only [execOp, ho]
              refine run_v ?_
              simp only [Instr.buildSlice, Sem.run_bind, run_underlying' hu, Result.andThen, run_sizeOf' z1]
              rw [if_neg (by omega)]
              by_cases h0 : len * P.cellsOf e = 0
              · rw [if_pos h0]
                simp only [Sem.run_bind, Sem.run_pure, Result.andThen]
                have e1 : (Array.range (len * P.cellsOf e)).map ((#[] : Array Value)[· % (#[] : Array Value).size]!) = zerosA ⟨cs⟩ (len * cs.length) := by
                  rw [z6, h0]; simp [zerosA]
                rw [e1, hparts, k1]
                simp only [Sem.run_bind, newRow, run_newObj, Result.andThen, Sem.run_pure]
                rfl
              · rw [if_neg h0]
                simp only [Sem.run_bind, z8, Sem.run_pure, Result.andThen, z3]
                have e1 : (Array.range (len * P.cellsOf e)).map ((⟨cs⟩ : Array Value)[· % (⟨cs⟩ : Array Value).size]!) = zerosA ⟨cs⟩ (len * cs.length) := by
                  rw [z6]; rfl
                rw [e1, hparts, k1]
                simp only [Sem.run_bind, newRow, run_newObj, Result.andThen, Sem.run_pure]
                rfl
            · exact .slcE _ _ _ _ _ _ _ _ _ (Ph.set_same _ _ _) (fun _ => rfl) (Nat.le_refl _) (by omega)
    | _ => trivial
end
end Go.X

namespace Go.X
section
variable {P : Program} {φ : Ph} {H : Nat → Obj} {w : World} {ρ : Operand → Value} {o : Oper} {c : Cx}
theorem effFieldAddr_ok {s : TypeId} {x : Operand} {f : Nat} (hR : RelH P φ H w) (ho : o.op = .fieldAddr s x f) (hv : VR φ (c.rd x) (ρ x)) :
    EffOk P φ H c.nx w (effFieldAddr s x f P c) ((execOp ρ o).run P w) := by
  unfold effFieldAddr
  cases h : c.rd x with
  | ptr b q =>
    rw [h] at hv
    generalize hx : ρ x = y at hv
    cases hv with
    | ptr _ _ B off sz hb =>
      cases hf : fieldOff P s f with
      | none => trivial
      | some d =>
        simp only
        unfold fieldOff at hf
        cases hu : P.underlying s with
        | none => rw [hu] at hf; cases hf
        | some k =>
          rw [hu] at hf
          cases k with
          | struct fs =>
            simp only at hf
            cases hfs : fs[f]? with
            | none => rw [hfs] at hf; cases hf
            | some fd =>
              rw [hfs] at hf
              simp only at hf
              cases hq : Nat.beq (P.cellsOf fd.type) 0 with
              | true => rw [hq] at hf; cases hf
              | false =>
                rw [hq] at hf; simp only [cond_false, Option.some.injEq] at hf
                subst hf
                have hne : P.cellsOf fd.type ≠ 0 := by intro h0; rw [h0] at hq; cases hq
                obtain ⟨i, hi⟩ := info_of_cells hne
                refine .value (v' := .pointer (some ⟨B, off + (q + fd.offset), none⟩)) ?_ (.ptr _ _ _ _ _ hb) hR
                simp only [execOp, ho, hx]
                refine run_v ?_
                simp only [Instr.fieldAt, Sem.run_bind, run_underlying' hu, Result.andThen, hfs, Instr.sureAddr, Sem.run_pure, fieldPlace, run_sizeOf' hi]
                rw [if_neg hne]
                simp only [Sem.run_pure, addr_add, Nat.add_assoc]
          | _ => cases hf
  | _ => trivial
theorem effField_ok {s : TypeId} {x : Operand} {f : Nat} (hR : RelH P φ H w) (ho : o.op = .field s x f) (hv : VR φ (c.rd x) (ρ x)) :
    EffOk P φ H c.nx w (effField s x f P c) ((execOp ρ o).run P w) := by
  unfold effField
  cases h : c.rd x with
  | agg l =>
    rw [h] at hv
    generalize hx : ρ x = y at hv
    cases hv with
    | agg _ cs h1 h2 =>
      cases hf : fieldLay P s f with
      | none => trivial
      | some d =>
        obtain ⟨off, la⟩ := d
        simp only
        unfold fieldLay at hf
        cases hu : P.underlying s with
        | none => rw [hu] at hf; cases hf
        | some k =>
          rw [hu] at hf
          cases k with
          | struct fs =>
            simp only at hf
            cases hfs : fs[f]? with
            | none => rw [hfs] at hf; cases hf
            | some fd =>
              rw [hfs] at hf
              simp only [Option.some.injEq, Prod.mk.injEq] at hf
              obtain ⟨rfl, rfl⟩ := hf
              rcases partL_form (lay P fd.type) l fd.offset with ⟨v, hp⟩ | ⟨e, hp⟩
              · rw [hp]
                obtain ⟨z, hz, hvz⟩ := run_partL (P := P) (w := w) h1 h2 hp
                refine .value ?_ hvz hR
                simp only [execOp, ho, hx]
                refine run_v ?_
                simp only [Instr.field, Sem.run_bind, run_underlying' hu, Result.andThen, hfs]
                exact hz
              · rw [hp]; trivial
          | _ => cases hf
  | _ => trivial
theorem natV_ok {v : V} {x : Value} {n : Nat} (h : natV v = some n) (hv : VR φ v x) : ∃ k, x = .int k (Int.ofNat n) := by
  unfold natV at h
  split at h
  · cases h; cases hv; exact ⟨_, rfl⟩
  · cases h
inductive SqR (P : Program) (t : TypeId) : Sq → Prop
  | none : SqR P t .none
  | slice (e : TypeId) (i : TypeInfo) : P.underlying t = some (.slice e) → P.info? e = some i → SqR P t (.slice (P.cellsOf e) (lay P e) (isU8 P e))
  | array (n : Nat) (e : TypeId) (i : TypeInfo) : P.underlying t = some (.array n e) → P.info? e = some i → SqR P t (.array n (P.cellsOf e) (lay P e))
  | str : P.underlying t = some .string → SqR P t .str
theorem sqOf_ok (P : Program) (t : TypeId) : SqR P t (sqOf P t) := by
  unfold sqOf
  cases hu : P.underlying t with
  | none => exact .none
  | some d =>
    cases d with
    | slice e =>
      simp only
      cases hi : isInfo P e with
      | false => exact .none
      | true => obtain ⟨i, hi⟩ := isInfo_ok hi; exact .slice e i hu hi
    | array n e =>
      simp only
      cases hi : isInfo P e with
      | false => exact .none
      | true => obtain ⟨i, hi⟩ := isInfo_ok hi; exact .array n e i hu hi
    | string => exact .str hu
    | _ => exact .none
theorem effIndexAddr_ok {t : TypeId} {x i : Operand} (hR : RelH P φ H w) (ho : o.op = .indexAddr t x i) (hv : VR φ (c.rd x) (ρ x)) (hiv : VR φ (c.rd i) (ρ i)) :
    EffOk P φ H c.nx w (effIndexAddr t x i P c) ((execOp ρ o).run P w) := by
  unfold effIndexAddr
  have hsq := sqOf_ok P t
  generalize sqOf P t = sq at hsq
  cases hn : natV (c.rd i) with
  | none => cases hsq <;> cases c.rd x <;> trivial
  | some n =>
    obtain ⟨k, hk⟩ := natV_ok hn hiv
    cases hsq with
    | none => cases c.rd x <;> trivial
    | str => cases c.rd x <;> trivial
    | slice e ie hu hie =>
      cases h : c.rd x with
      | slc b q l cap es ex =>
        rw [h] at hv
        simp only
        cases hb1 : Nat.ble (n + 1) l with
        | false => trivial
        | true =>
          have hb1 := Nat.le_of_ble_eq_true hb1
          simp only [cond_true]
          cases hb2 : Nat.beq (P.cellsOf e) es with
          | false => trivial
          | true =>
            have hb2 := Nat.eq_of_beq_eq_true hb2
            simp only [cond_true]
            have key : ∀ B off sz ao cap', φ b = some (B, off, sz) → (cap' ≠ 0 → ao = off + q) → l ≤ cap' → ρ x = .slice (some ⟨B, ao, none⟩) l cap' →
                EffOk P φ H c.nx w (.val (.ptr b (q + n * P.cellsOf e))) ((execOp ρ o).run P w) := by
              intro B off sz ao cap' hφ hao hl hρ
              have hao := hao (by omega)
              refine .value (v' := .pointer (some ⟨B, off + (q + n * P.cellsOf e), none⟩)) ?_ (.ptr _ _ _ _ _ hφ) hR
              simp only [execOp, ho, hρ, hk]
              refine run_v ?_
              simp only [Instr.indexAt, asIntOf, Sem.run_bind, Sem.run_pure, Result.andThen, run_underlying' hu]
              rw [if_pos (by constructor <;> (simp; try omega))]
              simp only [Sem.run_bind, run_sizeOf' hie, Result.andThen, Sem.run_pure, addr_add, hao]
              rw [show (Int.ofNat n).toNat = n from rfl, Nat.add_assoc]
            generalize hx : ρ x = y at *
            cases hv with
            | slcE _ _ _ _ _ B off sz ao g1 g2 g3 g4 => exact key B off sz ao cap g1 g2 g3 rfl
            | slcN _ _ _ _ _ B off sz ao cap' g1 g2 g3 g4 g5 => exact key B off sz ao cap' g1 g2 g3 rfl
      | _ => trivial
    | array m e ie hu hie =>
      cases h : c.rd x with
      | ptr b q =>
        rw [h] at hv
        generalize hx : ρ x = y at hv
        cases hv with
        | ptr _ _ B off sz hφ =>
          simp only
          cases hb1 : Nat.ble (n + 1) m with
          | false => trivial
          | true =>
            have hb1 := Nat.le_of_ble_eq_true hb1
            simp only [cond_true]
            refine .value (v' := .pointer (some ⟨B, off + (q + n * P.cellsOf e), none⟩)) ?_ (.ptr _ _ _ _ _ hφ) hR
            simp only [execOp, ho, hx, hk]
            refine run_v ?_
            simp only [Instr.indexAt, asIntOf, Sem.run_bind, Sem.run_pure, Result.andThen, run_underlying' hu, Instr.sureAddr]
            rw [if_pos (by constructor <;> (simp; try omega))]
            simp only [Sem.run_bind, run_sizeOf' hie, Result.andThen, Sem.run_pure, addr_add]
            rw [show (Int.ofNat n).toNat = n from rfl, Nat.add_assoc]
      | _ => trivial
theorem strB_getElem? {s l n : Nat} (h : n < l) : (strB s l)[n]? = some (UInt8.ofNat (sGet s l n)) := by
  have hsz := strB_size s l
  have hn : n < (strB s l).size := by omega
  rw [ByteArray.getElem?_lt' _ _ hn]
  congr 1
  have e : (strB s l).data[n]? = some (UInt8.ofNat (sGet s l n)) := by
    show (⟨bytesL s l⟩ : Array UInt8)[n]? = _
    rw [List.getElem?_toArray]; exact bytesL_get _ _ _ h
  have hd : n < (strB s l).data.size := hn
  rw [Array.getElem?_eq_getElem hd] at e
  exact Option.some.inj e
theorem effIndex_ok {t : TypeId} {x i : Operand} (hR : RelH P φ H w) (ho : o.op = .index t x i) (hv : VR φ (c.rd x) (ρ x)) (hiv : VR φ (c.rd i) (ρ i)) :
    EffOk P φ H c.nx w (effIndex t x i P c) ((execOp ρ o).run P w) := by
  unfold effIndex
  have hsq := sqOf_ok P t
  generalize sqOf P t = sq at hsq
  cases hn : natV (c.rd i) with
  | none => cases hsq <;> cases c.rd x <;> trivial
  | some n =>
    obtain ⟨k, hk⟩ := natV_ok hn hiv
    cases hsq with
    | none => cases c.rd x <;> trivial
    | slice => cases c.rd x <;> trivial
    | str hu =>
      cases h : c.rd x with
      | str s l =>
        rw [h] at hv
        generalize hx : ρ x = y at hv
        cases hv with
        | str _ _ hsl =>
          simp only
          cases hb1 : Nat.ble (n + 1) l with
          | false => trivial
          | true =>
            have hb1 := Nat.le_of_ble_eq_true hb1
            simp only [cond_true]
            refine .value (v' := .int .u8 (Int.ofNat (sGet s l n))) ?_ (.int _ _) hR
            simp only [execOp, ho, hx, hk]
            refine run_v ?_
            simp only [Instr.index, asIntOf, Sem.run_bind, Sem.run_pure, Result.andThen, run_underlying' hu]
            rw [if_pos (by simp), show (Int.ofNat n).toNat = n from rfl, strB_getElem? (by omega)]
            simp only [toNat_ofNat]
            rfl
      | _ => trivial
    | array m e ie hu hie =>
      cases h : c.rd x with
      | agg l =>
        rw [h] at hv
        generalize hx : ρ x = y at hv
        cases hv with
        | agg _ cs h1 h2 =>
          simp only
          cases hb1 : Nat.ble (n + 1) m with
          | false => trivial
          | true =>
            have hb1 := Nat.le_of_ble_eq_true hb1
            simp only [cond_true]
            rcases partL_form (lay P e) l (n * P.cellsOf e) with ⟨v, hp⟩ | ⟨s, hp⟩
            · rw [hp]
              obtain ⟨z, hz, hvz⟩ := run_partL (P := P) (w := w) h1 h2 hp
              refine .value ?_ hvz hR
              simp only [execOp, ho, hx, hk]
              refine run_v ?_
              simp only [Instr.index, asIntOf, Sem.run_bind, Sem.run_pure, Result.andThen, run_underlying' hu]
              rw [if_pos (by constructor <;> (simp; try omega))]
              simp only [Sem.run_bind, run_sizeOf' hie, Result.andThen]
              exact hz
            · rw [hp]; trivial
      | _ => trivial
/-! ### Slicing -/
theorem run_sliceBound {x : Value} {k : IntKind} {n y : Nat} (code : BoundsCode) (hx : x = .int k (Int.ofNat n)) (hn : n ≤ y) : (Instr.sliceBound x y code).run P w = .ok n w := by
  subst hx
  simp only [Instr.sliceBound, asIntOf, Sem.run_bind, Sem.run_pure, Result.andThen]
  rw [if_pos (by constructor <;> (simp; try omega))]
  rfl
theorem bnd_ok {q : Option Operand} {d n : Nat} (h : bnd q d c = some n) (hv : ∀ x, q = some x → VR φ (c.rd x) (ρ x)) : (q = none ∧ n = d) ∨ ∃ x k, q = some x ∧ ρ x = .int k (Int.ofNat n) := by
  cases q with
  | none => simp [bnd] at h; exact .inl ⟨rfl, h.symm⟩
  | some x =>
    simp only [bnd] at h
    obtain ⟨k, hk⟩ := natV_ok h (hv x rfl)
    exact .inr ⟨x, k, rfl, hk⟩
theorem run_sliceBounds {isS : Bool} {len cap a b m : Nat} {lo hi mx : Option Operand} (hmx : okMx hi mx = true) (h1 : bnd mx cap c = some m) (h2 : bnd lo 0 c = some a) (h3 : bnd hi len c = some b)
    (hab : a ≤ b) (hbm : b ≤ m) (hm : m ≤ cap) (v1 : ∀ x, mx = some x → VR φ (c.rd x) (ρ x)) (v2 : ∀ x, lo = some x → VR φ (c.rd x) (ρ x)) (v3 : ∀ x, hi = some x → VR φ (c.rd x) (ρ x)) :
    (Instr.sliceBounds isS len cap (lo.map ρ) (hi.map ρ) (mx.map ρ)).run P w = .ok (a, b, m) w := by
  unfold Instr.sliceBounds
  rcases bnd_ok h1 v1 with ⟨rfl, rfl⟩ | ⟨x1, k1, rfl, e1⟩
  · rcases bnd_ok h3 v3 with ⟨rfl, rfl⟩ | ⟨x3, k3, rfl, e3⟩
    · rcases bnd_ok h2 v2 with ⟨rfl, rfl⟩ | ⟨x2, k2, rfl, e2⟩
      · simp only [Option.map_none, Sem.run_bind, Sem.run_pure, Result.andThen]
      · simp only [Option.map_none, Option.map_some, Sem.run_bind, Sem.run_pure, Result.andThen, run_sliceBound _ e2 hab]
    · rcases bnd_ok h2 v2 with ⟨rfl, rfl⟩ | ⟨x2, k2, rfl, e2⟩
      · simp only [Option.map_none, Option.map_some, Sem.run_bind, Sem.run_pure, Result.andThen, run_sliceBound _ e3 hbm]
      · simp only [Option.map_none, Option.map_some, Sem.run_bind, Sem.run_pure, Result.andThen, run_sliceBound _ e3 hbm, run_sliceBound _ e2 hab]
  · rcases bnd_ok h3 v3 with ⟨rfl, rfl⟩ | ⟨x3, k3, rfl, e3⟩
    · simp [okMx] at hmx
    · rcases bnd_ok h2 v2 with ⟨rfl, rfl⟩ | ⟨x2, k2, rfl, e2⟩
      · simp only [Option.map_none, Option.map_some, Sem.run_bind, Sem.run_pure, Result.andThen, run_sliceBound _ e1 hm, run_sliceBound _ e3 hbm]
      · simp only [Option.map_some, Sem.run_bind, Sem.run_pure, Result.andThen, run_sliceBound _ e1 hm, run_sliceBound _ e3 hbm, run_sliceBound _ e2 hab]
end
end Go.X

namespace Go.X
section
variable {P : Program} {φ : Ph} {H : Nat → Obj} {w : World} {ρ : Operand → Value} {o : Oper} {c : Cx}
theorem and2 {a b : Bool} (h : (a && b) = true) : a = true ∧ b = true := by simpa using h
theorem known_le {b B off sz : Nat} (hs : Sub (c.hp) H) (hR : RelH P φ H w) (hφ : φ b = some (B, off, sz)) : known (c.hp b) ≤ sz := by
  cases hob : c.hp b with
  | cells vs e hi =>
    have hb := sub_ne hs hob (by simp)
    have := cell_of hR (by rw [hb]; simp) hφ
    rw [hb] at this
    obtain ⟨_, _, _, h3, _⟩ := this
    simpa [known, lenL_eq] using h3
  | bytes s l e hi =>
    have hb := sub_ne hs hob (by simp)
    have := cell_of hR (by rw [hb]; simp) hφ
    rw [hb] at this
    obtain ⟨_, _, _, _, h3, _⟩ := this
    exact h3
  | _ => simp [known]
theorem some_slice {q : Option Operand} : (∀ x, q = some x → VR φ (c.rd x) (ρ x)) ↔ (∀ x ∈ q.toArray.toList, VR φ (c.rd x) (ρ x)) := by
  cases q <;> simp
theorem sliceS_form (s l : Nat) (lo hi mx : Option Operand) : (∃ e, sliceS s l lo hi mx c = .bad e) ∨ ∃ a b, mx = none ∧ bnd lo 0 c = some a ∧ bnd hi l c = some b ∧ a ≤ b ∧ b ≤ l ∧ sliceS s l lo hi mx c = .val (.str (sSub s l a b) (b - a)) := by
  unfold sliceS
  cases mx with
  | some x => exact .inl ⟨_, rfl⟩
  | none =>
    cases h1 : bnd lo 0 c with
    | none => exact .inl ⟨_, rfl⟩
    | some a =>
      cases h2 : bnd hi l c with
      | none => exact .inl ⟨_, rfl⟩
      | some b =>
        simp only
        cases h3 : Nat.ble a b with
        | false => exact .inl ⟨_, rfl⟩
        | true =>
          cases h4 : Nat.ble b l with
          | false => exact .inl ⟨_, rfl⟩
          | true => exact .inr ⟨a, b, by simp, by simp, by simp, Nat.le_of_ble_eq_true h3, Nat.le_of_ble_eq_true h4, by simp⟩
theorem sliceE_form (bl q len cap es : Nat) (lo hi mx : Option Operand) : (∃ e, sliceE bl q len cap es lo hi mx c = .bad e) ∨
    ∃ m a b, bnd mx cap c = some m ∧ bnd lo 0 c = some a ∧ bnd hi len c = some b ∧ a ≤ b ∧ b ≤ m ∧ m ≤ cap ∧ sliceE bl q len cap es lo hi mx c = .val (.slc bl (q + a * es) (b - a) (m - a) es true) := by
  unfold sliceE
  cases h0 : bnd mx cap c with
  | none => exact .inl ⟨_, rfl⟩
  | some m =>
    cases h1 : bnd lo 0 c with
    | none => exact .inl ⟨_, rfl⟩
    | some a =>
      cases h2 : bnd hi len c with
      | none => exact .inl ⟨_, rfl⟩
      | some b =>
        simp only
        cases h3 : (Nat.ble a b && Nat.ble b m && Nat.ble m cap) with
        | false => exact .inl ⟨_, rfl⟩
        | true =>
          obtain ⟨h4, h5⟩ := and2 h3
          obtain ⟨h6, h7⟩ := and2 h4
          exact .inr ⟨m, a, b, by simp, by simp, by simp, Nat.le_of_ble_eq_true h6, Nat.le_of_ble_eq_true h7, Nat.le_of_ble_eq_true h5, by simp⟩
theorem run_slice_slice {t e : TypeId} {i : TypeInfo} (hu : P.underlying t = some (.slice e)) (hi : P.info? e = some i) {A : Option Addr} {len cap a b m : Nat} {lo hi' mx : Option Operand} {x : Operand}
    (ho : o.op = .slice t x lo hi' mx) (hx : ρ x = .slice A len cap) (hb : (Instr.sliceBounds true len cap (lo.map ρ) (hi'.map ρ) (mx.map ρ)).run P w = .ok (a, b, m) w) :
    (execOp ρ o).run P w = .ok (.value (.slice (if m = a then A else A.map (·.add (a * P.cellsOf e))) (b - a) (m - a))) w := by
  simp only [execOp, ho, hx]
  refine run_v ?_
  simp only [Instr.sliceAt, Sem.run_bind, run_underlying' hu, Result.andThen, Instr.slice, hb, run_sizeOf' hi, Sem.run_pure]
theorem effSlice_ok {t : TypeId} {x : Operand} {lo hi mx : Option Operand} (hs : Sub (c.hp) H) (hR : RelH P φ H w) (ho : o.op = .slice t x lo hi mx) (hv : VR φ (c.rd x) (ρ x))
    (v1 : ∀ x, mx = some x → VR φ (c.rd x) (ρ x)) (v2 : ∀ x, lo = some x → VR φ (c.rd x) (ρ x)) (v3 : ∀ x, hi = some x → VR φ (c.rd x) (ρ x)) :
    EffOk P φ H c.nx w (effSlice t x lo hi mx P c) ((execOp ρ o).run P w) := by
  unfold effSlice
  cases hmx : okMx hi mx with
  | false => trivial
  | true =>
    simp only
    have hsq := sqOf_ok P t
    generalize sqOf P t = sq at hsq
    cases h : c.rd x with
    | str s l =>
      cases hsq <;> (try trivial)
      rename_i hu
      rw [h] at hv
      generalize hx : ρ x = y at hv
      cases hv with
      | str _ _ hsl =>
        simp only
        rcases sliceS_form (c := c) s l lo hi mx with ⟨e, he⟩ | ⟨a, b, rfl, ha, hb, hab, hbl, he⟩
        · rw [he]; trivial
        · rw [he]
          have hrun := run_sliceBounds (P := P) (w := w) (ρ := ρ) (isS := false) (len := l) (cap := l) (mx := none) hmx (by simp [bnd]) ha hb hab hbl (Nat.le_refl _) v1 v2 v3
          refine .value (v' := .string (strB (sSub s l a b) (b - a))) ?_ (.str _ _ (sSub_lt _ _ _ _)) hR
          simp only [execOp, ho, hx]
          refine run_v ?_
          simp only [Option.map_none] at hrun
          simp only [Instr.sliceAt, Sem.run_bind, run_underlying' hu, Result.andThen, Instr.slice, Option.map_none, Option.isSome_none, Bool.false_eq_true, if_false, strB_size, hrun, Sem.run_pure, strB_extract hab hbl]
    | nils =>
      cases hsq <;> (try trivial)
      rename_i e ie hu hie
      rw [h] at hv
      generalize hx : ρ x = y at hv
      cases hv
      simp only [slice0]
      cases h0 : bnd mx 0 c with
      | none => trivial
      | some m =>
        cases h1 : bnd lo 0 c with
        | none => cases m <;> trivial
        | some a =>
          cases h2 : bnd hi 0 c with
          | none => cases m <;> cases a <;> trivial
          | some b =>
            cases m with
            | succ m => trivial
            | zero =>
              cases a with
              | succ a => trivial
              | zero =>
                cases b with
                | succ b => trivial
                | zero =>
                  have hrun := run_sliceBounds (P := P) (w := w) (ρ := ρ) (isS := true) hmx h0 h1 h2 (Nat.le_refl _) (Nat.le_refl _) (Nat.le_refl _) v1 v2 v3
                  refine .value (v' := .slice none 0 0) ?_ .nils hR
                  rw [run_slice_slice hu hie ho hx hrun]
                  rfl
    | slc bl q len cap es ex =>
      cases hsq <;> (try trivial)
      rename_i e ie hu hie
      simp only
      cases he : Nat.beq es (P.cellsOf e) with
      | false => trivial
      | true =>
        have he := Nat.eq_of_beq_eq_true he
        subst he
        simp only [cond_true]
        rw [h] at hv
        cases ex with
        | true =>
          simp only
          rcases sliceE_form (c := c) bl q len cap (P.cellsOf e) lo hi mx with ⟨e', he'⟩ | ⟨m, a, b, hm, ha, hb, hab, hbm, hmc, he'⟩
          · rw [he']; trivial
          · rw [he']
            have hrun := run_sliceBounds (P := P) (w := w) (ρ := ρ) (isS := true) hmx hm ha hb hab hbm hmc v1 v2 v3
            generalize hx : ρ x = y at hv
            cases hv with
            | slcE _ _ _ _ _ B off sz ao g1 g2 g3 g4 =>
              refine .value (v' := .slice (some ⟨B, if m = a then ao else ao + a * P.cellsOf e, none⟩) (b - a) (m - a)) ?_ ?_ hR
              · rw [run_slice_slice hu hie ho hx hrun]
                split <;> simp [addr_add]
              · refine .slcE _ _ _ _ _ _ _ _ _ g1 (fun hne => ?_) (by omega) ?_
                · rw [if_neg (by omega), g2 (by omega)]; omega
                · have : a * P.cellsOf e + (m - a) * P.cellsOf e = m * P.cellsOf e := by rw [← Nat.add_mul]; congr 1; omega
                  have : m * P.cellsOf e ≤ cap * P.cellsOf e := Nat.mul_le_mul_right _ hmc
                  omega
        | false =>
          simp only
          cases h1s : Nat.ble 1 (P.cellsOf e) with
          | false => trivial
          | true =>
            have h1s := Nat.le_of_ble_eq_true h1s
            simp only [cond_true]
            generalize hx : ρ x = y at hv
            cases hv with
            | slcN _ _ _ _ _ B off sz ao cap' g1 g2 g3 g4 g5 =>
              have hk := known_le hs hR g1
              have mulle : ∀ {a b : Nat}, a * P.cellsOf e ≤ b * P.cellsOf e ↔ a ≤ b := fun {a b} => Nat.mul_le_mul_right_iff (by omega)
              cases mx with
              | some xm =>
                simp only [sliceN]
                cases h0 : natV (c.rd xm) with
                | none => trivial
                | some m =>
                  cases h1 : bnd lo 0 c with
                  | none => trivial
                  | some a =>
                    cases h2 : bnd hi len c with
                    | none => trivial
                    | some b =>
                      simp only
                      cases h3 : (Nat.ble a b && Nat.ble b m && (Nat.ble m len || Nat.ble (q + m * P.cellsOf e) (known (c.hp bl)))) with
                      | false => trivial
                      | true =>
                        obtain ⟨h4, h5⟩ := and2 h3
                        obtain ⟨h6, h7⟩ := and2 h4
                        have h6 := Nat.le_of_ble_eq_true h6
                        have h7 := Nat.le_of_ble_eq_true h7
                        have hmc : m ≤ cap' := by
                          rcases Bool.or_eq_true _ _ ▸ h5 with h8 | h8
                          · have := Nat.le_of_ble_eq_true h8; omega
                          · have := Nat.le_of_ble_eq_true h8
                            exact mulle.1 (by omega)
                        have hrun := run_sliceBounds (P := P) (w := w) (ρ := ρ) (isS := true) (len := len) (cap := cap') (mx := some xm) hmx (by simpa [bnd] using h0) h1 h2 h6 h7 hmc v1 v2 v3
                        refine .value (v' := .slice (some ⟨B, if m = a then ao else ao + a * P.cellsOf e, none⟩) (b - a) (m - a)) ?_ ?_ hR
                        · rw [run_slice_slice hu hie ho hx hrun]
                          split <;> simp [addr_add]
                        · refine .slcE _ _ _ _ _ _ _ _ _ g1 (fun hne => ?_) (by omega) ?_
                          · rw [if_neg (by omega), g2 (by omega)]; omega
                          · have : a * P.cellsOf e + (m - a) * P.cellsOf e = m * P.cellsOf e := by rw [← Nat.add_mul]; congr 1; omega
                            have : m * P.cellsOf e ≤ cap' * P.cellsOf e := Nat.mul_le_mul_right _ hmc
                            omega
              | none =>
                simp only [sliceN]
                cases h1 : bnd lo 0 c with
                | none => trivial
                | some a =>
                  cases h2 : bnd hi len c with
                  | none => trivial
                  | some b =>
                    simp only
                    cases h3 : (Nat.ble a b && (Nat.ble b len || Nat.ble (q + b * P.cellsOf e) (known (c.hp bl)))) with
                    | false => trivial
                    | true =>
                      obtain ⟨h6, h5⟩ := and2 h3
                      have h6 := Nat.le_of_ble_eq_true h6
                      have hmc : b ≤ cap' := by
                        rcases Bool.or_eq_true _ _ ▸ h5 with h8 | h8
                        · have := Nat.le_of_ble_eq_true h8; omega
                        · have := Nat.le_of_ble_eq_true h8
                          exact mulle.1 (by omega)
                      have hrun := run_sliceBounds (P := P) (w := w) (ρ := ρ) (isS := true) (len := len) (cap := cap') (mx := none) (m := cap') hmx (by simp [bnd]) h1 h2 h6 hmc (Nat.le_refl _) v1 v2 v3
                      refine .value (v' := .slice (some ⟨B, if cap' = a then ao else ao + a * P.cellsOf e, none⟩) (b - a) (cap' - a)) ?_ ?_ hR
                      · rw [run_slice_slice hu hie ho hx hrun]
                        split <;> simp [addr_add]
                      · refine .slcN _ _ _ _ _ _ _ _ _ _ g1 (fun hne => ?_) (by omega) ?_ g5
                        · rw [if_neg (by omega), g2 (by omega)]; omega
                        · have : a * P.cellsOf e + (cap' - a) * P.cellsOf e = cap' * P.cellsOf e := by rw [← Nat.add_mul]; congr 1; omega
                          omega
    | ptr bl q =>
      cases hsq <;> (try trivial)
      rename_i nn e ie hu hie
      simp only
      have fin : q + nn * P.cellsOf e ≤ known (c.hp bl) → EffOk P φ H c.nx w (sliceE bl q nn nn (P.cellsOf e) lo hi mx c) ((execOp ρ o).run P w) := by
        intro hkn
        rcases sliceE_form (c := c) bl q nn nn (P.cellsOf e) lo hi mx with ⟨e', he'⟩ | ⟨m, a, b, hm, ha, hb, hab, hbm, hmc, he'⟩
        · rw [he']; trivial
        · rw [he']
          have hrun := run_sliceBounds (P := P) (w := w) (ρ := ρ) (isS := false) hmx hm ha hb hab hbm hmc v1 v2 v3
          rw [h] at hv
          generalize hx : ρ x = y at hv
          cases hv with
          | ptr _ _ B off sz g1 =>
            have hk := known_le hs hR g1
            refine .value (v' := .slice (some ⟨B, if m = a then off + q else off + q + a * P.cellsOf e, none⟩) (b - a) (m - a)) ?_ ?_ hR
            · simp only [execOp, ho, hx]
              refine run_v ?_
              simp only [Instr.sliceAt, Sem.run_bind, run_underlying' hu, Result.andThen, Instr.sureAddr, Sem.run_pure, hrun, run_sizeOf' hie]
              split <;> simp [addr_add]
            · refine .slcE _ _ _ _ _ _ _ _ _ g1 (fun hne => ?_) (by omega) ?_
              · rw [if_neg (by omega)]; omega
              · have : a * P.cellsOf e + (m - a) * P.cellsOf e = m * P.cellsOf e := by rw [← Nat.add_mul]; congr 1; omega
                have : m * P.cellsOf e ≤ nn * P.cellsOf e := Nat.mul_le_mul_right _ hmc
                omega
      unfold sliceA
      cases hob : c.hp bl with
      | cells vs e' hi' =>
        simp only
        cases hq : Nat.ble (q + nn * P.cellsOf e) (lenL vs 0) with
        | false => trivial
        | true => exact fin (by rw [hob]; exact Nat.le_of_ble_eq_true hq)
      | bytes s l e' hi' =>
        simp only
        cases hq : Nat.ble (q + nn * P.cellsOf e) l with
        | false => trivial
        | true => exact fin (by rw [hob]; exact Nat.le_of_ble_eq_true hq)
      | _ => trivial
    | _ => trivial
end
end Go.X

namespace Go.X
section
variable {P : Program} {φ : Ph} {H : Nat → Obj} {w : World} {ρ : Operand → Value} {o : Oper} {c : Cx}
theorem isU8_ok {e : TypeId} (h : isU8 P e = true) : ∃ (i : TypeInfo) (z : Value), P.info? e = some i ∧ z.cells = ⟨[.int .u8 0]⟩ ∧ P.cellsOf e = 1 ∧ ∀ w, (zeroValue e).run P w = .ok z w := by
  unfold isU8 isZ8 at h
  split at h
  · rename_i hz
    obtain ⟨i, z, cs, z1, z2, z3, z4, z5, z6, z7, z8⟩ := zeroL_ok hz
    have := z4 (fun _ => none)
    cases this with
    | cons _ x _ xs hx ht =>
      cases ht
      cases hx
      refine ⟨i, z, z1, z3, ?_, z8⟩
      simpa using z7.symm
  · cases h
theorem wrap_nat {n : Nat} (h : n ≤ 140737488355328) : IntKind.i64.wrap (Int.ofNat n) = Int.ofNat n := by
  show IntKind.i64.wrap (n : Int) = (n : Int)
  simp [IntKind.wrap, IntKind.bits, IntKind.signed]; omega
theorem bytesOf_info {e : TypeId} {i : TypeInfo} (h : P.info? e = some i) : P.bytesOf e = i.bytes := by simp [Program.bytesOf, h]
theorem run_makeSlice' {t e : TypeId} {i : TypeInfo} {z : Value} {cs : List Value} {n m : Nat} {k k' : IntKind} (hu : P.underlying t = some (.slice e)) (hi : P.info? e = some i) (hz : ∀ w, (zeroValue e).run P w = .ok z w)
    (hc : z.cells = ⟨cs⟩) (hlen : cs.length = P.cellsOf e) (hnm : n ≤ m) (hm : m ≤ 140737488355328) (hb : m * P.bytesOf e ≤ 140737488355328) :
    (Instr.makeSlice t (.int k (Int.ofNat n)) (.int k' (Int.ofNat m))).run P w = .ok (.slice (some ⟨w.heap.size, 0, none⟩) n m) (World.add w (.cells (zerosA ⟨cs⟩ (m * cs.length)) e (0, 0))) := by
  rw [bytesOf_info hi] at hb
  have hb' : ¬ ((i.bytes : Int) * Int.ofNat m > 2 ^ 48) := by
    show ¬ ((i.bytes : Int) * (m : Int) > 2 ^ 48)
    rw [← Int.natCast_mul, Nat.mul_comm]; omega
  simp only [Instr.makeSlice, Sem.run_bind, run_underlying' hu, Result.andThen, asInt, asIntOf, Sem.run_pure, run_typeInfo' hi, wrap_nat hm, wrap_nat (Nat.le_trans hnm hm)]
  rw [if_neg (by
    have h1 : ¬ (Int.ofNat m < 0) := by show ¬ ((m : Int) < 0); omega
    have h2 : ¬ (Int.ofNat n < 0) := by show ¬ ((n : Int) < 0); omega
    have h3 : ¬ (Int.ofNat n > Int.ofNat m) := by show ¬ ((n : Int) > (m : Int)); omega
    simp only [h1, h2, h3, hb', decide_false, Bool.or_self, Bool.false_eq_true, not_false_eq_true])]
  simp only [Sem.run_bind, run_askRoom, Result.andThen, run_sizeOf' hi]
  rw [show (Int.ofNat m).toNat = m from rfl, show (Int.ofNat n).toNat = n from rfl, hlen]
  by_cases h0 : m * P.cellsOf e = 0
  · rw [if_pos h0]
    simp only [Sem.run_bind, Sem.run_pure, Result.andThen]
    have e1 : (Array.range (m * P.cellsOf e)).map ((#[] : Array Value)[· % (#[] : Array Value).size]!) = zerosA ⟨cs⟩ (m * P.cellsOf e) := by
      rw [h0]; simp [zerosA]
    rw [e1]
    simp only [Sem.run_bind, newRow, run_newObj, Result.andThen, Sem.run_pure]
    rfl
  · rw [if_neg h0]
    simp only [Sem.run_bind, hz, Sem.run_pure, Result.andThen, hc]
    have e1 : (Array.range (m * P.cellsOf e)).map ((⟨cs⟩ : Array Value)[· % (⟨cs⟩ : Array Value).size]!) = zerosA ⟨cs⟩ (m * P.cellsOf e) := rfl
    rw [e1]
    simp only [Sem.run_bind, newRow, run_newObj, Result.andThen, Sem.run_pure]
    rfl
theorem sGet_zero' (l i : Nat) : sGet 0 l i = 0 := by simp [sGet]
/-- a row of zeros, as a number -/
theorem zeros8_ok (n : Nat) (e : TypeId) (off : Nat) : BytesR 0 n e 0 (some (.cells (zerosA ⟨[.int .u8 0]⟩ n) e (0, 0))) 0 n := by
  refine ⟨_, _, rfl, by simp [zerosA_size], Nat.le_refl _, pow256_pos _, ?_, ?_, .inl rfl, by simp⟩
  · intro i hi
    rw [Nat.zero_add, zerosA_get _ (by simp) n i hi, sGet_zero']
    simp [Nat.mod_one]
  · intro x hx
    obtain ⟨i, hi⟩ := List.mem_iff_getElem?.1 hx
    rw [Array.getElem?_toList] at hi
    have hlt : i < n := by
      rcases Nat.lt_or_ge i n with h | h
      · exact h
      · rw [Array.getElem?_eq_none (by rw [zerosA_size]; exact h)] at hi; cases hi
    rw [zerosA_get _ (by simp) n i hlt] at hi
    simp [Nat.mod_one] at hi
    subst hi; rfl
theorem effMakeSlice_ok {t : TypeId} {l k : Operand} (hn : φ c.nx = none) (ho : o.op = .makeSlice t l k) (hl : VR φ (c.rd l) (ρ l)) (hk : VR φ (c.rd k) (ρ k)) :
    EffOk P φ H c.nx w (effMakeSlice t l k P c) ((execOp ρ o).run P w) := by
  unfold effMakeSlice
  cases hu : P.underlying t with
  | none => trivial
  | some d =>
    cases d with
    | slice e =>
      cases h1 : natV (c.rd l) with
      | none => trivial
      | some n =>
        cases h2 : natV (c.rd k) with
        | none => trivial
        | some m =>
          simp only
          cases h3 : (Nat.ble n m && Nat.ble m 140737488355328 && Nat.ble (m * P.bytesOf e) 140737488355328) with
          | false => trivial
          | true =>
            obtain ⟨h4, h5⟩ := and2 h3
            obtain ⟨h6, h7⟩ := and2 h4
            have h5 := Nat.le_of_ble_eq_true h5
            have h6 := Nat.le_of_ble_eq_true h6
            have h7 := Nat.le_of_ble_eq_true h7
            simp only [cond_true]
            obtain ⟨k1, e1⟩ := natV_ok h1 hl
            obtain ⟨k2, e2⟩ := natV_ok h2 hk
            cases h8 : isU8 P e with
            | true =>
              obtain ⟨i, z, z1, z2, z3, z4⟩ := isU8_ok h8
              simp only
              have hrun := run_makeSlice' (w := w) (k := k1) (k' := k2) hu z1 z4 z2 (by rw [z3]; rfl) h6 h7 h5
              simp only [List.length_singleton, Nat.mul_one] at hrun
              refine ⟨.slice (some ⟨w.heap.size, 0, none⟩) n m, w, _, 0, m, .inl ?_, rfl, rfl, rfl, rfl, .slcE _ _ _ _ _ _ _ _ _ (Ph.set_same _ _ _) (fun _ => rfl) h6 (by omega), zeros8_ok m e 0, by intro m since seen last hh; cases hh⟩
              simp only [execOp, ho, e1, e2]
              exact run_v hrun
            | false =>
              simp only
              cases hz : zeroL P e with
              | none => trivial
              | some zl =>
                obtain ⟨i, z, cs, z1, z2, z3, z4, z5, z6, z7, z8⟩ := zeroL_ok hz
                simp only
                have hrun := run_makeSlice' (w := w) (k := k1) (k' := k2) hu z1 z8 z3 z6 h6 h7 h5
                obtain ⟨q1, q2⟩ := zerosA_ok (z4 φ) z5 m
                have hlen : (zerosA ⟨cs⟩ (m * cs.length)).toList.length = m * P.cellsOf e := by rw [Array.length_toList, zerosA_size, z6]
                refine new_row (w2 := w) (v' := .slice (some ⟨w.heap.size, 0, none⟩) n m) hn q1 q2 (.inl ?_) rfl rfl rfl rfl ?_
                · simp only [execOp, ho, e1, e2]
                  exact run_v hrun
                · exact .slcE _ _ _ _ _ _ _ _ _ (Ph.set_same _ _ _) (fun _ => rfl) h6 (by omega)
    | _ => trivial
theorem mapTy_ok {t kt et : TypeId} (h : mapTy P t = some (kt, et)) : P.underlying t = some (.map kt et) := by
  unfold mapTy at h
  split at h
  · rename_i k e hu
    cases hk : okKt P k with
    | false => rw [hk] at h; cases h
    | true => rw [hk] at h; cases h; exact hu
  · cases h
theorem new_map {t kt et : TypeId} {r : Result Next} (hr : r = .ok (.value (.map (some w.heap.size))) (World.add w (.map #[] 0))) (_ : mapTy P t = some (kt, et)) :
    EffOk P φ H c.nx w (.new (.map kt [] 0) (.map c.nx)) r := by
  refine ⟨_, w, _, 0, 0, .inl hr, rfl, rfl, rfl, rfl, .map _ _ _ (Ph.set_same _ _ _), ⟨rfl, #[], [], rfl, List.Perm.refl _, .nil, by simp, .nil, by simp, by simp⟩, by intro m since seen last hh; cases hh⟩
theorem eMap_ok {C : Cfg} (hC : C.P = P) {t : TypeId} {r : Option Operand} (ho : o.op = .makeMap t r) (hv : ∀ x, r = some x → VR φ (c.rd x) (ρ x)) :
    EffOk P φ H c.nx w (eMap t r C c) ((execOp ρ o).run P w) := by
  subst hC
  cases r with
  | none =>
    simp only [eMap, eMap0]
    cases hm : mapTy C.P t with
    | none => trivial
    | some ke =>
      obtain ⟨kt, et⟩ := ke
      simp only
      refine new_map ?_ hm
      simp only [execOp, ho]
      refine run_v ?_
      simp only [Option.map_none, Instr.makeMap, Sem.run_bind, run_newObj, Result.andThen, Sem.run_pure]
      rfl
  | some x =>
    simp only [eMap, eMap1]
    cases hm : mapTy C.P t with
    | none => trivial
    | some ke =>
      obtain ⟨kt, et⟩ := ke
      cases h : c.rd x with
      | int k n =>
        have hvx := hv x rfl
        rw [h] at hvx
        generalize hx : ρ x = y at hvx
        cases hvx
        simp only
        refine new_map ?_ hm
        simp only [execOp, ho]
        refine run_v ?_
        simp only [Option.map_some, Instr.makeMap, hx, Sem.run_bind, run_underlying' (mapTy_ok hm), asInt, asIntOf, run_newObj, Result.andThen, Sem.run_pure]
        rfl
      | _ => trivial
/-! ### len, cap, min, max -/
theorem run_builtin {b : Builtin} {q : Call} (ho : o.op = .call q) (hq : q.callee = .builtin b)
    {r : Result Next} (hb : (builtin b q.argTypes o.type (q.args.map fun | .const _ => true | _ => false) (q.args.map ρ)).run P w = r) : (execOp ρ o).run P w = r := by
  simp only [execOp, ho, Sem.run_bind, resolve, hq, Sem.run_pure, Result.andThen, invoke]
  exact hb
end
end Go.X

namespace Go.X
section
variable {P : Program} {φ : Ph} {H : Nat → Obj} {w : World} {ρ : Operand → Value} {o : Oper} {c : Cx}
def notRow : Go.Obj → Bool | .cells .. => false | _ => true
theorem run_getObj' {R : Nat} {g : Go.Obj} (h : w.heap[R]? = some g) (hg : notRow g = true) : (getObj R).run P w = .ok g w := by
  cases g <;> first | (cases hg; done) | simp [getObj, Sem.run, h]
theorem run_setObj' {R : Nat} {g : Go.Obj} (g' : Go.Obj) (h : w.heap[R]? = some g) (hg : notRow g = true) : (setObj R g').run P w = .ok () (World.put w R g') := by
  cases g <;> first | (cases hg; done) | simp [setObj, Sem.run, h, World.put]
theorem storeX_form (la : Lay) (b : Nat) (ob : Obj) (q : Nat) (v : V) : (∃ b' ob' u, storeX la b ob q v = .set b' ob' u) ∨ (∃ s, storeX la b ob q v = .bad s) := by
  unfold storeX
  cases la with
  | bad => exact .inr ⟨_, rfl⟩
  | one =>
    cases oneV v with
    | false => exact .inr ⟨_, rfl⟩
    | true => simp only [cond_true]; split <;> first | exact .inl ⟨_, _, _, rfl⟩ | exact .inr ⟨_, rfl⟩
  | agg n =>
    cases v with
    | agg l =>
      simp only
      cases Nat.beq (lenL l 0) n with
      | false => exact .inr ⟨_, rfl⟩
      | true => simp only [cond_true]; split <;> first | exact .inl ⟨_, _, _, rfl⟩ | exact .inr ⟨_, rfl⟩
    | _ => exact .inr ⟨_, rfl⟩
theorem storeX_ne (la : Lay) (b : Nat) (q : Nat) (v : V) {b' : Nat} {ob' : Obj} {u : V} : storeX la b .free q v ≠ .set b' ob' u := by
  unfold storeX
  cases la with
  | bad => simp
  | one => cases oneV v <;> simp [putO]
  | agg n =>
    cases v <;> simp
    rename_i l
    cases Nat.beq (lenL l 0) n <;> simp [putO]
theorem effStore_ok {t : TypeId} {a x : Operand} (hs : Sub (c.hp) H) (hR : RelH P φ H w) (ho : o.op = .store t a x) (ha : VR φ (c.rd a) (ρ a)) (hx : VR φ (c.rd x) (ρ x)) :
    EffOk P φ H c.nx w (effStore t a x P c) ((execOp ρ o).run P w) := by
  unfold effStore
  cases h : c.rd a with
  | ptr b q =>
    simp only
    rcases storeX_form (lay P t) b (c.hp b) q (c.rd x) with ⟨b', ob', u, he⟩ | ⟨s, he⟩
    · rw [he]
      rw [h] at ha
      generalize hy : ρ a = y at ha
      cases ha with
      | ptr _ _ B off sz g1 =>
        have hne : c.hp b ≠ .free := by intro e; rw [e] at he; exact storeX_ne _ _ _ _ he
        rw [← sub_ne hs rfl hne] at he
        obtain ⟨e1, e2, w', h1, h2, h3⟩ := run_storeX hR g1 hx he
        subst e1; subst e2
        refine ⟨undef, w', .inr ⟨?_, rfl⟩, ?_, h2, h3⟩
        · simp only [execOp, ho]
          refine run_u ?_
          simp only [Instr.storeAt, hy, Instr.sureAddr, Sem.run_bind, Sem.run_pure, Result.andThen]
          exact h1
        · exact .tup _ _ .nil
    · rw [he]; trivial
  | _ => trivial
/-! ### len, cap -/
theorem MapR.size {kt : TypeId} {es : List Ent} {cl : Nat} {L : Array MapEntry} (h : MapR P φ kt es cl (some (.map L cl))) : L.size = es.length := by
  obtain ⟨L', l, h1, h2, h3, _⟩ := h
  cases h1
  have : ∀ {a : List Ent} {b : List MapEntry}, All2 (EntR φ) a b → b.length = a.length := by
    intro a b hab
    induction hab with
    | nil => rfl
    | cons _ _ _ _ _ _ ih => simp [ih]
  have e1 := this h3
  have e2 := h2.length_eq
  simp at e2
  omega
theorem map_of {r R sz : Nat} (hs : Sub (c.hp) H) (hR : RelH P φ H w) {kt : TypeId} {es : List Ent} {cl : Nat} (hb : c.hp r = .map kt es cl) (hφ : φ r = some (R, 0, sz)) :
    ∃ L, w.heap[R]? = some (.map L cl) ∧ MapR P φ kt es cl (some (.map L cl)) := by
  have hb := sub_ne hs hb (by simp)
  have := cell_of hR (by rw [hb]; simp) hφ
  rw [hb] at this
  obtain ⟨_, h⟩ := this
  obtain ⟨L, l, h1, h2⟩ := h
  exact ⟨L, h1, L, l, rfl, h2⟩
theorem args_one {α : Type} {a : Array α} {x : α} (h : a.toList = [x]) : a = #[x] := by rw [← h]
theorem first_type {a : Array TypeId} {t : TypeId} {ts : List TypeId} (h : a.toList = t :: ts) : a[0]? = some t := by rw [← Array.getElem?_toList, h]; rfl
theorem effLen_ok {q : Call} {x : Operand} (hs : Sub (c.hp) H) (hR : RelH P φ H w) (ho : o.op = .call q) (hq : q.callee = .builtin .len) (ha : q.args.toList = [x]) (hx : VR φ (c.rd x) (ρ x)) :
    EffOk P φ H c.nx w (effLen q.argTypes.toList x P c) ((execOp ρ o).run P w) := by
  have hargs := args_one ha
  unfold effLen
  cases ht : q.argTypes.toList with
  | nil => trivial
  | cons t ts =>
    have h0 := first_type ht
    simp only
    have hrun : ∀ {n : Nat}, (Builtin.len_ q.argTypes o.type #[ρ x]).run P w = .ok (goInt n) w → EffOk P φ H c.nx w (.val (.int .i64 (Int.ofNat n))) ((execOp ρ o).run P w) := by
      intro n hn
      refine .value (v' := goInt n) ?_ (.int _ _) hR
      refine run_builtin ho hq ?_
      rw [hargs]
      simp only [builtin, Sem.run_bind, List.map_toArray, List.map_cons, List.map_nil, hn, Result.andThen, Sem.run_pure]
    generalize hy : ρ x = y at hx hrun
    cases hu : P.underlying t with
    | none => trivial
    | some d =>
      have hx0 : (#[y] : Array Value)[0]? = some y := rfl
      cases d with
      | string =>
        cases h : c.rd x <;> (try trivial)
        rw [h] at hx
        cases hx with
        | str s l hsl =>
          refine hrun ?_
          simp only [Builtin.len_, h0, hx0, Sem.run_bind, run_underlying' hu, Result.andThen, strB_size]
          rfl
      | array n e =>
        refine hrun ?_
        simp only [Builtin.len_, h0, hx0, Sem.run_bind, run_underlying' hu, Result.andThen]
        rfl
      | slice e =>
        cases h : c.rd x <;> (try trivial)
        all_goals
          rw [h] at hx
          cases hx
          all_goals
            refine hrun ?_
            simp only [Builtin.len_, h0, hx0, Sem.run_bind, run_underlying' hu, Result.andThen]
            rfl
      | map k e =>
        cases h : c.rd x <;> (try trivial)
        · rename_i r
          rw [h] at hx
          cases hx with
          | map _ R sz g1 =>
            simp only [lenX]
            cases hob : c.hp r <;> (try trivial)
            rename_i kt es cl
            obtain ⟨L, m1, m2⟩ := map_of hs hR hob g1
            simp only
            rw [lenL_eq, Nat.zero_add, ← m2.size]
            refine hrun ?_
            simp only [Builtin.len_, h0, hx0, Sem.run_bind, run_underlying' hu, Result.andThen, run_getObj' m1 rfl]
            rfl
        · rw [h] at hx
          cases hx
          refine hrun ?_
          simp only [Builtin.len_, h0, hx0, Sem.run_bind, run_underlying' hu, Result.andThen]
          rfl
      | _ => trivial
theorem effCap_ok {q : Call} {x : Operand} (hR : RelH P φ H w) (ho : o.op = .call q) (hq : q.callee = .builtin .cap) (ha : q.args.toList = [x]) (hx : VR φ (c.rd x) (ρ x)) :
    EffOk P φ H c.nx w (effCap q.argTypes.toList x P c) ((execOp ρ o).run P w) := by
  have hargs := args_one ha
  unfold effCap
  cases ht : q.argTypes.toList with
  | nil => trivial
  | cons t ts =>
    have h0 := first_type ht
    simp only
    have hrun : ∀ {n : Int} {v : V}, (Builtin.cap_ q.argTypes o.type #[ρ x]).run P w = .ok (goInt n) w → VR φ v (goInt n) → EffOk P φ H c.nx w (.val v) ((execOp ρ o).run P w) := by
      intro n v hn hv
      refine .value (v' := goInt n) ?_ hv hR
      refine run_builtin ho hq ?_
      rw [hargs]
      simp only [builtin, Sem.run_bind, List.map_toArray, List.map_cons, List.map_nil, hn, Result.andThen, Sem.run_pure]
    generalize hy : ρ x = y at hx hrun
    cases hu : P.underlying t with
    | none => trivial
    | some d =>
      have hx0 : (#[y] : Array Value)[0]? = some y := rfl
      cases d with
      | array n e =>
        refine hrun ?_ (.int _ _)
        simp only [Builtin.cap_, h0, hx0, Sem.run_bind, run_underlying' hu, Result.andThen]
        rfl
      | slice e =>
        cases h : c.rd x <;> (try trivial)
        · rename_i b q' len cap es ex
          rw [h] at hx
          cases ex with
          | true =>
            cases hx
            refine hrun ?_ (.int _ _)
            simp only [Builtin.cap_, h0, hx0, Sem.run_bind, run_underlying' hu, Result.andThen]
            rfl
          | false =>
            simp only [capX]
            cases hq1 : Nat.ble 1 es with
            | false => trivial
            | true =>
              cases hx with
              | slcN _ _ _ _ _ B off sz ao cap' g1 g2 g3 g4 g5 =>
                refine hrun ?_ (.capv _ _ _ _ _ _ _ g1 g4 g5)
                simp only [Builtin.cap_, h0, hx0, Sem.run_bind, run_underlying' hu, Result.andThen]
                rfl
        · rw [h] at hx
          cases hx
          refine hrun ?_ (.int _ _)
          simp only [Builtin.cap_, h0, hx0, Sem.run_bind, run_underlying' hu, Result.andThen]
          rfl
      | _ => trivial
/-! ### min, max -/
theorem minmax_ok (mx : Bool) : ∀ (l : List V) (xs : List Value) (v : V) (x : Value) (k : IntKind) (n : Int), VRs φ l xs → VR φ v x → minmax mx v l = some (.int k n) →
    (xs.foldlM (match mx with | true => Builtin.max2 | false => Builtin.min2) x).run P w = .ok (.int k n) w
  | [], _, v, x, k, n, .nil, hv, h => by
    simp only [minmax, Option.some.injEq] at h; subst h; cases hv
    simp [Sem.run_pure]
  | u :: l, _, v, x, k, n, .cons _ y _ ys hu hl, hv, h => by
    cases v with
    | int k1 a =>
      cases u with
      | int k2 b =>
        cases hv; cases hu
        simp only [List.foldlM_cons, Sem.run_bind]
        cases mx with
        | true =>
          simp only [minmax] at h
          simp only [Builtin.max2, Sem.run_pure, Result.andThen]
          refine minmax_ok true l ys _ _ k n hl ?_ h
          rw [iltb_eq]
          by_cases hab : a < b
          · simp only [hab, decide_true, cond_true, if_true]; exact .int _ _
          · simp only [hab, decide_false, cond_false, if_false]; exact .int _ _
        | false =>
          simp only [minmax] at h
          simp only [Builtin.min2, Sem.run_pure, Result.andThen]
          refine minmax_ok false l ys _ _ k n hl ?_ h
          rw [iltb_eq]
          by_cases hab : b < a
          · simp only [hab, decide_true, cond_true, if_true]; exact .int _ _
          · simp only [hab, decide_false, cond_false, if_false]; exact .int _ _
      | _ => simp [minmax] at h
    | _ => simp [minmax] at h
theorem effMM_ok {q : Call} (mx : Bool) (hR : RelH P φ H w) (ho : o.op = .call q) (hq : q.callee = .builtin (match mx with | true => .max | false => .min)) (hx : ∀ x ∈ q.args.toList, VR φ (c.rd x) (ρ x)) :
    EffOk P φ H c.nx w (effMM mx q.args.toList P c) ((execOp ρ o).run P w) := by
  unfold effMM
  have hr := rds_ok hx
  cases h : rds q.args.toList c with
  | nil => trivial
  | cons v r =>
    rw [h] at hr
    simp only
    cases hm : minmax mx v r with
    | none => trivial
    | some u =>
      cases u with
      | int k n =>
        simp only
        generalize hxs : q.args.toList.map ρ = xs at hr
        cases hr with
        | cons _ x _ xs hv hl =>
          have := minmax_ok (P := P) (w := w) mx r xs v x k n hl hv hm
          refine .value (v' := .int k n) ?_ (.int _ _) hR
          refine run_builtin ho hq ?_
          have e1 : (q.args.map ρ).toList = x :: xs := by rw [Array.toList_map, hxs]
          cases mx with
          | true => simp only [builtin, Builtin.max_, e1, Sem.run_bind, this, Result.andThen, Sem.run_pure]
          | false => simp only [builtin, Builtin.min_, e1, Sem.run_bind, this, Result.andThen, Sem.run_pure]
      | _ => trivial
end
end Go.X

namespace Go.X
/-- what a source is -/
def SrcR (φ : Ph) (es : Nat) : Src → List Value → Prop
  | .bad, _ => False
  | .cells n l, cs => VRs φ l cs ∧ (∀ x ∈ cs, x.oneCell = true) ∧ cs.length = n * es
  | .bytes n s, cs => es = 1 ∧ s < 256 ^ n ∧ cs.length = n ∧ ∀ j, j < n → cs[j]? = some (.int .u8 (Int.ofNat (sGet s n j)))
section
variable {P : Program} {φ : Ph} {H : Nat → Obj} {w : World} {ρ : Operand → Value} {o : Oper} {c : Cx}
theorem bytesOfL_sCells' (s l : Nat) : ∀ (k i a m : Nat), ∃ t, bytesOfL (sCells s l k i) a m = some (t, m + k)
  | 0, _, a, m => ⟨a, rfl⟩
  | k + 1, i, a, m => by
    obtain ⟨t, ht⟩ := bytesOfL_sCells' s l k (i + 1) (sCat a m (sGet s l i)) (m + 1)
    refine ⟨t, ?_⟩
    have hb : Nat.ble (sGet s l i) 255 = true := Nat.ble_eq_true_of_le (by have := ByteR_sGet s l i; omega)
    have : byteV (.int .u8 (Int.ofNat (sGet s l i))) = some (sGet s l i) := by simp only [byteV, hb, cond_true]
    simp only [sCells, bytesOfL, this, ht]
    congr 2; omega
theorem bytesOfL_sCells {s n : Nat} (h : s < 256 ^ n) : bytesOfL (sCells s n n 0) 0 0 = some (s, n) := by
  obtain ⟨t, ht⟩ := bytesOfL_sCells' s n n 0 0 0
  rw [Nat.zero_add] at ht
  obtain ⟨k1, k2, _, k4⟩ := bytesOfL_spec _ 0 0 t n (by simp) ht
  have : t = s := by
    refine bytesL_inj k2 h ?_
    apply List.ext_getElem?
    intro j
    rcases Nat.lt_or_ge j n with hj | hj
    · rw [bytesL_get _ _ _ hj, bytesL_get _ _ _ hj]
      have e1 := k4 j _ (sCells_get s n n 0 j hj)
      rw [Nat.zero_add] at e1
      injection e1 with _ e2
      have e3 : sGet s n j = sGet t n j := Int.ofNat.inj e2
      rw [e3]
    · rw [List.getElem?_eq_none (by rw [bytesL_length]; exact hj), List.getElem?_eq_none (by rw [bytesL_length]; exact hj)]
  rw [ht, this]
theorem SrcR.one {es : Nat} : ∀ {src : Src} {cs : List Value}, SrcR φ es src cs → ∀ x ∈ cs, x.oneCell = true
  | .cells _ _, _, h => h.2.1
  | .bytes _ _, _, h => by
    obtain ⟨_, _, h3, h4⟩ := h
    intro x hx
    obtain ⟨j, hj⟩ := List.mem_iff_getElem?.1 hx
    have : j < _ := (List.getElem?_eq_some_iff.1 hj).1
    rw [h4 j (by omega)] at hj
    cases hj; rfl
theorem SrcR.len {es : Nat} : ∀ {src : Src} {cs : List Value}, SrcR φ es src cs → cs.length = src.n * es
  | .cells _ _, _, h => h.2.2
  | .bytes _ _, _, h => by obtain ⟨h1, _, h3, _⟩ := h; rw [h1, h3]; simp [Src.n]
theorem VRs.of_bytes {s n : Nat} {cs : List Value} (h3 : cs.length = n) (h4 : ∀ j, j < n → cs[j]? = some (.int .u8 (Int.ofNat (sGet s n j)))) : VRs φ (sCells s n n 0) cs := by
  refine VRs.of_get _ _ (by rw [sCells_length, h3]) (fun i v x hv hx => ?_)
  have hi : i < n := by have := (List.getElem?_eq_some_iff.1 hx).1; omega
  rw [h4 i hi] at hx; cases hx
  rw [sCells_get _ _ _ _ _ hi] at hv; cases hv
  rw [Nat.zero_add]
  exact .int _ _
theorem run_putSrc {b B off sz o es : Nat} (hR : RelH P φ H w) (hφ : φ b = some (B, off, sz)) {ob ob' : Obj} (hb : H b = ob) {src : Src} {cs : List Value} (hx : SrcR φ es src cs)
    (hp : putSrc ob o src = some ob') : ∃ w', (storeCells ⟨B, off + o, none⟩ cs).run P w = .ok () w' ∧ RelH P φ (upd H b ob') w' ∧ ∀ nx, Stp φ H nx w φ (upd H b ob') nx w' := by
  cases src with
  | bad => cases hx
  | cells n l => exact run_putO hR hφ hb hx.1 hx.2.1 hp
  | bytes n s =>
    have h1 := hx.one
    obtain ⟨_, h2, h3, h4⟩ := hx
    refine run_putO hR hφ hb (VRs.of_bytes h3 h4) h1 ?_
    cases ob with
    | cells vs e hi => exact hp
    | bytes s' l e hi => simp only [putO, bytesOfL_sCells h2]; exact hp
    | _ => simp [putSrc] at hp
theorem run_load0 (a : Addr) : (loadCells a 0).run P w = .ok #[] w := rfl
theorem cell_heap {w' : World} (e : w'.heap = w.heap) (a : Addr) : w'.cell? a = w.cell? a := by simp [World.cell?, e]
/-- cells that are there are read -/
theorem load_of_cells {w' : World} {B a m : Nat} {cs : List Value} (hl : cs.length = m) (h : ∀ j x, cs[j]? = some x → w'.cell? ⟨B, a + j, none⟩ = some x) :
    (loadCells ⟨B, a, none⟩ m).run P w' = .ok ⟨cs⟩ w' := by
  rw [run_loadCells w' _ m (fun j => (cs[j]?).getD undef) (fun j hj => by
    rw [addr_add]
    have hlt : j < cs.length := by omega
    rw [h j _ (List.getElem?_eq_getElem hlt), List.getElem?_eq_getElem hlt]; rfl)]
  congr 2
  apply List.ext_getElem?
  intro j
  rcases Nat.lt_or_ge j m with hj | hj
  · have hlt : j < cs.length := by omega
    rw [List.getElem?_eq_getElem hlt]
    simp [hj, hlt]
  · rw [List.getElem?_eq_none (by simpa using hj), List.getElem?_eq_none (by omega)]
/-- cells of a slice -/
theorem load_slice {w' : World} {B q l m ao cap off : Nat} {cs : List Value} (g2 : cap ≠ 0 → ao = off + q) (g3 : l ≤ cap) (hl : cs.length = l * m)
    (h : ∀ j x, cs[j]? = some x → w'.cell? ⟨B, off + q + j, none⟩ = some x) : (loadCells ⟨B, ao, none⟩ (l * m)).run P w' = .ok ⟨cs⟩ w' := by
  by_cases h0 : cap = 0
  · have : l = 0 := by omega
    subst this
    rw [Nat.zero_mul] at hl
    rw [Nat.zero_mul, run_load0, List.length_eq_zero_iff.1 hl]
  · rw [g2 h0]
    exact load_of_cells hl h
theorem srcOf_ok {u8 : Bool} {es : Nat} {v : V} {x : Value} {src : Src} (hs : Sub (c.hp) H) (hR : RelH P φ H w) (hv : VR φ v x) (hu : u8 = true → es = 1) (he : srcOf u8 es v c = src) (hb : src ≠ .bad) :
    ∃ cs, (∀ w', w'.heap = w.heap → (Builtin.lenOf x).run P w' = .ok src.n w' ∧ (Builtin.firstCells es src.n x).run P w' = .ok ⟨cs⟩ w') ∧ SrcR φ es src cs := by
  cases v with
  | nils =>
    cases hv
    cases u8 with
    | true => subst he; exact ⟨[], fun _ _ => ⟨rfl, rfl⟩, hu rfl, by simp, rfl, by intro j hj; omega⟩
    | false => subst he; exact ⟨[], fun _ _ => ⟨rfl, rfl⟩, .nil, by simp, by simp⟩
  | str s l =>
    cases u8 with
    | false => exact absurd he.symm hb
    | true =>
      subst he
      cases hv with
      | str _ _ hsl =>
        refine ⟨(bytesL s l).map fun b => .int .u8 b.toNat, fun w' _ => ⟨?_, ?_⟩, hu rfl, hsl, by simp [bytesL_length], ?_⟩
        · simp only [Builtin.lenOf, strB_size]; rfl
        · simp only [Builtin.firstCells, Sem.run_pure]
          have : (strB s l).extract 0 l = strB s l := by
            have := strB_extract (s := s) (l := l) (a := 0) (b := l) (Nat.zero_le _) (Nat.le_refl _)
            rw [this]
            congr 1
            rw [sSub_eq]; simp [Nat.mod_eq_of_lt hsl]
          simp only [srcOf, Src.n, this]
          simp [strB]
        · intro j hj
          simp only [List.getElem?_map, bytesL_get _ _ _ hj, Option.map_some, toNat_ofNat]
          rfl
  | slc b q l cap e2 ex =>
    have main : ∀ {B off sz ao cap' : Nat}, φ b = some (B, off, sz) → (cap' ≠ 0 → ao = off + q) → l ≤ cap' →
        ∃ cs, (∀ w', w'.heap = w.heap → (Builtin.lenOf (.slice (some ⟨B, ao, none⟩) l cap')).run P w' = .ok src.n w' ∧ (Builtin.firstCells es src.n (.slice (some ⟨B, ao, none⟩) l cap')).run P w' = .ok ⟨cs⟩ w') ∧ SrcR φ es src cs := by
      intro B off sz ao cap' g1 g2 g3
      simp only [srcOf] at he
      cases hq : Nat.beq e2 es with
      | false => rw [hq] at he; exact absurd he.symm hb
      | true =>
        rw [hq] at he
        simp only [cond_true] at he
        cases u8 with
        | true =>
          simp only at he
          have hes := hu rfl; subst hes
          cases hg : getB (c.hp b) q l with
          | none => rw [hg] at he; exact absurd he.symm hb
          | some s =>
            rw [hg] at he; subst he
            have hne : c.hp b ≠ .free := by intro e; rw [e] at hg; cases hg
            rw [← sub_ne hs rfl hne] at hg
            obtain ⟨k1, ns, k2, k3, k4⟩ := run_getB hR g1 rfl hg
            refine ⟨ns.map (Value.int .u8), fun w' hw => ⟨rfl, ?_⟩, rfl, k1, by simp [k3], ?_⟩
            · simp only [Builtin.firstCells, Src.n]
              refine load_slice g2 g3 (by simp [k3]) (fun j x hx => ?_)
              rw [cell_heap hw]
              rw [List.getElem?_map] at hx
              cases hn : ns[j]? with
              | none => rw [hn] at hx; cases hx
              | some y => rw [hn] at hx; cases hx; exact (k4 j y hn).2
            · intro j hj
              have hlt : j < ns.length := by omega
              rw [List.getElem?_map, List.getElem?_eq_getElem hlt, Option.map_some]
              rw [(k4 j _ (List.getElem?_eq_getElem hlt)).1]
        | false =>
          simp only at he
          cases hg : getO (c.hp b) q (l * es) with
          | none => rw [hg] at he; exact absurd he.symm hb
          | some r =>
            rw [hg] at he; subst he
            have hne : c.hp b ≠ .free := by intro e; rw [e] at hg; cases hg
            rw [← sub_ne hs rfl hne] at hg
            obtain ⟨cs, k1, k2, k3, k4, k5, k6⟩ := run_getO hR g1 rfl hg
            refine ⟨cs, fun w' hw => ⟨rfl, ?_⟩, k2, k3, k4⟩
            simp only [Builtin.firstCells, Src.n]
            exact load_slice g2 g3 k4 (fun j x hx => by rw [cell_heap hw]; exact k6 j x hx)
    cases hv with
    | slcE _ _ _ _ _ B off sz ao g1 g2 g3 g4 => exact main g1 g2 g3
    | slcN _ _ _ _ _ B off sz ao cap' g1 g2 g3 g4 g5 => exact main g1 g2 g3
  | _ => exact absurd he.symm hb
end
end Go.X

namespace Go.X
section
variable {P : Program} {φ : Ph} {H : Nat → Obj} {w : World} {ρ : Operand → Value} {o : Oper} {c : Cx}
theorem much_ok {n b : Nat} (h : much n b = true) : n ≤ 1099511627776 ∧ n * b ≤ 1099511627776 := by
  obtain ⟨h1, h2⟩ := and2 h
  exact ⟨Nat.le_of_ble_eq_true h1, Nat.le_of_ble_eq_true h2⟩
theorem growBy_le (need : Nat) : ∀ (r c0 : Nat), c0 ≤ 2 * need + 192 → Builtin.growBy need r c0 ≤ 2 * need + 192
  | 0, c0, h => h
  | r + 1, c0, h => by
    unfold Builtin.growBy
    split
    · exact h
    · exact growBy_le need r _ (by omega)
theorem nextslicecap_le {need old : Nat} (h : old < need) : Builtin.nextslicecap need old ≤ 2 * need + 192 := by
  unfold Builtin.nextslicecap
  split
  · omega
  · split
    · omega
    · exact growBy_le _ _ _ (by omega)
theorem nextslicecap_mul {need old b : Nat} (h : old < need) (hm : much need b = true) : ¬ (Builtin.nextslicecap need old * b > 2 ^ 48) := by
  obtain ⟨h1, h2⟩ := much_ok hm
  have := Nat.mul_le_mul_right b (nextslicecap_le h)
  have e1 : (2 * need + 192) * b ≤ (194 * need) * b := Nat.mul_le_mul_right b (by omega)
  have e2 : (194 * need) * b = 194 * (need * b) := by rw [Nat.mul_assoc]
  have e3 : (2 : Nat) ^ 48 = 281474976710656 := by decide
  omega
/-- the row behind what is there -/
theorem zeroCells_eq (z : Array Value) (n : Nat) : Builtin.zeroCells z n = zerosA z (n * z.size) := rfl
theorem arr3 (a b : List Value) (d : Array Value) : ((⟨a⟩ : Array Value) ++ (⟨b⟩ : Array Value) ++ d) = ⟨a ++ b ++ d.toList⟩ := by
  apply Array.ext'; simp
structure SrcRun (P : Program) (w : World) (e : TypeId) (xt : TypeId) (x : Value) (n : Nat) (cs : List Value) : Prop where
  z : (∃ k, P.underlying xt = some (.int k) ∧ ∃ kk, x = .int kk (Int.ofNat n) ∧ n ≤ 1099511627776 ∧ n * P.bytesOf e ≤ 1099511627776 ∧
        ∃ z, (∀ w, (zeroValue e).run P w = .ok z w) ∧ cs = (zerosA z.cells (n * z.cells.size)).toList ∧ z.cells.size = P.cellsOf e) ∨
      ((∃ d, P.underlying xt = some d ∧ ∀ k, d ≠ .int k) ∧ (Builtin.lenOf x).run P w = .ok n w ∧ (Builtin.firstCells (P.cellsOf e) n x).run P w = .ok ⟨cs⟩ w)
theorem wrap_much {n : Nat} (h : n ≤ 1099511627776) : IntKind.i64.wrap (Int.ofNat n) = Int.ofNat n := wrap_nat (by omega)
theorem run_append_fit {ts : Array TypeId} {ty st xt e : TypeId} {i : TypeInfo} {A : Addr} {len cap n : Nat} {x : Value} {cs : List Value} {w' : World} (h0 : ts[0]? = some st) (h1 : ts[1]? = some xt)
    (hu : P.underlying st = some (.slice e)) (hi : P.info? e = some i) (hx : SrcRun P w e xt x n cs) (hle : len + n ≤ cap) (hs : (storeCells (A.add (len * P.cellsOf e)) cs).run P w = .ok () w') :
    (Builtin.append_ ts ty #[.slice (some A) len cap, x]).run P w = .ok (.slice (some A) (len + n) cap) w' := by
  have a0 : (#[.slice (some A) len cap, x] : Array Value)[0]? = some (.slice (some A) len cap) := rfl
  have a1 : (#[.slice (some A) len cap, x] : Array Value)[1]? = some x := rfl
  rcases hx.z with ⟨k, hk, kk, rfl, hn1, hn2, z, z1, z2, z3⟩ | ⟨⟨d, hd, hdk⟩, hl, hf⟩
  · rw [bytesOf_info hi] at hn2
    have g1 : ¬ (Int.ofNat n < 0) := by show ¬ ((n : Int) < 0); omega
    have g2 : ¬ (Int.ofNat n * (i.bytes : Int) > 2 ^ 48) := by
      show ¬ ((n : Int) * (i.bytes : Int) > 2 ^ 48)
      rw [← Int.natCast_mul]; omega
    simp only [Builtin.append_, h0, h1, a0, a1, Sem.run_bind, run_underlying' hu, Result.andThen, run_sizeOf' hi, run_underlying' hk, Sem.run_pure, if_true, asInt, asIntOf, wrap_much hn1, g1, g2, if_false, run_typeInfo' hi]
    simp only [show (Int.ofNat n).toNat = n from rfl, hle, if_true, Bool.not_true, Bool.false_eq_true, if_false]
    by_cases hz : n * P.cellsOf e = 0
    · have : cs = [] := by
        rw [z2, z3, hz]; simp [zerosA]
      subst this
      simp only [hz, if_true, Sem.run_bind, Sem.run_pure, Result.andThen, hs]
    · simp only [hz, if_false, Sem.run_bind, z1, Sem.run_pure, Result.andThen, zeroCells_eq, ← z2, hs]
  · have hm : ∀ {α : Type} (a b : α), (match d with | .int _ => a | _ => b) = b := by
      intro α a b
      cases d <;> first | rfl | exact absurd rfl (hdk _)
    simp only [Builtin.append_, h0, h1, a0, a1, Sem.run_bind, run_underlying' hu, Result.andThen, run_sizeOf' hi, run_underlying' hd, Sem.run_pure, Bool.false_eq_true, if_false, hl, hle, if_true, Bool.not_false, hf, hs]
theorem run_append_grow {ts : Array TypeId} {ty st xt e : TypeId} {i : TypeInfo} {A : Option Addr} {len cap n : Nat} {x : Value} {cs old : List Value} (h0 : ts[0]? = some st) (h1 : ts[1]? = some xt)
    (hu : P.underlying st = some (.slice e)) (hi : P.info? e = some i) (hx : SrcRun P w e xt x n cs) (hlt : cap < len + n) (hm : much (len + n) (P.bytesOf e) = true)
    {z : Value} (hz : ∀ w, (zeroValue e).run P w = .ok z w) (hf' : ∀ w', w'.heap = w.heap → (Builtin.firstCells (P.cellsOf e) len (.slice A len cap)).run P w' = .ok ⟨old⟩ w')
    (hfx : ∀ w', w'.heap = w.heap → (Builtin.firstCells (P.cellsOf e) n x).run P w = .ok ⟨cs⟩ w → (Builtin.firstCells (P.cellsOf e) n x).run P w' = .ok ⟨cs⟩ w') :
    ∃ cap' w2, len + n ≤ cap' ∧ w2.heap = w.heap ∧ w2.os = w.os ∧ w2.tape = w.tape ∧ w2.output = w.output ∧
      (Builtin.append_ ts ty #[.slice A len cap, x]).run P w = .ok (.slice (some ⟨w.heap.size, 0, none⟩) (len + n) cap') (World.add w2 (.cells ⟨old ++ cs ++ (zerosA z.cells ((cap' - (len + n)) * z.cells.size)).toList⟩ e (0, 0))) := by
  obtain ⟨cap', hc1, hc2⟩ := choose_appendCap (P := P) (len + n) cap e w
  refine ⟨cap', { w with drawn := w.drawn + 1 }, hc1, rfl, rfl, rfl, rfl, ?_⟩
  have a0 : (#[.slice A len cap, x] : Array Value)[0]? = some (.slice A len cap) := rfl
  have a1 : (#[.slice A len cap, x] : Array Value)[1]? = some x := rfl
  have hle : ¬ (len + n ≤ cap) := by omega
  have b1 : ¬ (((len + n : Nat) : Int) > IntKind.i64.max) := by
    have := (much_ok hm).1
    have e1 : IntKind.i64.max = 9223372036854775807 := by decide
    omega
  have b2 : ¬ (Builtin.nextslicecap (len + n) cap * i.bytes > 2 ^ 48) := by
    rw [← bytesOf_info hi]; exact nextslicecap_mul hlt hm
  rcases hx.z with ⟨k, hk, kk, rfl, hn1, hn2, z', z1, z2, z3⟩ | ⟨⟨d, hd, hdk⟩, hl, hf⟩
  · rw [bytesOf_info hi] at hn2
    have g1 : ¬ (Int.ofNat n < 0) := by show ¬ ((n : Int) < 0); omega
    have g2 : ¬ (Int.ofNat n * (i.bytes : Int) > 2 ^ 48) := by
      show ¬ ((n : Int) * (i.bytes : Int) > 2 ^ 48)
      rw [← Int.natCast_mul]; omega
    simp only [Builtin.append_, h0, h1, a0, a1, Sem.run_bind, run_underlying' hu, Result.andThen, run_sizeOf' hi, run_underlying' hk, Sem.run_pure, if_true, asInt, asIntOf, wrap_much hn1, g1, g2, if_false, run_typeInfo' hi]
    simp only [show (Int.ofNat n).toNat = n from rfl, hle, if_false, b1, false_and, Bool.not_true, Bool.false_eq_true, Sem.run_bind, run_typeInfo' hi, Result.andThen, Sem.run_pure, b2, hc2, run_askRoom]
    rw [hf' { w with drawn := w.drawn + 1 } rfl]
    simp only
    by_cases hz0 : n * P.cellsOf e = 0
    · have : cs = [] := by
        rw [z2, z3, hz0]; simp [zerosA]
      subst this
      simp only [hz0, if_true, Sem.run_pure, hz, newRow, Sem.run_bind, run_newObj, Result.andThen, zeroCells_eq]
      rw [show (#[] : Array Value) = ⟨[]⟩ from rfl, arr3]
      rfl
    · have ez : z' = z := by
        have e1 := z1 w
        rw [hz w] at e1
        cases e1; rfl
      subst ez
      simp only [hz0, if_false, Sem.run_bind, Sem.run_pure, Result.andThen, zeroCells_eq, hz, newRow, run_newObj]
      subst z2
      rw [show zerosA z'.cells (n * z'.cells.size) = ⟨(zerosA z'.cells (n * z'.cells.size)).toList⟩ from rfl, arr3]
      rfl
  · have hm : ∀ {α : Type} (a b : α), (match d with | .int _ => a | _ => b) = b := by
      intro α a b
      cases d <;> first | rfl | exact absurd rfl (hdk _)
    simp only [Builtin.append_, h0, h1, a0, a1, Sem.run_bind, run_underlying' hu, Result.andThen, run_sizeOf' hi, run_underlying' hd, Sem.run_pure, Bool.false_eq_true, if_false, hl, hle, if_true, Bool.not_false, b1, false_and,
      run_typeInfo' hi, b2, hc2, run_askRoom]
    rw [hf' { w with drawn := w.drawn + 1 } rfl]
    simp only
    rw [hfx { w with drawn := w.drawn + 1 } rfl hf]
    simp only [zeroCells_eq, hz, newRow, run_newObj, Sem.run_bind, Sem.run_pure, Result.andThen]
    rw [arr3]
    rfl
end
end Go.X

namespace Go.X
section
variable {P : Program} {φ : Ph} {H : Nat → Obj} {w : World} {ρ : Operand → Value} {o : Oper} {c : Cx}
def GrowR (P : Program) (φ : Ph) (e : TypeId) (ob : Obj) (l : List Value) : Prop :=
  notIter ob = true ∧ ∀ φ', Ex.below φ φ' → ∀ (C : Array Value) (fr : Nat × Nat) (off sz : Nat), off + sz = C.size → l.length ≤ sz → (∀ x ∈ C.toList, x.oneCell = true) →
    (∀ (j : Nat) (x : Value), l[j]? = some x → C[off + j]? = some x) → frOk C.size fr → ((∃ vs h, ob = .cells vs e h) → fr = (0, 0)) → ObjR P φ' ob (some (.cells C e fr)) off sz
theorem grow_cells {e : TypeId} {vs : List V} {l : List Value} (h : VRs φ vs l) : GrowR P φ e (.cells vs e 0) l := by
  refine ⟨rfl, fun φ' hb C fr off sz h1 h2 h3 h4 h5 h6 => ?_⟩
  have := h6 ⟨vs, 0, rfl⟩
  subst this
  refine ⟨C, rfl, h1, by rw [← h.length]; exact h2, ?_, h3, by simp⟩
  intro i v hv
  obtain ⟨x, x1, x2⟩ := h.get i hv
  exact ⟨x, h4 i x x1, x2.mono hb⟩
theorem grow_bytes {e : TypeId} {s n : Nat} {l : List Value} (hs : s < 256 ^ n) (hl : l.length = n) (h : ∀ j, j < n → l[j]? = some (.int .u8 (Int.ofNat (sGet s n j)))) : GrowR P φ e (.bytes s n e 0) l := by
  refine ⟨rfl, fun φ' hb C fr off sz h1 h2 h3 h4 h5 _ => ?_⟩
  exact ⟨C, fr, rfl, h1, by omega, hs, fun i hi => h4 i _ (h i hi), h3, h5, by simp⟩
theorem growN_ok {u8 : Bool} {es : Nat} {src : Src} {e : TypeId} {cs : List Value} {ob : Obj} (hx : SrcR φ es src cs) (hg : growO c u8 .nils es src e = some ob) : GrowR P φ e ob cs := by
  cases src with
  | bad => cases hx
  | cells n l => cases hg; exact grow_cells hx.1
  | bytes n s => cases hg; exact grow_bytes hx.2.1 hx.2.2.1 hx.2.2.2
theorem growS_ok {u8 : Bool} {b q len cap es es' : Nat} {ex : Bool} {src : Src} {e : TypeId} {cs : List Value} {ob : Obj} {B off sz : Nat} (hs : Sub (c.hp) H) (hR : RelH P φ H w) (hφ : φ b = some (B, off, sz))
    (hx : SrcR φ es src cs) (hg : growO c u8 (.slc b q len cap es' ex) es src e = some ob) :
    ∃ old, old.length = len * es ∧ (∀ (j : Nat) (x : Value), old[j]? = some x → w.cell? ⟨B, off + q + j, none⟩ = some x) ∧ (∀ x ∈ old, x.oneCell = true) ∧ GrowR P φ e ob (old ++ cs) ∧
      ((∃ vs h, ob = .cells vs e h) → u8 = false) := by
  cases src with
  | bad => cases hx
  | cells n r =>
    simp only [growO] at hg
    cases u8 with
    | true => simp at hg
    | false =>
      cases hq : getO (c.hp b) q (len * es) with
      | none => rw [hq] at hg; cases hg
      | some old =>
        rw [hq] at hg; cases hg
        have hne : c.hp b ≠ .free := by intro e; rw [e] at hq; cases hq
        rw [← sub_ne hs rfl hne] at hq
        obtain ⟨os, k1, k2, k3, k4, k5, k6⟩ := run_getO hR hφ rfl hq
        exact ⟨os, k4, k6, k3, grow_cells (k2.append hx.1), fun _ => rfl⟩
  | bytes n t =>
    obtain ⟨rfl, x2, x3, x4⟩ := hx
    simp only [growO] at hg
    cases hq : getB (c.hp b) q len with
    | none => rw [hq] at hg; cases hg
    | some s =>
      rw [hq] at hg; cases hg
      have hne : c.hp b ≠ .free := by intro e; rw [e] at hq; cases hq
      rw [← sub_ne hs rfl hne] at hq
      obtain ⟨k1, ns, k2, k3, k4⟩ := run_getB hR hφ rfl hq
      refine ⟨ns.map (Value.int .u8), by simp [k3], ?_, ?_, grow_bytes (sCat_lt k1 x2) (by simp [k3, x3]) ?_, ?_⟩
      · intro j x hj
        rw [List.getElem?_map] at hj
        cases hn : ns[j]? with
        | none => rw [hn] at hj; cases hj
        | some y => rw [hn] at hj; cases hj; exact (k4 j y hn).2
      · intro x hx
        obtain ⟨y, _, rfl⟩ := List.mem_map.1 hx
        rfl
      · intro j hj
        rw [sCat_get k1 j hj]
        by_cases hlt : j < len
        · rw [if_pos hlt]
          have hl : j < ns.length := by omega
          rw [List.getElem?_append_left (by simpa using hl), List.getElem?_map, List.getElem?_eq_getElem hl, Option.map_some]
          rw [(k4 j _ (List.getElem?_eq_getElem hl)).1]
        · rw [if_neg hlt, List.getElem?_append_right (by simp [k3]; omega)]
          simp only [List.length_map, k3]
          rw [x4 (j - len) (by omega)]
      · rintro ⟨vs, h, hh⟩; cases hh
/-- what a slice is -/
theorem slc_inv {b q len cap es : Nat} {ex : Bool} {S : Value} (h : VR φ (.slc b q len cap es ex) S) :
    ∃ B off sz ao cap', S = .slice (some ⟨B, ao, none⟩) len cap' ∧ φ b = some (B, off, sz) ∧ (cap' ≠ 0 → ao = off + q) ∧ len ≤ cap' ∧ q + cap' * es ≤ sz ∧ (ex = true → cap' = cap) ∧ (ex = false → q + cap' * es = sz) ∧
      (∀ len', len' ≤ cap' → VR φ (.slc b q len' cap es ex) (.slice (some ⟨B, ao, none⟩) len' cap')) := by
  cases h with
  | slcE _ _ _ _ _ B off sz ao g1 g2 g3 g4 => exact ⟨B, off, sz, ao, cap, rfl, g1, g2, g3, g4, fun _ => rfl, (fun h => by cases h), fun len' hl => .slcE _ _ _ _ _ _ _ _ _ g1 g2 hl g4⟩
  | slcN _ _ _ _ _ B off sz ao cap' g1 g2 g3 g4 g5 => exact ⟨B, off, sz, ao, cap', rfl, g1, g2, g3, by omega, (fun h => by cases h), fun _ => g4, fun len' hl => .slcN _ _ _ _ _ _ _ _ _ _ g1 g2 hl g4 g5⟩
theorem noFit_ok {n b B off sz : Nat} (hs : Sub (c.hp) H) (hR : RelH P φ H w) (hφ : φ b = some (B, off, sz)) (h : noFit n (c.hp b) = true) : sz < n := by
  obtain ⟨h3, h4⟩ := and2 h
  have h4 := Nat.le_of_ble_eq_true h4
  have hne : hiOf (c.hp b) ≠ 0 := by intro e; rw [e] at h3; cases h3
  have hk : sz < hiOf (c.hp b) := by
    cases hob : c.hp b with
    | cells vs e hi =>
      have hb := sub_ne hs hob (by simp)
      have := cell_of hR (by rw [hb]; simp) hφ
      rw [hb] at this
      obtain ⟨_, _, _, _, _, _, h3⟩ := this
      rw [hob] at hne
      exact h3 hne
    | bytes s l e hi =>
      have hb := sub_ne hs hob (by simp)
      have := cell_of hR (by rw [hb]; simp) hφ
      rw [hb] at this
      obtain ⟨_, _, _, _, _, _, _, _, _, h3⟩ := this
      rw [hob] at hne
      exact h3 hne
    | _ => rw [hob] at hne; simp [hiOf] at hne
  omega
/-- a grown row -/
theorem new_grown {e : TypeId} {ob : Obj} {l : List Value} (hg : GrowR P φ e ob l) {rest : Array Value} (h1 : ∀ x ∈ l, x.oneCell = true) (h2 : ∀ x ∈ rest.toList, x.oneCell = true) {φ' : Ph} (hb : Ex.below φ φ') :
    ObjR P φ' ob (some (.cells ⟨l ++ rest.toList⟩ e (0, 0))) 0 (l.length + rest.size) := by
  refine hg.2 φ' hb _ _ _ _ (by simp) (by omega) ?_ ?_ (.inl rfl) (fun _ => rfl)
  · intro x hx
    simp only [List.mem_append] at hx
    rcases hx with hx | hx
    · exact h1 x hx
    · exact h2 x hx
  · intro j x hx
    rw [Nat.zero_add, List.getElem?_toArray]
    rw [List.getElem?_append_left (List.getElem?_eq_some_iff.1 hx).1]
    exact hx
end
end Go.X

namespace Go.X
section
variable {P : Program} {φ : Ph} {H : Nat → Obj} {w : World} {ρ : Operand → Value} {o : Oper} {c : Cx}
theorem RelH.nx_free {n : Nat} (hR : RelH P φ H w) (hn : φ n = none) : H n = .free := by
  by_cases h : H n = .free
  · exact h
  · obtain ⟨B, off, sz, h1, _⟩ := hR.obj n h
    rw [hn] at h1; cases h1
theorem zeros_one {e : TypeId} {z : List V} {φ : Ph} (h : zeroL P e = some z) : ∃ v : Value, (∀ w, (zeroValue e).run P w = .ok v w) ∧ v.cells.size = P.cellsOf e ∧ ∀ n, ∀ x ∈ (zerosA v.cells (n * v.cells.size)).toList, x.oneCell = true := by
  obtain ⟨i, v, cs, z1, z2, z3, z4, z5, z6, z7, z8⟩ := zeroL_ok h
  refine ⟨v, z8, by rw [z3]; simpa using z6, fun n => ?_⟩
  rw [z3]
  exact (zerosA_ok (z4 φ) z5 n).2
theorem run_append_nil0 {ts : Array TypeId} {ty st xt e : TypeId} {i : TypeInfo} {n : Nat} {x : Value} {cs : List Value} (h0 : ts[0]? = some st) (h1 : ts[1]? = some xt)
    (hu : P.underlying st = some (.slice e)) (hi : P.info? e = some i) (hx : SrcRun P w e xt x n cs) (hn : n = 0) (hc : cs = []) :
    (Builtin.append_ ts ty #[.slice none 0 0, x]).run P w = .ok (.slice none 0 0) w := by
  subst hn; subst hc
  have a0 : (#[.slice none 0 0, x] : Array Value)[0]? = some (.slice none 0 0) := rfl
  have a1 : (#[.slice none 0 0, x] : Array Value)[1]? = some x := rfl
  rcases hx.z with ⟨k, hk, kk, rfl, hn1, hn2, z, z1, z2, z3⟩ | ⟨⟨d, hd, hdk⟩, hl, hf⟩
  · simp only [Builtin.append_, h0, h1, a0, a1, Sem.run_bind, run_underlying' hu, Result.andThen, run_sizeOf' hi, run_underlying' hk, Sem.run_pure, if_true, asInt, asIntOf]
    simp [IntKind.wrap, IntKind.bits, IntKind.signed, run_typeInfo' hi, Result.andThen]
  · simp only [Builtin.append_, h0, h1, a0, a1, Sem.run_bind, run_underlying' hu, Result.andThen, run_sizeOf' hi, run_underlying' hd, Sem.run_pure, Bool.false_eq_true, if_false, hl, Bool.not_false]
    cases d <;> first | exact absurd rfl (hdk _) | simp [hf]
structure AppCtx (P : Program) (φ : Ph) (w : World) (ts : Array TypeId) (ty : TypeId) (st xt e : TypeId) (i : TypeInfo) (X : Value) (src : Src) (cs : List Value) (r : Value → Result Next) : Prop where
  h0 : ts[0]? = some st
  h1 : ts[1]? = some xt
  hu : P.underlying st = some (.slice e)
  hi : P.info? e = some i
  hx : SrcRun P w e xt X src.n cs
  hf : ∀ w', w'.heap = w.heap → (Builtin.firstCells (P.cellsOf e) src.n X).run P w = .ok ⟨cs⟩ w → (Builtin.firstCells (P.cellsOf e) src.n X).run P w' = .ok ⟨cs⟩ w'
  hs : SrcR φ (P.cellsOf e) src cs
  he : 1 ≤ P.cellsOf e
  hz : ∃ z, zeroL P e = some z
  run : ∀ S v w', (Builtin.append_ ts ty #[S, X]).run P w = .ok v w' → r S = .ok (.value v) w'
variable {ts : Array TypeId} {ty st xt e : TypeId} {i : TypeInfo} {X : Value} {src : Src} {cs : List Value} {r : Value → Result Next}
theorem appendN_ok (hn : φ c.nx = none) (hR : RelH P φ H w) (A : AppCtx P φ w ts ty st xt e i X src cs r) {u8 : Bool} : EffOk P φ H c.nx w (appendN P e u8 c src) (r (.slice none 0 0)) := by
  unfold appendN
  have hlen := A.hs.len
  cases h0 : Nat.beq src.n 0 with
  | true =>
    have h0 := Nat.eq_of_beq_eq_true h0
    have hc : cs = [] := by rw [h0, Nat.zero_mul] at hlen; exact List.length_eq_zero_iff.1 hlen
    exact .value (A.run _ _ _ (run_append_nil0 A.h0 A.h1 A.hu A.hi A.hx h0 hc)) .nils hR
  | false =>
    have hn0 : src.n ≠ 0 := by intro e; rw [e] at h0; cases h0
    simp only [cond_false, growX]
    cases hm : much src.n (P.bytesOf e) with
    | false => trivial
    | true =>
      simp only [cond_true]
      cases hg : growO c u8 .nils (P.cellsOf e) src e with
      | none => trivial
      | some ob =>
        simp only
        obtain ⟨zl, hzl⟩ := A.hz
        obtain ⟨z, z1, z2, z3⟩ := zeros_one (φ := φ) hzl
        obtain ⟨cap', w2, q1, q2, q3, q4, q5, q6⟩ := run_append_grow (A := none) (len := 0) (cap := 0) (old := []) (ty := ty) A.h0 A.h1 A.hu A.hi A.hx (by omega) (by simpa using hm) z1 (fun _ _ => rfl) A.hf
        have hg' := new_grown (P := P) (growN_ok A.hs hg) (rest := zerosA z.cells ((cap' - (0 + src.n)) * z.cells.size)) A.hs.one (z3 _) (Ph.set_below hn (x := (w.heap.size, 0, cs.length + (cap' - (0 + src.n)) * z.cells.size)))
        rw [zerosA_size] at hg'
        rw [List.nil_append] at q6
        have esz : cs.length + (cap' - (0 + src.n)) * z.cells.size = cap' * P.cellsOf e := by
          rw [hlen, z2, ← Nat.add_mul]; congr 1; omega
        simp only [Nat.zero_add] at q1 q6 hg' esz
        refine ⟨_, w2, _, 0, _, .inl (A.run _ _ _ q6), q2, q3, q4, q5, ?_, hg', ?_⟩
        · exact .slcN _ _ _ _ _ _ _ _ _ _ (Ph.set_same _ _ _) (fun _ => rfl) (by omega) (by rw [esz]; omega) A.he
        · intro m since seen last hh
          have := (growN_ok (P := P) A.hs hg).1
          rw [hh] at this; cases this
theorem upd_upd (H : Nat → Obj) (b : Nat) (x y : Obj) : upd (upd H b x) b y = upd H b y := by
  funext z; unfold upd; split <;> rfl
theorem appendS_ok {b q len cap : Nat} {ex : Bool} {u8 : Bool} {S : Value} (hs : Sub (c.hp) H) (hR : RelH P φ H w) (hf : ∀ x, c.nx ≤ x → φ x = none) (A : AppCtx P φ w ts ty st xt e i X src cs r)
    (hv : VR φ (.slc b q len cap (P.cellsOf e) ex) S) :
    EffOk P φ H c.nx w (appendS P e u8 c b q len cap ex src) (r S) := by
  have hn : φ c.nx = none := hf _ (Nat.le_refl _)
  have hlen := A.hs.len
  have hes := A.he
  obtain ⟨B, off, sz, ao, cap', rfl, g1, g2, g3, g4, g5, g6, g7⟩ := slc_inv hv
  have mulle : ∀ {a b : Nat}, a * P.cellsOf e ≤ b * P.cellsOf e ↔ a ≤ b := fun {a b} => Nat.mul_le_mul_right_iff (by omega)
  unfold appendS
  cases h0 : Nat.beq src.n 0 with
  | true =>
    have h0 := Nat.eq_of_beq_eq_true h0
    have hc : cs = [] := by rw [h0, Nat.zero_mul] at hlen; exact List.length_eq_zero_iff.1 hlen
    have hrun := run_append_fit (ty := ty) (A := ⟨B, ao, none⟩) (len := len) (cap := cap') (w' := w) A.h0 A.h1 A.hu A.hi A.hx (by omega) (by rw [hc]; rfl)
    rw [h0] at hrun
    exact .value (A.run _ _ _ hrun) hv hR
  | false =>
    have hn0 : src.n ≠ 0 := by intro e; rw [e] at h0; cases h0
    simp only [cond_false]
    cases hfit : fits ex (len + src.n) cap (q + (len + src.n) * P.cellsOf e) (c.hp b) with
    | true =>
      simp only [cond_true]
      have hle : len + src.n ≤ cap' := by
        cases ex with
        | true => rw [g5 rfl]; exact Nat.le_of_ble_eq_true hfit
        | false =>
          have h1 := Nat.le_of_ble_eq_true hfit
          have h2 := known_le hs hR g1
          have h3 := g6 rfl
          exact mulle.1 (by omega)
      cases hp : putSrc (c.hp b) (q + len * P.cellsOf e) src with
      | none => trivial
      | some ob =>
        simp only
        have hne : c.hp b ≠ .free := by
          intro e; rw [e] at hp
          cases src <;> simp [putSrc, putO] at hp
        rw [← sub_ne hs rfl hne] at hp
        obtain ⟨w', r1, r2, r3⟩ := run_putSrc hR g1 rfl A.hs hp
        have hrun := run_append_fit (ty := ty) (A := ⟨B, ao, none⟩) (len := len) (cap := cap') (w' := w') A.h0 A.h1 A.hu A.hi A.hx hle (by
          rw [addr_add, g2 (by omega), Nat.add_assoc]; exact r1)
        exact ⟨_, w', .inl (A.run _ _ _ hrun), g7 _ hle, r2, r3⟩
    | false =>
      simp only [cond_false, growX]
      cases hm : much (len + src.n) (P.bytesOf e) with
      | false => trivial
      | true =>
        simp only [cond_true]
        cases hg : growO c u8 (.slc b q len cap (P.cellsOf e) ex) (P.cellsOf e) src e with
        | none => trivial
        | some ob =>
          simp only
          obtain ⟨old, o1, o2, o3, o4, o5⟩ := growS_ok hs hR g1 A.hs hg
          obtain ⟨zl, hzl⟩ := A.hz
          obtain ⟨z, z1, z2, z3⟩ := zeros_one (φ := φ) hzl
          -- a new row
          have grown : cap' < len + src.n → ∃ v' w2 g sz', r (.slice (some ⟨B, ao, none⟩) len cap') = .ok (.value v') (World.add w2 g) ∧ w2.heap = w.heap ∧ w2.os = w.os ∧ w2.tape = w.tape ∧ w2.output = w.output ∧
              VR (φ.set c.nx (w.heap.size, 0, sz')) (.slc c.nx 0 (len + src.n) 0 (P.cellsOf e) false) v' ∧ ObjR P (φ.set c.nx (w.heap.size, 0, sz')) ob (some g) 0 sz' := by
            intro hlt
            obtain ⟨cap2, w2, q1, q2, q3, q4, q5, q6⟩ := run_append_grow (A := some ⟨B, ao, none⟩) (len := len) (cap := cap') (old := old) (ty := ty) A.h0 A.h1 A.hu A.hi A.hx hlt hm z1
              (fun w' hw => load_slice g2 g3 o1 (fun j x hx => by rw [cell_heap hw]; exact o2 j x hx)) A.hf
            have hlen2 : (old ++ cs).length = (len + src.n) * P.cellsOf e := by rw [List.length_append, o1, hlen, Nat.add_mul]
            have hg' := new_grown o4 (rest := zerosA z.cells ((cap2 - (len + src.n)) * z.cells.size)) (fun x hx => by
              rcases List.mem_append.1 hx with h | h
              · exact o3 x h
              · exact A.hs.one x h) (z3 _) (Ph.set_below hn (x := (w.heap.size, 0, (old ++ cs).length + (cap2 - (len + src.n)) * z.cells.size)))
            rw [zerosA_size] at hg'
            have esz : (old ++ cs).length + (cap2 - (len + src.n)) * z.cells.size = cap2 * P.cellsOf e := by
              rw [hlen2, z2, ← Nat.add_mul]; congr 1; omega
            refine ⟨_, w2, _, _, A.run _ _ _ q6, q2, q3, q4, q5, ?_, hg'⟩
            exact .slcN _ _ _ _ _ _ _ _ _ _ (Ph.set_same _ _ _) (fun _ => rfl) (by omega) (by rw [esz]; omega) A.he
          cases hq : (ex || noFit (q + (len + src.n) * P.cellsOf e) (c.hp b)) with
          | true =>
            simp only [cond_true]
            have hlt : cap' < len + src.n := by
              rcases Bool.or_eq_true _ _ ▸ hq with h | h
              · subst h
                rw [g5 rfl]
                rcases Nat.lt_or_ge cap (len + src.n) with h' | h'
                · exact h'
                · rw [show fits true (len + src.n) cap (q + (len + src.n) * P.cellsOf e) (c.hp b) = Nat.ble (len + src.n) cap from rfl, Nat.ble_eq_true_of_le h'] at hfit; cases hfit
              · have h1 := noFit_ok hs hR g1 h
                rcases Nat.lt_or_ge cap' (len + src.n) with h' | h'
                · exact h'
                · have := mulle.2 h'; omega
            obtain ⟨v', w2, g, sz', k1, k2, k3, k4, k5, k6, k7⟩ := grown hlt
            refine ⟨v', w2, g, 0, sz', .inl k1, k2, k3, k4, k5, k6, k7, ?_⟩
            intro m since seen last hh
            have := o4.1
            rw [hh] at this; cases this
          | false =>
            simp only [cond_false]
            have hex : ex = false := by cases ex; rfl; cases hq
            subst hex
            cases hmv : moveOk u8 e (c.hp b) with
            | false => trivial
            | true =>
              simp only [cond_true]
              have hne : c.hp b ≠ .free := by intro e; rw [e] at hmv; cases hmv
              have hbe := sub_ne hs rfl hne
              have hHb : H b ≠ .free := by rw [hbe]; exact hne
              have hHn : H c.nx = .free := hR.nx_free hn
              have hbn : b ≠ c.nx := by intro e; rw [e] at hHb; exact hHb hHn
              rcases Nat.lt_or_ge cap' (len + src.n) with hlt | hge
              · -- grown
                obtain ⟨v', w2, g, sz', k1, k2, k3, k4, k5, k6, k7⟩ := grown hlt
                have hR2 : RelH P φ (upd H b .free) w2 := (hR.sub (sub_free H b)).same k2
                have hnit : ∀ m since seen last, ob ≠ .miter (some m) since seen last := by
                  intro m since seen last hh
                  have := o4.1
                  rw [hh] at this; cases this
                have hnmap : ∀ kt es cl, ob ≠ .map kt es cl := by
                  intro kt es cl hh
                  have := o4.1
                  rw [hh] at this; cases this
                rw [← k2] at k6 k7
                have hfree : upd H b .free c.nx = .free := by unfold upd; rw [if_neg (Ne.symm hbn)]; exact hHn
                have hnew := hR2.new (n := c.nx) hn hfree k7 (fun m since seen last hh => absurd hh (hnit m since seen last)) (fun kt es cl hh => absurd hh (hnmap kt es cl)) (fun since seen last => hnit _ since seen last)
                refine ⟨v', World.add w2 g, φ.set c.nx (w2.heap.size, 0, sz'), .inl k1, k6, Ph.set_below hn, hnew, ?_⟩
                have s1 : Stp φ H c.nx w φ H c.nx w2 := Stp.same c.nx k2 k3 k4 k5
                have s2 : Stp φ H c.nx w2 (φ.set c.nx (w2.heap.size, 0, sz')) (upd H c.nx ob) (c.nx + 1) (World.add w2 g) := Stp.new hf ob (fun m h => by obtain ⟨_, _, _, e⟩ := h; exact absurd e (hnit _ _ _ _)) g 0 sz'
                refine (s1.trans s2).sub ?_
                intro x hx
                unfold upd at *
                by_cases e1 : x = c.nx
                · simp [e1]
                · by_cases e2 : x = b
                  · simp [e2] at hx
                    exact absurd hx.1 hbn
                  · simp [e1, e2]
              · -- in place
                have hcell := cell_of hR hHb g1
                have hcap : q + cap' * P.cellsOf e = sz := g6 rfl
                have hle2 : (len + src.n) * P.cellsOf e ≤ cap' * P.cellsOf e := mulle.2 hge
                have hsum : len * P.cellsOf e + src.n * P.cellsOf e = (len + src.n) * P.cellsOf e := (Nat.add_mul _ _ _).symm
                -- the row as it lies
                have row : ∃ C fr ob1, w.heap[B]? = some (.cells C e fr) ∧ off + sz = C.size ∧ (∀ x ∈ C.toList, x.oneCell = true) ∧ frOk C.size fr ∧ ((∃ vs h, ob = .cells vs e h) → fr = (0, 0)) ∧ ob1 ≠ .free ∧ notIter ob1 = true ∧
                    ∀ C' : Array Value, C'.size = C.size → (∀ x ∈ C'.toList, x.oneCell = true) → ObjR P φ ob1 (some (.cells C' e fr)) off sz := by
                  rw [← hbe] at hmv
                  cases hob : H b with
                  | cells vs e' hi =>
                    rw [hob] at hcell hmv
                    obtain ⟨C, c1, c2, c3, c4, c5, c6⟩ := hcell
                    have ee := Nat.eq_of_beq_eq_true (show Nat.beq e e' = true from hmv)
                    subst ee
                    exact ⟨C, (0, 0), .cells [] e 0, c1, c2, c5, .inl rfl, fun _ => rfl, by simp, rfl, fun C' h1 h2 => ⟨C', rfl, by omega, by simp, by simp, h2, by simp⟩⟩
                  | bytes s l e' hi =>
                    rw [hob] at hcell hmv
                    cases u8 with
                    | false => cases hmv
                    | true =>
                      obtain ⟨C, fr, c1, c2, c3, c4, c5, c6, c7, c8⟩ := hcell
                      have ee := Nat.eq_of_beq_eq_true (show Nat.beq e e' = true from hmv)
                      subst ee
                      exact ⟨C, fr, .bytes 0 0 e 0, c1, c2, c6, c7, fun hh => (by have := o5 hh; cases this), by simp, rfl, fun C' h1 h2 => ⟨C', fr, rfl, by omega, by simp, by simp, by simp, h2, by rw [h1]; exact c7, by simp⟩⟩
                  | _ => rw [hob] at hmv; cases hmv
                obtain ⟨C, fr, ob1, c1, c2, c3, c4, c5, c6, c7, c8⟩ := row
                have hfitC : off + q + len * P.cellsOf e + 0 + cs.length ≤ C.size := by omega
                have hst := run_storeCells (P := P) cs w B (off + q + len * P.cellsOf e) 0 C e fr c1 hfitC A.hs.one c4.free
                have hrun := run_append_fit (ty := ty) (A := ⟨B, ao, none⟩) (len := len) (cap := cap') A.h0 A.h1 A.hu A.hi A.hx hge (by
                  rw [addr_add, g2 (by omega)]; exact hst)
                generalize hC' : spliceA C (off + q + len * P.cellsOf e + 0) cs = C' at hst hrun
                have hsz' : C'.size = C.size := by rw [← hC', spliceA_size]
                have hone : ∀ x ∈ C'.toList, x.oneCell = true := by rw [← hC']; exact mem_splice hfitC c3 A.hs.one
                obtain ⟨t1, t2⟩ := hR.set_row hHb g1 c1 c7 (c8 C' hsz' hone)
                have hH1 : upd H b ob1 b ≠ .free := by simp [upd, c6]
                have hH1n : upd H b ob1 c.nx = .free := by unfold upd; rw [if_neg (Ne.symm hbn)]; exact hHn
                have hBlt : B < w.heap.size := by
                  rcases Nat.lt_or_ge B w.heap.size with h' | h'
                  · exact h'
                  · rw [Array.getElem?_eq_none h'] at c1; cases c1
                have hmove := t1.move hH1 g1 hn hH1n (d := q) (sz' := sz - q) o4.1 (fun φ' hb' => by
                  rw [put_get _ _ _ hBlt]
                  refine o4.2 φ' hb' C' fr (off + q) (sz - q) (by omega) (by rw [List.length_append, o1, hlen]; omega) hone ?_ (by rw [hsz']; exact c4) c5
                  intro j x hx
                  rw [← hC', spliceA_get _ _ _ _ hfitC]
                  by_cases hj : j < old.length
                  · rw [List.getElem?_append_left hj] at hx
                    rw [if_neg (by omega)]
                    have := o2 j x hx
                    simpa [World.cell?, c1] using this
                  · rw [List.getElem?_append_right (by omega)] at hx
                    have := (List.getElem?_eq_some_iff.1 hx).1
                    rw [if_pos (by omega), show off + q + j - (off + q + len * P.cellsOf e + 0) = j - old.length by omega]
                    exact hx)
                rw [upd_upd] at hmove
                refine ⟨_, _, _, .inl (A.run _ _ _ hrun), ?_, Ph.set_below hn, hmove, ?_⟩
                · refine .slcN _ _ _ _ _ _ _ _ _ _ (Ph.set_same _ _ _) (fun h => ?_) hge (by omega) hes
                  rw [g2 (by omega)]; rfl
                · have s2 := Stp.move hf hH1 g1 ob o4.1 (off + q) (sz - q) (w := World.put w B (.cells C' e fr))
                  rw [upd_upd] at s2
                  exact (t2 c.nx).trans s2
end
end Go.X

namespace Go.X
section
variable {P : Program} {φ : Ph} {H : Nat → Obj} {w : World} {ρ : Operand → Value} {o : Oper} {c : Cx}
variable {ts : Array TypeId} {ty st xt e : TypeId} {i : TypeInfo} {X : Value} {src : Src} {cs : List Value} {r : Value → Result Next}
theorem appendX_ok {s : V} {S : Value} (hs : Sub (c.hp) H) (hR : RelH P φ H w) (hf : ∀ x, c.nx ≤ x → φ x = none) (hv : VR φ s S)
    (A : src ≠ .bad → 1 ≤ P.cellsOf e → (∃ z, zeroL P e = some z) → ∃ i cs, AppCtx P φ w ts ty st xt e i X src cs r) : EffOk P φ H c.nx w (appendX P e c s src) (r S) := by
  have main : src ≠ .bad → EffOk P φ H c.nx w (bif Nat.ble 1 (P.cellsOf e) && hasZ (zeroL P e) then (match (generalizing := false) s with
    | .nils => appendN P e (isU8 P e) c src
    | .slc b o len cap es ex => bif Nat.beq (P.cellsOf e) es then appendS P e (isU8 P e) c b o len cap ex src else .bad "append: size"
    | _ => .bad "append") else .bad "append: size") (r S) := by
    intro hb
    cases h1 : (Nat.ble 1 (P.cellsOf e) && hasZ (zeroL P e)) with
    | false => trivial
    | true =>
      obtain ⟨h2, h3⟩ := and2 h1
      have hz : ∃ z, zeroL P e = some z := by
        cases hz : zeroL P e with
        | none => rw [hz] at h3; cases h3
        | some z => exact ⟨z, rfl⟩
      obtain ⟨i, cs, A⟩ := A hb (Nat.le_of_ble_eq_true h2) hz
      simp only [cond_true]
      cases s with
      | nils => cases hv; exact appendN_ok (hf _ (Nat.le_refl _)) hR A
      | slc b q len cap es ex =>
        simp only
        cases he : Nat.beq (P.cellsOf e) es with
        | false => trivial
        | true =>
          have he := Nat.eq_of_beq_eq_true he
          subst he
          exact appendS_ok hs hR hf A hv
      | _ => trivial
  cases src with
  | bad => trivial
  | cells n l => exact main (by simp)
  | bytes n l => exact main (by simp)
theorem zerosOf_ok {n : Nat} {k : IntKind} (hi : P.info? e = some i) (hk : P.underlying xt = some (.int k)) (hX : ∃ kk, X = .int kk (Int.ofNat n)) (hm : much n (P.bytesOf e) = true)
    (hb : zerosOf P (isU8 P e) e n ≠ .bad) : ∃ cs, SrcRun P w e xt X (zerosOf P (isU8 P e) e n).n cs ∧ SrcR φ (P.cellsOf e) (zerosOf P (isU8 P e) e n) cs := by
  obtain ⟨m1, m2⟩ := much_ok hm
  obtain ⟨kk, rfl⟩ := hX
  cases hu : isU8 P e with
  | true =>
    obtain ⟨i', z, z1, z2, z3, z4⟩ := isU8_ok hu
    have hsz : z.cells.size = 1 := by rw [z2]; rfl
    refine ⟨(zerosA z.cells (n * z.cells.size)).toList, ⟨.inl ⟨k, hk, kk, rfl, m1, m2, z, z4, rfl, by rw [hsz, z3]⟩⟩, z3, pow256_pos n, ?_, ?_⟩
    · rw [Array.length_toList, zerosA_size, hsz, Nat.mul_one]
    · intro j hj
      rw [hsz, Nat.mul_one, Array.getElem?_toList, z2, zerosA_get _ (by simp) n j hj, sGet_zero']
      simp [Nat.mod_one]
  | false =>
    rw [hu] at hb
    simp only [zerosOf] at hb ⊢
    cases hz : zeroL P e with
    | none => rw [hz] at hb; exact absurd rfl hb
    | some zl =>
      obtain ⟨i', z, cs, z1, z2, z3, z4, z5, z6, z7, z8⟩ := zeroL_ok hz
      have hsz : z.cells.size = cs.length := by rw [z3]; rfl
      obtain ⟨q1, q2⟩ := zerosA_ok (z4 φ) z5 n
      refine ⟨(zerosA z.cells (n * z.cells.size)).toList, ⟨.inl ⟨k, hk, kk, rfl, m1, m2, z, z8, rfl, by rw [hsz, z6]⟩⟩, ?_⟩
      rw [hsz, z3]
      exact ⟨q1, q2, by rw [Array.length_toList, zerosA_size, z6]⟩
theorem effAppend_ok {q : Call} {s x : Operand} (hs : Sub (c.hp) H) (hR : RelH P φ H w) (hf : ∀ x, c.nx ≤ x → φ x = none) (ho : o.op = .call q) (hq : q.callee = .builtin .append) (ha : q.args.toList = [s, x])
    (hvs : VR φ (c.rd s) (ρ s)) (hvx : VR φ (c.rd x) (ρ x)) : EffOk P φ H c.nx w (effAppend q.argTypes.toList s x P c) ((execOp ρ o).run P w) := by
  have hargs : q.args = #[s, x] := by rw [← ha]
  have hrun : (execOp ρ o).run P w = (do pure (Next.value (← Builtin.append_ q.argTypes o.type #[ρ s, ρ x])) : Sem Next).run P w := by
    refine run_builtin ho hq ?_
    rw [hargs]
    simp only [builtin, List.map_toArray, List.map_cons, List.map_nil]
  rw [hrun]
  unfold effAppend
  cases ht : q.argTypes.toList with
  | nil => trivial
  | cons st ts =>
    cases ts with
    | nil => trivial
    | cons xt ts =>
      have h0 : q.argTypes[0]? = some st := by rw [← Array.getElem?_toList, ht]; rfl
      have h1 : q.argTypes[1]? = some xt := by rw [← Array.getElem?_toList, ht]; rfl
      simp only
      have main : ∀ {src : Src} {e : TypeId}, P.underlying st = some (.slice e) →
          (src ≠ .bad → ∀ i, P.info? e = some i → ∃ cs, SrcRun P w e xt (ρ x) src.n cs ∧ SrcR φ (P.cellsOf e) src cs ∧ ∀ w', w'.heap = w.heap → (Builtin.firstCells (P.cellsOf e) src.n (ρ x)).run P w = .ok ⟨cs⟩ w → (Builtin.firstCells (P.cellsOf e) src.n (ρ x)).run P w' = .ok ⟨cs⟩ w') →
          EffOk P φ H c.nx w (appendX P e c (c.rd s) src) ((do pure (Next.value (← Builtin.append_ q.argTypes o.type #[ρ s, ρ x])) : Sem Next).run P w) := by
        intro src e hu hsrc
        refine appendX_ok (r := fun S => (do pure (Next.value (← Builtin.append_ q.argTypes o.type #[S, ρ x])) : Sem Next).run P w) (ts := q.argTypes) (ty := o.type) (st := st) (xt := xt) (X := ρ x) hs hR hf hvs (fun hb he hz => ?_)
        obtain ⟨i, hi⟩ := info_of_cells (P := P) (t := e) (by omega)
        obtain ⟨cs, c1, c2, c3⟩ := hsrc hb i hi
        exact ⟨i, cs, h0, h1, hu, hi, c1, c3, c2, he, hz, fun S v w' h => run_v h⟩
      cases hu : P.underlying st with
      | none => trivial
      | some d =>
        cases d with
        | slice e =>
          cases hk : P.underlying xt with
          | none => trivial
          | some d2 =>
            have other : (∀ k, d2 ≠ .int k) → EffOk P φ H c.nx w (appendX P e c (c.rd s) (srcOf (isU8 P e) (P.cellsOf e) (c.rd x) c)) ((do pure (Next.value (← Builtin.append_ q.argTypes o.type #[ρ s, ρ x])) : Sem Next).run P w) := by
              intro hd
              refine main hu (fun hb i hi => ?_)
              obtain ⟨cs, k1, k2⟩ := srcOf_ok hs hR hvx (u8 := isU8 P e) (es := P.cellsOf e) (fun h => (isU8_ok h).choose_spec.choose_spec.2.2.1) rfl hb
              exact ⟨cs, ⟨.inr ⟨⟨d2, hk, hd⟩, k1 w rfl⟩⟩, k2, fun w' hw _ => (k1 w' hw).2⟩
            cases d2 with
            | int k =>
              simp only
              cases hn : natV (c.rd x) with
              | none => trivial
              | some n =>
                simp only
                cases hm : much n (P.bytesOf e) with
                | false => trivial
                | true =>
                  simp only [cond_true]
                  obtain ⟨kk, hX⟩ := natV_ok hn hvx
                  refine main hu (fun hb i hi => ?_)
                  obtain ⟨cs, k1, k2⟩ := zerosOf_ok (w := w) (φ := φ) (X := ρ x) hi hk ⟨kk, hX⟩ hm hb
                  refine ⟨cs, k1, k2, fun w' _ h => ?_⟩
                  rw [hX] at h
                  simp [Builtin.firstCells, stuck] at h
            | _ => exact other (by simp)
        | _ => trivial
end
end Go.X

namespace Go.X
section
variable {P : Program} {φ : Ph} {H : Nat → Obj} {w : World} {ρ : Operand → Value} {o : Oper} {c : Cx}
theorem cut_ok {v : V} {x : Value} {n l : Nat} (hv : VR φ v x) (hl : lenV v = some l) (hn : n ≤ l) :
    ∃ x', VR φ (cutV n v) x' ∧ (Builtin.lenOf x' : Sem Nat) = pure n ∧ (Builtin.lenOf x : Sem Nat) = pure l ∧ ∀ es, Builtin.firstCells es n x' = Builtin.firstCells es n x := by
  cases v with
  | nils =>
    cases hl
    cases hv
    have : n = 0 := by omega
    subst this
    exact ⟨_, .nils, rfl, rfl, fun _ => rfl⟩
  | slc b q l' cap es ex =>
    cases hl
    obtain ⟨B, off, sz, ao, cap', rfl, g1, g2, g3, g4, g5, g6, g7⟩ := slc_inv hv
    exact ⟨_, g7 n (by omega), rfl, rfl, fun _ => rfl⟩
  | str s l' =>
    cases hl
    cases hv with
    | str _ _ hs =>
      refine ⟨.string (strB (sSub s l 0 n) n), ?_, ?_, ?_, ?_⟩
      · have := sSub_lt s l 0 n
        exact .str _ _ (by simpa using this)
      · simp only [Builtin.lenOf, strB_size]
      · simp only [Builtin.lenOf, strB_size]
      · intro es
        have h1 := strB_extract (s := s) (l := l) (a := 0) (b := n) (Nat.zero_le _) hn
        rw [Nat.sub_zero] at h1
        simp only [Builtin.firstCells, ← h1]
        congr 3
        apply ByteArray.ext
        apply Array.ext'
        simp
  | _ => cases hl
theorem first0 {v : V} {x : Value} {l es : Nat} (hv : VR φ v x) (hl : lenV v = some l) : (Builtin.firstCells es 0 x).run P w = .ok ⟨[]⟩ w := by
  cases v with
  | nils => cases hv; rfl
  | slc b q l' cap es' ex =>
    obtain ⟨B, off, sz, ao, cap', rfl, _⟩ := slc_inv hv
    simp only [Builtin.firstCells, Nat.zero_mul, run_load0]
  | str s l' =>
    cases hv
    simp only [Builtin.firstCells, Sem.run_pure]
    congr 1
    apply Array.ext'
    simp
  | _ => cases hl
theorem run_copy {ts : Array TypeId} {ty dt e : TypeId} {i : TypeInfo} {A : Option Addr} {X : Value} {dl cap xl : Nat} {cs : List Value} {w' : World} (h0 : ts[0]? = some dt) (hu : P.underlying dt = some (.slice e)) (hi : P.info? e = some i)
    (hl : (Builtin.lenOf X : Sem Nat) = pure xl) (hf : (Builtin.firstCells (P.cellsOf e) (Nat.min xl dl) X).run P w = .ok ⟨cs⟩ w)
    (hst : match A with | some a => (storeCells a cs).run P w = .ok () w' | none => w' = w) :
    (Builtin.copy_ ts ty #[.slice A dl cap, X]).run P w = .ok (goInt (Nat.min xl dl)) w' := by
  have a0 : (#[.slice A dl cap, X] : Array Value)[0]? = some (.slice A dl cap) := rfl
  have a1 : (#[.slice A dl cap, X] : Array Value)[1]? = some X := rfl
  cases A with
  | none =>
    simp only at hst
    subst hst
    simp only [Builtin.copy_, h0, a0, a1, Sem.run_bind, run_underlying' hu, Result.andThen, hl, Sem.run_pure, run_sizeOf' hi, hf]
  | some a =>
    simp only at hst
    simp only [Builtin.copy_, h0, a0, a1, Sem.run_bind, run_underlying' hu, Result.andThen, hl, Sem.run_pure, run_sizeOf' hi, hf, hst]
theorem effCopy_ok {q : Call} {d x : Operand} (hs : Sub (c.hp) H) (hR : RelH P φ H w) (ho : o.op = .call q) (hq : q.callee = .builtin .copy) (ha : q.args.toList = [d, x])
    (hvd : VR φ (c.rd d) (ρ d)) (hvx : VR φ (c.rd x) (ρ x)) : EffOk P φ H c.nx w (effCopy q.argTypes.toList d x P c) ((execOp ρ o).run P w) := by
  have hargs : q.args = #[d, x] := by rw [← ha]
  have hrun : (execOp ρ o).run P w = (do pure (Next.value (← Builtin.copy_ q.argTypes o.type #[ρ d, ρ x])) : Sem Next).run P w := by
    refine run_builtin ho hq ?_
    rw [hargs]
    simp only [builtin, List.map_toArray, List.map_cons, List.map_nil]
  rw [hrun]
  unfold effCopy
  cases ht : q.argTypes.toList with
  | nil => trivial
  | cons dt ts =>
    have h0 := first_type ht
    simp only
    cases hu : P.underlying dt with
    | none => trivial
    | some td =>
      cases td with
      | slice e =>
        cases hl : lenV (c.rd x) with
        | none => cases c.rd d <;> trivial
        | some xl =>
          cases hd : c.rd d with
          | nils =>
            simp only
            cases hi : isInfo P e with
            | false => trivial
            | true =>
              obtain ⟨i, hi⟩ := isInfo_ok hi
              simp only [cond_true]
              rw [hd] at hvd
              generalize hy : ρ d = y at hvd
              cases hvd
              obtain ⟨x', k1, k2, k3, k4⟩ := cut_ok (n := 0) hvx hl (Nat.zero_le _)
              have hm : Nat.min xl 0 = 0 := Nat.min_zero xl
              have := run_copy (P := P) (w := w) (w' := w) (ty := o.type) (A := none) (dl := 0) (cap := 0) h0 hu hi k3 (by rw [hm]; exact first0 hvx hl) rfl
              rw [hm] at this
              exact .value (v' := goInt 0) (run_v this) (.int _ _) hR
          | slc b p dl cap es ex =>
            simp only
            cases hi : isInfo P e with
            | false => trivial
            | true =>
              obtain ⟨i, hi⟩ := isInfo_ok hi
              simp only [cond_true]
              rw [hd] at hvd
              generalize hy : ρ d = y at hvd
              obtain ⟨B, off, sz, ao, cap', rfl, g1, g2, g3, g4, g5, g6, g7⟩ := slc_inv hvd
              obtain ⟨x', k1, k2, k3, k4⟩ := cut_ok (n := Nat.min xl dl) hvx hl (Nat.min_le_left _ _)
              have fin : ∀ {cs : List Value} {w' : World}, (Builtin.firstCells (P.cellsOf e) (Nat.min xl dl) (ρ x)).run P w = .ok ⟨cs⟩ w → (storeCells ⟨B, ao, none⟩ cs).run P w = .ok () w' →
                  (Builtin.copy_ q.argTypes o.type #[.slice (some ⟨B, ao, none⟩) dl cap', ρ x]).run P w = .ok (goInt (Nat.min xl dl)) w' :=
                fun hf hst => run_copy (A := some ⟨B, ao, none⟩) h0 hu hi k3 hf hst
              cases hz : Nat.beq (Nat.min xl dl) 0 with
              | true =>
                have hz := Nat.eq_of_beq_eq_true hz
                simp only [cond_true]
                rw [hz] at fin
                have hfc : (Builtin.firstCells (P.cellsOf e) 0 (ρ x)).run P w = .ok ⟨[]⟩ w := first0 hvx hl
                exact .value (v' := goInt 0) (run_v (fin hfc rfl)) (.int _ _) hR
              | false =>
                have hne : Nat.min xl dl ≠ 0 := by intro e; rw [e] at hz; cases hz
                simp only [cond_false, copyX]
                cases hp : putSrc (c.hp b) p (srcOf (isU8 P e) (P.cellsOf e) (cutV (Nat.min xl dl) (c.rd x)) c) with
                | none => trivial
                | some ob =>
                  simp only
                  have hsb : srcOf (isU8 P e) (P.cellsOf e) (cutV (Nat.min xl dl) (c.rd x)) c ≠ .bad := by intro h; rw [h] at hp; cases hp
                  have hnf : c.hp b ≠ .free := by
                    intro h; rw [h] at hp
                    generalize srcOf (isU8 P e) (P.cellsOf e) (cutV (Nat.min xl dl) (c.rd x)) c = src at hp
                    cases src <;> simp [putSrc, putO] at hp
                  obtain ⟨cs, j1, j2⟩ := srcOf_ok hs hR k1 (u8 := isU8 P e) (es := P.cellsOf e) (fun h => (isU8_ok h).choose_spec.choose_spec.2.2.1) rfl hsb
                  have en : (srcOf (isU8 P e) (P.cellsOf e) (cutV (Nat.min xl dl) (c.rd x)) c).n = Nat.min xl dl := by
                    have := (j1 w rfl).1
                    rw [k2, Sem.run_pure] at this
                    injection this with h1 _
                    exact h1.symm
                  have hf := (j1 w rfl).2
                  rw [en, k4] at hf
                  rw [← sub_ne hs rfl hnf] at hp
                  obtain ⟨w', r1, r2, r3⟩ := run_putSrc hR g1 rfl j2 hp
                  have hmin := Nat.min_le_right xl dl
                  have hc0 : cap' ≠ 0 := by
                    have : Nat.min xl dl = min xl dl := rfl
                    omega
                  rw [← g2 hc0] at r1
                  exact ⟨_, w', .inl (run_v (fin hf r1)), .int _ _, r2, r3⟩
          | _ => trivial
      | _ => trivial
end
end Go.X
