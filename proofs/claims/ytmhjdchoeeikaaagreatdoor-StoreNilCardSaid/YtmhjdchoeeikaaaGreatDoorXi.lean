/-
  Functions without a body. No conditions. An executor of its own, proved sound against the model; nothing here is of one program.
-/
import Derived.Test.YtmhjdchoeeikaaaGreatDoorXh
import Derived.Lib.Bytealg
set_option linter.unusedVariables false
namespace Go.X
section
variable {P : Program} {φ : Ph} {H : Nat → Obj} {w : World} {c : Cx}
theorem run_ext {f : FuncId} {fn : Func} {e : Array Value → Sem Value} {args : Array Value} {v : Value} {w' : World} (hf : P.funcs[f]? = some fn) (hn : (fn.name == "runtime.NumGoroutine") = false) (hb : fn.body.isNone = true)
    (h1 : Extern.findNext fn = none) (h2 : Extern.find fn = some e) (hr : (e args).run P w = .ok v w') : (callFunc f args).run P w = .ok (.value v) w' := by
  simp only [callFunc, Sem.run_bind, run_program, Result.andThen, hf, hn, hb, Bool.false_eq_true, if_false, if_true, run_mark, h1, h2, hr, Sem.run_pure]
theorem loadBytes_ok {B o : Nat} : ∀ (n i : Nat) (acc : ByteArray) (s l : Nat), i + n = l → (∀ j, j < l → w.cell? ⟨B, o + j, none⟩ = some (.int .u8 (Int.ofNat (sGet s l j)))) →
    (Extern.Bytes.loadBytes ⟨B, o + i, none⟩ n acc).run P w = .ok ⟨⟨acc.data.toList ++ ((List.range n).map fun j => UInt8.ofNat (sGet s l (i + j)))⟩⟩ w
  | 0, i, acc, s, l, _, _ => by simp [Extern.Bytes.loadBytes]
  | n + 1, i, acc, s, l, hl, hc => by
    have h0 := hc i (by omega)
    have ih := loadBytes_ok n (i + 1) (acc.push (UInt8.ofNat (sGet s l i))) s l (by omega) hc
    have hadd : (⟨B, o + i, none⟩ : Addr).add 1 = ⟨B, o + (i + 1), none⟩ := by rw [addr_add, Nat.add_assoc]
    have hb : (Int.ofNat (sGet s l i)).toNat.toUInt8 = UInt8.ofNat (sGet s l i) := rfl
    simp only [Extern.Bytes.loadBytes, Sem.run_bind, run_load, h0, Result.andThen, hadd, hb, ih]
    congr 3
    rw [List.range_succ_eq_map]
    simp only [ByteArray.push, List.map_cons, List.map_map, Array.toList_push, Nat.add_zero, List.append_assoc, List.cons_append, List.nil_append]
    congr 2
    apply List.map_congr_left
    intro j _
    simp only [Function.comp]
    congr 2; omega
/-- bytes of a value -/
theorem bytesOf_ok {v : V} {x : Value} {l s : Nat} (hs : Sub (c.hp) H) (hR : RelH P φ H w) (hv : VR φ v x) (h : srcOf true 1 v c = .bytes l s) : (Extern.Bytes.bytesOf x).run P w = .ok (strB s l) w ∧ s < 256 ^ l := by
  cases v with
  | nils => cases hv; simp only [srcOf, Src.bytes.injEq] at h; obtain ⟨rfl, rfl⟩ := h; exact ⟨rfl, by simp⟩
  | str s' l' =>
    simp only [srcOf, Src.bytes.injEq] at h
    obtain ⟨rfl, rfl⟩ := h
    generalize hy : x = y at hv
    cases hv with
    | str _ _ hsl => subst hy; exact ⟨rfl, hsl⟩
  | slc b q l' cap e2 ex =>
    obtain ⟨B, off, sz, ao, cap', rfl, g1, g2, g3, _⟩ := slc_inv hv
    simp only [srcOf] at h
    cases hq : Nat.beq e2 1 with
    | false => rw [hq] at h; cases h
    | true =>
      rw [hq] at h
      simp only [cond_true] at h
      cases hg : getB (c.hp b) q l' with
      | none => rw [hg] at h; cases h
      | some s' =>
        rw [hg] at h
        simp only [Src.bytes.injEq] at h
        obtain ⟨rfl, rfl⟩ := h
        have hne : c.hp b ≠ .free := by intro e; rw [e] at hg; cases hg
        rw [← sub_ne hs rfl hne] at hg
        obtain ⟨k1, ns, _, k3, k4⟩ := run_getB hR g1 rfl hg
        refine ⟨?_, k1⟩
        have hcell : ∀ j, j < l' → w.cell? ⟨B, off + q + j, none⟩ = some (.int .u8 (Int.ofNat (sGet s' l' j))) := by
          intro j hj
          have hlt : j < ns.length := by omega
          obtain ⟨e1, e2⟩ := k4 j _ (List.getElem?_eq_getElem hlt)
          rw [e2, e1]
        cases Nat.eq_zero_or_pos l' with
        | inl h0 => subst h0; rfl
        | inr hpos =>
          have hao := g2 (by omega)
          subst hao
          have := loadBytes_ok (P := P) (w := w) (B := B) (o := off + q) l' 0 .empty s' l' (by omega) hcell
          simp only [Nat.add_zero] at this
          simp only [Extern.Bytes.bytesOf, this]
          congr 3
          simp only [Nat.zero_add]
          rfl
  | _ => simp [srcOf] at h
theorem compareBytes_ok : ∀ (a b : List UInt8), Lib.compareBytes a b = if Op.bytesLess a b then -1 else if a = b then 0 else 1
  | [], [] => by simp [Lib.compareBytes, Op.bytesLess]
  | [], y :: b => by simp [Lib.compareBytes, Op.bytesLess]
  | x :: a, [] => by simp [Lib.compareBytes, Op.bytesLess]
  | x :: a, y :: b => by
    simp only [Lib.compareBytes, Op.bytesLess, compareBytes_ok a b]
    by_cases h1 : x < y
    · simp [h1]
    · by_cases h2 : y < x
      · have : x ≠ y := by rintro rfl; exact absurd h2 (UInt8.lt_irrefl x)
        simp [h1, h2, this]
      · have : x = y := by
          apply UInt8.toNat_inj.1
          have h1' := UInt8.not_lt.1 h1
          have h2' := UInt8.not_lt.1 h2
          exact Nat.le_antisymm h2' h1'
        subst this
        simp [h1]
theorem two_args {a b : V} {args' : Array Value} (h : VRs φ [a, b] args'.toList) : ∃ x y, args' = #[x, y] ∧ VR φ a x ∧ VR φ b y := by
  generalize hl : args'.toList = l at h
  cases h with
  | cons _ x _ xs hx t =>
    cases t with
    | cons _ y _ ys hy t2 =>
      cases t2
      exact ⟨x, y, by rw [← Array.toList_inj, hl], hx, hy⟩
theorem extCompare_ok {f : FuncId} {fn : Func} (hf : P.funcs[f]? = some fn) (hn : (fn.name == "runtime.NumGoroutine") = false) (hb : fn.body.isNone = true) (h1 : Extern.findNext fn = none) (h2 : Extern.find fn = some Extern.BytealgCompare.compare) :
    ExtOk P f .compare := by
  intro φ H w c args args' hs hR hnx hgl ha
  rcases args with _ | ⟨u, _ | ⟨v, _ | ⟨d, r⟩⟩⟩ <;> simp only [effExt] <;> (try (exact trivial))
  obtain ⟨x, y, rfl, hx, hy⟩ := two_args ha
  cases hu : srcOf true 1 u c <;> (try (exact trivial))
  rename_i l s
  cases hv : srcOf true 1 v c <;> (try (exact trivial))
  rename_i m t
  simp only
  obtain ⟨e1, b1⟩ := bytesOf_ok (P := P) hs hR hx hu
  obtain ⟨e2, b2⟩ := bytesOf_ok (P := P) hs hR hy hv
  refine .value (run_ext hf hn hb h1 h2 (v := .int .i64 (Lib.compareBytes (strB s l).data.toList (strB t m).data.toList)) ?_) ?_ hR
  · show Sem.run P (do pure (goInt (Extern.BytealgCompare.cmp (← Extern.Bytes.bytesOf x) (← Extern.Bytes.bytesOf y)))) w = _
    simp only [Sem.run_bind, e1, e2, Result.andThen, Sem.run_pure]
    rw [Lib.cmp_eq]
    rfl
  · rw [compareBytes_ok]
    have hl : Op.bytesLess (strB s l).data.toList (strB t m).data.toList = sLt s l t m := bytesLess_ok b1 b2
    have he : ((strB s l).data.toList = (strB t m).data.toList) ↔ sEq s l t m = true := by
      have h3 := sEq_ok (s := s) (l := l) (t := t) (m := m) b1 b2
      rw [← h3, beq_iff_eq, strB_toList, strB_toList]
      exact Iff.rfl
    rw [hl]
    cases sLt s l t m with
    | true => simp; exact .int _ _
    | false =>
      cases hq : sEq s l t m with
      | true => rw [if_neg (by simp), if_pos (he.2 hq)]; exact .int _ _
      | false => rw [if_neg (by simp), if_neg (fun h => by rw [he.1 h] at hq; cases hq)]; exact .int _ _
theorem view_cells {B : Nat} {cs : Array Value} {e : TypeId} {fr : Nat × Nat} (h : w.heap[B]? = some (.cells cs e fr)) : w.shape? B = some (e, cs.size) := by
  simp [World.shape?, h]
theorem extOverlaps_ok {f : FuncId} {fn : Func} {t e : TypeId} {i : TypeInfo} (hf : P.funcs[f]? = some fn) (hn : (fn.name == "runtime.NumGoroutine") = false) (hb : fn.body.isNone = true) (h1 : Extern.findNext fn = none)
    (h2 : Extern.find fn = some (Extern.SlicesOverlaps.overlaps fn.params fn.resultTypes)) (hp : fn.params[0]? = some t) (hu : P.underlying t = some (.slice e)) (hi : P.info? e = some i) :
    ExtOk P f (.overlaps (P.cellsOf e)) := by
  intro φ H w c args args' hs hR hnx hgl ha
  have start : ∀ (a b : Option Addr) (la ca lb cb : Nat), (Extern.SlicesOverlaps.overlaps fn.params fn.resultTypes #[.slice a la ca, .slice b lb cb]).run P w =
      Sem.run P (α := Value) (do
    let some t := fn.params[0]? | stuck "slices.overlaps: no parameter types"
    let .slice elem ← underlying t | stuck "slices.overlaps: slice type expected"
    let size ← sizeOf elem
    match a, b with
    | some a, some b =>
      if la = 0 ∨ lb = 0 ∨ size = 0 then pure (Value.bool false)
      else if a.block != b.block && (← frozen a) && (← frozen b) then unsupported .addressObserved
      else do
        if a.block != b.block then do
          noView a; noView b
          if ← mayBeOne a b then return Value.bool ((← choose (.extern "sameAddr.stringBytes" 2)) == 1)
        pure (Value.bool (a.block == b.block && a.off < b.off + lb * size && b.off < a.off + la * size))
    | _, _ => pure (Value.bool false)) w := fun _ _ _ _ _ _ => rfl
  have nil : ∀ (a b : Option Addr) (la ca lb cb : Nat), a = none ∨ b = none → (Extern.SlicesOverlaps.overlaps fn.params fn.resultTypes #[.slice a la ca, .slice b lb cb]).run P w = .ok (.bool false) w := by
    intro a b la ca lb cb hab
    rw [start]
    rcases hab with rfl | rfl
    · simp [hp, run_underlying' hu, run_sizeOf' hi, Result.andThen]
    · cases a <;> simp [hp, run_underlying' hu, run_sizeOf' hi, Result.andThen]
  rcases args with _ | ⟨u, _ | ⟨v, _ | ⟨d, r⟩⟩⟩ <;> (try (exact trivial))
  · cases u <;> exact trivial
  · obtain ⟨x, y, rfl, hx, hy⟩ := two_args ha
    cases u <;> (try (exact trivial)) <;> cases v <;> (try (exact trivial))
    · -- two slices
      rename_i b o l cp es ex b' o' l' cp' es' ex'
      obtain ⟨B, off, sz, ao, cap, rfl, g1, g2, g3, g4, _⟩ := slc_inv hx
      obtain ⟨B', off', sz', ao', cap', rfl, k1, k2, k3, k4, _⟩ := slc_inv hy
      simp only [effExt]
      cases hz : (Nat.beq l 0 || Nat.beq l' 0) with
      | true =>
        simp only [cond_true]
        refine .value (run_ext hf hn hb h1 h2 (v := .bool false) ?_) (.bool false) hR
        have : l = 0 ∨ l' = 0 ∨ P.cellsOf e = 0 := by
          simp only [Bool.or_eq_true, Nat.beq_eq] at hz
          rcases hz with h | h
          · exact .inl h
          · exact .inr (.inl h)
        rw [start]
        simp [hp, run_underlying' hu, run_sizeOf' hi, Result.andThen, this]
      | false =>
        simp only [cond_false]
        simp only [Bool.or_eq_false_iff] at hz
        have hl : l ≠ 0 := Nat.ne_of_beq_eq_false hz.1
        have hl' : l' ≠ 0 := Nat.ne_of_beq_eq_false hz.2
        cases hes : Nat.beq es (P.cellsOf e) with
        | false => trivial
        | true =>
          have hes := Nat.eq_of_beq_eq_true hes
          simp only [Bool.not_true, cond_false]
          have hao := g2 (by omega)
          have hao' := k2 (by omega)
          subst hao; subst hao'
          by_cases hb2 : b = b'
          · subst hb2
            rw [g1] at k1; cases k1
            cases hee : Nat.beq es es' with
            | false => simp only [Nat.beq_refl, Bool.and_false, cond_false, cond_true]; trivial
            | true =>
              have hee := Nat.eq_of_beq_eq_true hee
              subst hee
              simp only [Nat.beq_refl, Bool.and_self, cond_true]
              refine .value (run_ext hf hn hb h1 h2 (v := .bool (decide (off + o < off + o' + l' * P.cellsOf e) && decide (off + o' < off + o + l * P.cellsOf e))) ?_) ?_ hR
              · rw [start]
                by_cases h0 : P.cellsOf e = 0
                · have hfalse : (decide (off + o < off + o' + l' * P.cellsOf e) && decide (off + o' < off + o + l * P.cellsOf e)) = false := by
                    rw [h0]; simp; omega
                  rw [hfalse]
                  simp [hp, run_underlying' hu, run_sizeOf' hi, Result.andThen, h0]
                · have : ¬ (l = 0 ∨ l' = 0 ∨ P.cellsOf e = 0) := by omega
                  simp [hp, run_underlying' hu, run_sizeOf' hi, Result.andThen, this, frozen, Sem.run]
              · have e1 : Nat.ble (o + 1) (o' + l' * es) = decide (off + o < off + o' + l' * P.cellsOf e) := by
                  rw [Bool.eq_iff_iff]; simp; rw [hes]; omega
                have e2 : Nat.ble (o' + 1) (o + l * es) = decide (off + o' < off + o + l * P.cellsOf e) := by
                  rw [Bool.eq_iff_iff]; simp; rw [hes]; omega
                rw [e1, e2]; exact .bool _
          · have hbf : Nat.beq b b' = false := by rw [Bool.eq_false_iff]; intro h; exact hb2 (Nat.eq_of_beq_eq_true h)
            simp only [hbf, Bool.false_and, cond_false]
            cases hc1 : c.hp b <;> (try (exact trivial)) <;> cases hc2 : c.hp b' <;> (try (exact trivial))
            rename_i vs ee hh vs' ee' hh'
            have n1 := sub_ne hs hc1 (by simp)
            have n2 := sub_ne hs hc2 (by simp)
            have c1 := cell_of hR (by rw [n1]; simp) g1
            have c2 := cell_of hR (by rw [n2]; simp) k1
            rw [n1] at c1; rw [n2] at c2
            obtain ⟨cs1, q1, _⟩ := c1
            obtain ⟨cs2, q2, _⟩ := c2
            have hBB : B ≠ B' := hR.inj b b' _ _ _ _ _ _ (by rw [n1]; simp) (by rw [n2]; simp) hb2 g1 k1
            refine .value (run_ext hf hn hb h1 h2 (v := .bool false) ?_) (.bool false) hR
            rw [start]
            have hnb : (B != B') = true := by simpa using hBB
            have hnb' : (B == B') = false := by simpa using hBB
            have f1 : ∀ p, w.frozen? ⟨B, p, none⟩ = false := fun p => by simp [World.frozen?, q1]
            have f2 : ∀ p, w.frozen? ⟨B', p, none⟩ = false := fun p => by simp [World.frozen?, q2]
            have s1 := view_cells q1
            have s2 := view_cells q2
            by_cases h0 : l = 0 ∨ l' = 0 ∨ P.cellsOf e = 0
            · simp [hp, run_underlying' hu, run_sizeOf' hi, Result.andThen, h0]
            · simp [hp, run_underlying' hu, run_sizeOf' hi, Result.andThen, h0, hnb, hnb', frozen, noView, viewAt, mayBeOne, stringish, shape, Sem.run, s1, s2, f1, f2]
    · rename_i b o l cp es ex
      cases hy
      obtain ⟨B, off, sz, ao, cap, rfl, _⟩ := slc_inv hx
      exact .value (run_ext hf hn hb h1 h2 (v := .bool false) (nil _ _ _ _ _ _ (.inr rfl))) (.bool false) hR
    · rename_i b o l cp es ex
      cases hx
      obtain ⟨B, off, sz, ao, cap, rfl, _⟩ := slc_inv hy
      exact .value (run_ext hf hn hb h1 h2 (v := .bool false) (nil _ _ _ _ _ _ (.inl rfl))) (.bool false) hR
    · cases hx; cases hy
      exact .value (run_ext hf hn hb h1 h2 (v := .bool false) (nil _ _ _ _ _ _ (.inl rfl))) (.bool false) hR
  · cases u <;> cases v <;> exact trivial
end
end Go.X

namespace Go.X
section
variable {P : Program}
theorem strB_get (s l j : Nat) (h : j < l) : (strB s l)[j]! = UInt8.ofNat (sGet s l j) := by
  have hs : (strB s l).size = l := by simp [strB, bytesL, ByteArray.size]
  rw [getElem!_pos _ _ (by rw [hs]; exact h)]
  show ((strB s l).data[j]'_) = _
  simp [strB, bytesL]
theorem sGet_lt (s l i : Nat) : sGet s l i < 256 := Nat.mod_lt _ (by decide)
theorem byte_beq {s l j q : Nat} (hq : q < 256) : (UInt8.ofNat (sGet s l j) == UInt8.ofNat q) = Nat.beq (sGet s l j) q := by
  have h1 := sGet_lt s l j
  rw [Bool.eq_iff_iff, beq_iff_eq, Nat.beq_eq]
  constructor
  · intro h
    have := congrArg UInt8.toNat h
    simpa [UInt8.toNat_ofNat, Nat.mod_eq_of_lt h1, Nat.mod_eq_of_lt hq] using this
  · intro h; rw [h]
theorem sIndexByte_ok {s l q : Nat} (hq : q < 256) : ∀ (f i : Nat), i + f = l →
    sIndexByte s l q f i = (match (List.range' i f).find? (fun j => (strB s l)[j]! == UInt8.ofNat q) with | some j => Int.ofNat j | none => -1)
  | 0, i, _ => rfl
  | f + 1, i, h => by
    rw [List.range'_succ, List.find?_cons, strB_get s l i (by omega), byte_beq hq, sIndexByte]
    cases Nat.beq (sGet s l i) q with
    | true => rfl
    | false => exact sIndexByte_ok hq f (i + 1) (by omega)
theorem extIndexByte_ok {f : FuncId} {fn : Func} (hf : P.funcs[f]? = some fn) (hn : (fn.name == "runtime.NumGoroutine") = false) (hb : fn.body.isNone = true) (h1 : Extern.findNext fn = none) (h2 : Extern.find fn = some Extern.BytealgIndexByte.indexByte) :
    ExtOk P f .indexByte := by
  intro φ H w c args args' hs hR hnx hgl ha
  rcases args with _ | ⟨u, _ | ⟨v, _ | ⟨d, r⟩⟩⟩ <;> simp only [effExt] <;> (try (exact trivial))
  obtain ⟨x, y, rfl, hx, hy⟩ := two_args ha
  cases v <;> (try (exact trivial))
  rename_i k n
  cases k <;> (try (exact trivial))
  cases n <;> (try (exact trivial))
  rename_i q
  simp only
  cases hq : Nat.ble q 255 <;> (try (exact trivial))
  cases hu : srcOf true 1 u c <;> (try (exact trivial))
  rename_i l s
  have hq' : q < 256 := Nat.lt_succ_of_le (Nat.le_of_ble_eq_true hq)
  obtain ⟨e1, b1⟩ := bytesOf_ok (P := P) hs hR hx hu
  have hy' : y = .int .u8 (Int.ofNat q) := by cases hy; rfl
  subst hy'
  refine .value (run_ext hf hn hb h1 h2 (v := .int .i64 (sIndexByte s l q l 0)) ?_) (.int _ _) hR
  rw [sIndexByte_ok hq' l 0 (by omega), ← List.range_eq_range']
  have hsz : (strB s l).size = l := by simp [strB, bytesL, ByteArray.size]
  have hc : (Int.ofNat q).toNat.toUInt8 = UInt8.ofNat q := rfl
  show Sem.run P (do
    let b ← Extern.Bytes.bytesOf x
    let c ← Extern.Bytes.asByte (.int .u8 (Int.ofNat q))
    match (List.range b.size).find? fun i => b[i]! == c with
    | some i => pure (goInt i)
    | none => pure (goInt (-1))) w = _
  simp only [Extern.Bytes.asByte, Sem.run_bind, e1, Result.andThen, Sem.run_pure, hsz, hc]
  cases (List.range l).find? fun j => (strB s l)[j]! == UInt8.ofNat q <;> rfl
end
end Go.X

namespace Go.X
section
variable {P : Program}
theorem sCount_ok {s l q : Nat} (hq : q < 256) : ∀ (f i n : Nat), i + f = l →
    Int.ofNat (sCount s l q f i n) = ((List.range' i f).map fun j => UInt8.ofNat (sGet s l j)).foldl (fun (n : Int) x => if x == UInt8.ofNat q then n + 1 else n) (Int.ofNat n)
  | 0, i, n, _ => rfl
  | f + 1, i, n, h => by
    rw [List.range'_succ, List.map_cons, List.foldl_cons, byte_beq hq, sCount]
    cases Nat.beq (sGet s l i) q with
    | true => exact sCount_ok hq f (i + 1) (n + 1) (by omega)
    | false => exact sCount_ok hq f (i + 1) n (by omega)
theorem extCount_ok {f : FuncId} {fn : Func} (hf : P.funcs[f]? = some fn) (hn : (fn.name == "runtime.NumGoroutine") = false) (hb : fn.body.isNone = true) (h1 : Extern.findNext fn = none) (h2 : Extern.find fn = some Extern.BytealgCount.count) :
    ExtOk P f .count := by
  intro φ H w c args args' hs hR hnx hgl ha
  rcases args with _ | ⟨u, _ | ⟨v, _ | ⟨d, r⟩⟩⟩ <;> simp only [effExt] <;> (try (exact trivial))
  obtain ⟨x, y, rfl, hx, hy⟩ := two_args ha
  cases v <;> (try (exact trivial))
  rename_i k n
  cases k <;> (try (exact trivial))
  cases n <;> (try (exact trivial))
  rename_i q
  simp only
  cases hq : Nat.ble q 255 <;> (try (exact trivial))
  cases hu : srcOf true 1 u c <;> (try (exact trivial))
  rename_i l s
  have hq' : q < 256 := Nat.lt_succ_of_le (Nat.le_of_ble_eq_true hq)
  obtain ⟨e1, b1⟩ := bytesOf_ok (P := P) hs hR hx hu
  have hy' : y = .int .u8 (Int.ofNat q) := by cases hy; rfl
  subst hy'
  refine .value (run_ext hf hn hb h1 h2 (v := .int .i64 (Int.ofNat (sCount s l q l 0 0))) ?_) (.int _ _) hR
  rw [sCount_ok hq' l 0 0 (by omega), ← List.range_eq_range']
  have hc : (Int.ofNat q).toNat.toUInt8 = UInt8.ofNat q := rfl
  show Sem.run P (do
    let b ← Extern.Bytes.bytesOf x
    let c ← Extern.Bytes.asByte (.int .u8 (Int.ofNat q))
    pure (goInt (b.foldl (fun (n : Int) x => if x == c then n + 1 else n) (0 : Nat)))) w = _
  simp only [Extern.Bytes.asByte, Sem.run_bind, e1, Result.andThen, Sem.run_pure, hc]
  rw [Lib.foldl_data]
  rfl
theorem one_arg {φ : Ph} {u : V} {args' : Array Value} (h : VRs φ [u] args'.toList) : ∃ x, args' = #[x] ∧ VR φ u x := by
  obtain ⟨l⟩ := args'
  cases h with
  | cons _ x _ xs h t => cases t; exact ⟨x, rfl, h⟩
theorem extClone_ok {f : FuncId} {fn : Func} (hf : P.funcs[f]? = some fn) (hn : (fn.name == "runtime.NumGoroutine") = false) (hb : fn.body.isNone = true) (h1 : Extern.findNext fn = none) (h2 : Extern.find fn = some Extern.MapsClone.clone) :
    ExtOk P f .clone := by
  intro φ H w c args args' hs hR hnx hgl ha
  rcases args with _ | ⟨u, _ | ⟨v, r⟩⟩ <;> (try (cases u <;> exact trivial))
  · exact trivial
  · obtain ⟨x, rfl, hx⟩ := one_arg ha
    cases u <;> (try (exact trivial))
    rename_i t v
    cases v <;> (try (exact trivial))
    rename_i r
    simp only [effExt]
    cases hr : c.hp r <;> (try (exact trivial))
    rename_i kt es cl
    cases hx with
    | ifc _ _ y hy =>
      cases hy with
      | map _ R sz hφ =>
        have hr' : H r = .map kt es cl := by rw [← hr]; exact (hs r (by rw [hr]; simp)).symm
        have hob := cell_of hR (by rw [hr']; simp) hφ
        rw [hr'] at hob
        obtain ⟨_, L, l, m1, m2, m3, m4, m5, m6, m7⟩ := hob
        have hbel : Ex.below φ (φ.set c.nx (w.heap.size, 0, 0)) := by
          intro b z hz
          unfold Ph.set
          by_cases e : b = c.nx
          · subst e; rw [hnx] at hz; cases hz
          · rw [if_neg e]; exact hz
        refine ⟨.iface t (.map (some w.heap.size)), w, .map L cl, 0, 0, .inl ?_, rfl, rfl, rfl, rfl, ?_, ?_, ?_⟩
        · refine run_ext hf hn hb h1 h2 ?_
          have he : Extern.MapsClone.clone #[.iface t (.map (some R))] = ((getObj R : Sem Go.Obj) >>= fun (o : Go.Obj) => match o with
            | .map entries clock => (newObj (.map entries clock) >>= fun r => pure (Value.iface t (.map (some r))))
            | _ => stuck "maps.clone: a map expected") := rfl
          rw [he]
          simp only [Sem.run_bind, run_getObj' m1 rfl, Result.andThen, run_newObj, Sem.run_pure, World.add]
        · exact .ifc _ _ _ (.map _ _ 0 (by simp [Ph.set]))
        · exact ⟨rfl, L, l, rfl, m2, m3.mono fun a b ⟨x, y⟩ => ⟨x, y.mono hbel⟩, m4, m5, m6, m7⟩
        · intro m since seen last h; cases h
  · cases u <;> (try (exact trivial))
    rename_i t v'
    cases v' <;> exact trivial
end
end Go.X

namespace Go.X
section
variable {P : Program}
theorem extTypeOf_ok {f : FuncId} {fn : Func} {u : TypeId} {nm : String} (hf : P.funcs[f]? = some fn) (hn : (fn.name == "runtime.NumGoroutine") = false) (hb : fn.body.isNone = true) (h1 : Extern.findNext fn = none) (h2 : Extern.find fn = some Extern.ReflectliteType.typeOf)
    (hu : P.cutTypes.find? (·.1 == "internal/reflectlite.rtype") = some (nm, u)) (hg : P.globals.size < 1000) : ExtOk P f (.typeOf u P.globals.size) := by
  intro φ H w c args args' hs hR hnx hgl ha
  rcases args with _ | ⟨v, _ | ⟨v2, r⟩⟩
  · exact trivial
  · obtain ⟨x, rfl, hx⟩ := one_arg ha
    cases v <;> (try (exact trivial))
    · rename_i t v
      cases hx with
      | ifc _ _ y hy =>
        refine .value (run_ext hf hn hb h1 h2 (v := .iface u (.agg #[typeHandle P t])) ?_) ?_ hR
        · show (Extern.ReflectliteType.toType t).run P w = _
          simp only [Extern.ReflectliteType.toType, cutType, Extern.Rtype.handle, Sem.run_bind, run_program, Result.andThen, hu, Sem.run_pure]
        · obtain ⟨sz, h⟩ := hgl _ hg
          refine .ifc _ _ _ (.agg _ _ (.cons _ _ _ _ ?_ .nil) ?_)
          · have := VR.ptr (φ := φ) P.globals.size t P.globals.size 0 sz h
            rw [Nat.zero_add] at this
            exact this
          · intro c hc
            simp only [List.mem_singleton] at hc
            subst hc; rfl
    · cases hx
      refine .value (run_ext hf hn hb h1 h2 (v := .nilIface) ?_) .nili hR
      rfl
  · cases v <;> exact trivial
theorem lookB_mem {t : Nat} {q : Bool} : ∀ {l : List (Nat × Bool)}, lookB t l = some q → (t, q) ∈ l
  | [], h => by cases h
  | x :: r, h => by
    simp only [lookB] at h
    cases hx : Nat.beq x.1 t with
    | false => rw [hx] at h; exact List.mem_cons_of_mem _ (lookB_mem h)
    | true =>
      rw [hx] at h
      have := Nat.eq_of_beq_eq_true hx
      cases h
      rw [← this]; exact List.mem_cons_self ..
theorem extComparable_ok {f : FuncId} {fn : Func} {l : List (Nat × Bool)} (hf : P.funcs[f]? = some fn) (hn : (fn.name == "runtime.NumGoroutine") = false) (hb : fn.body.isNone = true) (h1 : Extern.findNext fn = none)
    (h2 : Extern.find fn = some (Extern.ReflectliteType.method fun t => do Extern.Rtype.noPackHeld "Comparable" t; pure (.bool (← typeInfo t).comparable)))
    (hg : P.globals.size < 1000) (hl : ∀ x ∈ l, P.packed x.1 = false ∧ P.holdsPacked P.depth x.1 = false ∧ (P.info? x.1).map (·.comparable) = some x.2) : ExtOk P f (.comparable P.globals.size l) := by
  intro φ H w c args args' hs hR hnx hgl ha
  rcases args with _ | ⟨v, _ | ⟨v2, r⟩⟩
  · exact trivial
  · obtain ⟨x, rfl, hx⟩ := one_arg ha
    cases v <;> (try (exact trivial))
    rename_i vs
    rcases vs with _ | ⟨p, _ | ⟨p2, r⟩⟩
    · exact trivial
    · cases p <;> (try (exact trivial))
      rename_i b t
      simp only [effExt]
      cases hbg : Nat.beq b P.globals.size with
      | false => exact trivial
      | true =>
        obtain rfl := Nat.eq_of_beq_eq_true hbg
        cases hlk : lookB t l with
        | none => exact trivial
        | some q =>
          obtain ⟨k1, k2, k5⟩ := hl (t, q) (lookB_mem hlk)
          simp only at k1 k2 k5
          obtain ⟨i, k3, k4⟩ := Option.map_eq_some_iff.1 k5
          obtain ⟨sz, hφ⟩ := hgl _ hg
          cases hx with
          | agg _ cs hcs _ =>
            cases hcs with
            | cons _ y _ ys hy hys =>
              cases hys
              cases hy with
              | ptr _ _ B off sz' hb' =>
                rw [hφ] at hb'; cases hb'
                have hh : handleType P (.pointer (some ⟨P.globals.size, 0 + t, none⟩)) = some t := by
                  simp [handleType]
                refine .value (run_ext hf hn hb h1 h2 (v := .bool q) ?_) (.bool _) hR
                have hm : ∀ (g : TypeId → Sem Value) (r : Value), Extern.ReflectliteType.method g #[r] = (Extern.ReflectliteType.ofRtype r >>= g) := fun g r => rfl
                rw [hm]
                have ho : (Extern.ReflectliteType.ofRtype (.agg ⟨[.pointer (some ⟨P.globals.size, 0 + t, none⟩)]⟩)).run P w = .ok t w := by
                  show (do
                    let t ← Extern.Rtype.ofHandle (.pointer (some ⟨P.globals.size, 0 + t, none⟩))
                    Extern.Rtype.noPack "a Type asked or handed on" t
                    pure t : Sem TypeId).run P w = _
                  simp only [Extern.Rtype.ofHandle, Extern.Rtype.noPack, Sem.run_bind, run_program, Result.andThen, hh, Sem.run_pure, k1, Bool.false_eq_true, if_false]
                simp only [Sem.run_bind, ho, Result.andThen, Extern.Rtype.noPackHeld, run_program, k2, Bool.false_eq_true, if_false, typeInfo, k3, Sem.run_pure, k4]
    · cases p <;> exact trivial
  · cases v <;> (try (exact trivial))
    rename_i vs
    rcases vs with _ | ⟨p, _ | ⟨p2, r⟩⟩ <;> (try (exact trivial))
    all_goals (cases p <;> exact trivial)
end
end Go.X
