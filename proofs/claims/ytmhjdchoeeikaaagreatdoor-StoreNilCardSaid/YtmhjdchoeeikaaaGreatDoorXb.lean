/-
  What a memory of X has to do with a world of the machine. No conditions. An executor of its own, proved sound against the model; nothing here is of one program.
-/
import Derived.Test.YtmhjdchoeeikaaaGreatDoorXa
import Derived.Wp
set_option linter.unusedVariables false
namespace Go.X

/-! ## Tries and lists -/
section tries
variable {α : Type} {d : α}
theorem T.get_set_same : ∀ (p : List Bool) (t : T α) (x : α), T.get d p (T.set d p t x) = x
  | [], t, x => by cases t <;> simp [T.get, T.set]
  | b :: p, t, x => by
    cases t with
    | l => cases b <;> simp [T.get, T.set, T.get_set_same p]
    | n a v c => cases b <;> simp [T.get, T.set, T.get_set_same p]
theorem T.get_l : ∀ (p : List Bool), T.get d p (.l : T α) = d
  | [] => by simp [T.get]
  | b :: p => by simp [T.get]
theorem T.get_set_ne : ∀ (p q : List Bool) (t : T α) (x : α), p ≠ q → T.get d p (T.set d q t x) = T.get d p t
  | [], [], _, _, h => absurd rfl h
  | [], b :: q, t, x, _ => by
    cases t <;> cases b <;> simp [T.get, T.set]
  | b :: p, [], t, x, _ => by
    cases t <;> simp [T.get, T.set, T.get_l]
  | b :: p, e :: q, t, x, h => by
    have ih : b = e → ∀ t : T α, T.get d p (T.set d q t x) = T.get d p t := fun hbe t =>
      T.get_set_ne p q t x (by intro hh; exact h (by rw [hbe, hh]))
    cases b <;> cases e <;> cases t <;> simp [T.get, T.set, T.get_l] <;> simp [ih rfl, T.get_l]
theorem T.setK_eq {β : Type} : ∀ (p : List Bool) (t : T α) (x : α) (k : T α → β), T.setK d p t x k = k (T.set d p t x)
  | [], t, x, k => by cases t <;> simp [T.setK, T.set]
  | b :: p, t, x, k => by
    cases t with
    | l => cases b <;> simp [T.setK, T.set, T.setK_eq p]
    | n a v c => cases b <;> simp [T.setK, T.set, T.setK_eq p]
end tries

theorem bitsF_inj : ∀ (f g n m : Nat), n ≤ f → m ≤ g → bitsF f n = bitsF g m → n = m := by
  intro f
  induction f with
  | zero =>
    intro g n m hn hm h
    have : n = 0 := by omega
    subst this
    cases g with
    | zero => omega
    | succ g => cases m with
      | zero => rfl
      | succ m => simp [bitsF] at h
  | succ f ih =>
    intro g n m hn hm h
    cases g with
    | zero =>
      have : m = 0 := by omega
      subst this
      cases n with
      | zero => rfl
      | succ n => simp [bitsF] at h
    | succ g =>
      cases n with
      | zero => cases m with
        | zero => rfl
        | succ m => simp [bitsF] at h
      | succ n => cases m with
        | zero => simp [bitsF] at h
        | succ m =>
          simp only [bitsF, List.cons.injEq] at h
          have h2 := ih g (n / 2) (m / 2) (by omega) (by omega) h.2
          have h1 := h.1
          have e1 : ((n % 2).beq 0 = true ↔ (m % 2).beq 0 = true) := by rw [h1]
          simp only [Nat.beq_eq] at e1
          omega
theorem bits_inj {n m : Nat} (h : bits n = bits m) : n = m := bitsF_inj n m n m (Nat.le_refl _) (Nat.le_refl _) h

/-! ### tries of eight -/
section e8
theorem dg_length : ∀ (n b : Nat), (dg n b).length = n
  | 0, _ => rfl
  | n + 1, b => by simp [dg, dg_length n]
theorem d8_inj {a b : Nat} (ha : a < 8) (hb : b < 8) (h : d8 a = d8 b) : a = b := by
  have key : ∀ a, a < 8 → (d8 a).nat = a := by
    intro a ha
    match a, ha with
    | 0, _ => rfl
    | 1, _ => rfl
    | 2, _ => rfl
    | 3, _ => rfl
    | 4, _ => rfl
    | 5, _ => rfl
    | 6, _ => rfl
    | 7, _ => rfl
    | n + 8, h => omega
  rw [← key a ha, ← key b hb, h]
theorem dg_inj : ∀ (n a b : Nat), dg n a = dg n b → a % 8 ^ n = b % 8 ^ n
  | 0, a, b, _ => by simp [Nat.mod_one]
  | n + 1, a, b, h => by
    simp only [dg, List.cons.injEq] at h
    have h1 := d8_inj (Nat.mod_lt _ (by decide)) (Nat.mod_lt _ (by decide)) h.1
    have h2 := dg_inj n _ _ h.2
    rw [show 8 ^ (n + 1) = 8 * 8 ^ n by rw [Nat.pow_succ]; omega]
    rw [Nat.mod_mul, Nat.mod_mul, h1, h2]
variable {α β γ : Type}
/-- a level that may be read and written -/
structure Lv (n : Nat) (z : α) (zb : β) (g : α → List D8 → β) (ps : α → List D8 → γ → α) (val : γ → β) : Prop where
  nil : ∀ p, g z p = zb
  get : ∀ a p o q, p.length = n → q.length = n → g (ps a p o) q = if q = p then val o else g a q
def slP (z : α) (ps : α → List D8 → γ → α) (t : E8 α) (p : List D8) (o : γ) : E8 α := sl z (fun a r o k => k (ps a r o)) t p o fun x => x
theorem sl_eq {δ : Type} {z : α} {s : α → List D8 → γ → (α → δ) → δ} {ps : α → List D8 → γ → α} (h : ∀ a r o k, s a r o k = k (ps a r o)) (t : E8 α) (p : List D8) (o : γ) (k : E8 α → δ) : sl z s t p o k = k (slP z ps t p o) := by
  cases p with
  | nil => rfl
  | cons d r => cases d <;> cases t <;> simp only [sl, slP, sl0, sl1, sl2, sl3, sl4, sl5, sl6, sl7, h]
theorem Lv.up {n : Nat} {z : α} {zb : β} {g : α → List D8 → β} {ps : α → List D8 → γ → α} {val : γ → β} (h : Lv n z zb g ps val) : Lv (n + 1) (E8.nil : E8 α) zb (gl zb g) (slP z ps) val where
  nil := fun p => by
    cases p with
    | nil => rfl
    | cons d r => cases d <;> rfl
  get := fun a p o q hp hq => by
    cases p with
    | nil => simp at hp
    | cons d r =>
      cases q with
      | nil => simp at hq
      | cons d' r' =>
        have hr : r.length = n := by simpa using hp
        have hr' : r'.length = n := by simpa using hq
        have hg := fun x => h.get x r o r' hr hr'
        have hz := h.nil r'
        cases d <;> cases d' <;> cases a <;> simp [gl, slP, sl, sl0, sl1, sl2, sl3, sl4, sl5, sl6, sl7, gl0, gl1, gl2, gl3, gl4, gl5, gl6, gl7, hg, hz]
end e8
/-! ### frames -/
theorem lvV : Lv 0 V.junk V.junk (fun v _ => v) (fun _ _ (v : V) => v) (fun v => v) where
  nil := fun _ => rfl
  get := fun a p o q hp hq => by
    rw [List.length_eq_zero_iff.1 hp, List.length_eq_zero_iff.1 hq]; simp
theorem fset_eq (i : Nat) (e : EF) (v : V) : fset i e v = slP .nil (slP .junk fun _ _ v => v) e (dg 2 i) v := by
  exact sl_eq (s := sl .junk fun _ _ v k => k v) (ps := slP .junk fun _ _ v => v) (sl_eq (s := fun _ _ v k => k v) (ps := fun _ _ v => v) (fun _ _ _ _ => rfl)) e (dg 2 i) v fun e => e
theorem fsetK_eq {β : Type} (i : Nat) (e : EF) (v : V) (k : EF → β) : fsetK i e v k = k (fset i e v) := by
  rw [fset_eq]
  exact sl_eq (s := sl .junk fun _ _ v k => k v) (ps := slP .junk fun _ _ v => v) (sl_eq (s := fun _ _ v k => k v) (ps := fun _ _ v => v) (fun _ _ _ _ => rfl)) e (dg 2 i) v k
theorem fget_set {i j : Nat} (hi : i < 64) (hj : j < 64) (e : EF) (v : V) : fget j (fset i e v) = if j = i then v else fget j e := by
  rw [fset_eq]
  unfold fget
  rw [lvV.up.up.get _ _ _ _ (dg_length _ _) (dg_length _ _)]
  by_cases h : j = i
  · subst h; simp
  · rw [if_neg h, if_neg]
    intro e'
    have := dg_inj _ _ _ e'
    rw [Nat.mod_eq_of_lt (by omega), Nat.mod_eq_of_lt (by omega)] at this
    exact h this
/-! ### memories -/
theorem lvO : Lv 0 Obj.free Obj.free (fun o _ => o) (fun _ _ (o : Obj) => o) (fun o => o) where
  nil := fun _ => rfl
  get := fun a p o q hp hq => by
    rw [List.length_eq_zero_iff.1 hp, List.length_eq_zero_iff.1 hq]; simp
def p6 : M6 → List D8 → Obj → M6 := slP .nil (slP .nil (slP .nil (slP .nil (slP .nil (slP .free fun _ _ o => o)))))
theorem s6_eq {β : Type} (m : M6) (p : List D8) (o : Obj) (k : M6 → β) : s6 m p o k = k (p6 m p o) := by
  have n0 : ∀ (a : Obj) (r : List D8) (v : Obj) (k : Obj → β), (fun (_ : Obj) (_ : List D8) (o : Obj) (k : Obj → β) => k o) a r v k = k ((fun (_ : Obj) (_ : List D8) (o : Obj) => o) a r v) := fun _ _ _ _ => rfl
  have n1 := sl_eq (z := Obj.free) n0
  have n2 := sl_eq (z := (E8.nil : M1)) n1
  have n3 := sl_eq (z := (E8.nil : M2)) n2
  have n4 := sl_eq (z := (E8.nil : M3)) n3
  have n5 := sl_eq (z := (E8.nil : M4)) n4
  exact sl_eq (z := (E8.nil : M5)) n5 m p o k
theorem hsetK_eq {β : Type} (b : Nat) (o : Obj) (h : HP) (k : HP → β) : hsetK b o h k = k (hset b o h) := by
  unfold hset hsetK
  simp only [s6_eq, T.setK_eq]
theorem hget_l (b : Nat) : hget .l b = .free := by
  unfold hget
  rw [T.get_l]
  exact lvO.up.up.up.up.up.up.nil _
theorem hget_hset (h : HP) (b b' : Nat) (o : Obj) : hget (hset b o h) b' = if b' = b then o else hget h b' := by
  unfold hset hsetK hget
  simp only [s6_eq, T.setK_eq]
  by_cases hq : b' / 262144 = b / 262144
  · rw [hq, T.get_set_same]
    have := lvO.up.up.up.up.up.up.get (T.get .nil (bits (b / 262144)) h) (dg 6 b) o (dg 6 b') (dg_length _ _) (dg_length _ _)
    refine Eq.trans this ?_
    by_cases e : b' = b
    · subst e; simp
    · rw [if_neg e, if_neg]
      · rfl
      · intro e'
        have := dg_inj _ _ _ e'
        simp at this
        omega
  · rw [T.get_set_ne _ _ _ _ (fun e => hq (bits_inj e))]
    rw [if_neg (fun e => hq (by rw [e]))]
theorem hget_set_same (h : HP) (b : Nat) (o : Obj) : hget (hset b o h) b = o := by rw [hget_hset]; simp
theorem hget_set_ne (h : HP) {b b' : Nat} (o : Obj) (hne : b' ≠ b) : hget (hset b o h) b' = hget h b' := by rw [hget_hset]; simp [hne]
/-- a memory with one block turned -/
def upd (H : Nat → Obj) (b : Nat) (o : Obj) : Nat → Obj := fun x => if x = b then o else H x
theorem hget_set (h : HP) (b : Nat) (o : Obj) : hget (hset b o h) = upd (hget h) b o := by
  funext x
  exact hget_hset h b x o

theorem seqN_eq {β : Type} (n : Nat) (k : Nat → β) : seqN n k = k n := by simp [seqN]
theorem seqI_eq {β : Type} (n : Int) (k : Int → β) : seqI n k = k n := by cases n <;> simp [seqI, seqN_eq]
theorem seqF_eq {β : Type} (v : V) (k : V → β) : seqF v k = k v := by
  cases v <;> simp [seqF, seqN_eq, seqI_eq] <;> rename_i b <;> cases b <;> rfl
theorem seqVs_eq {β : Type} : ∀ (l : List V) (k : List V → β), seqVs l k = k l
  | [], k => by simp [seqVs]
  | v :: r, k => by simp [seqVs, seqF_eq, seqVs_eq r]
theorem seqV_eq {β : Type} (v : V) (k : V → β) : seqV v k = k v := by
  cases v <;> simp [seqV, seqF_eq, seqVs_eq]
theorem seqEs_eq {β : Type} : ∀ (l : List Ent) (k : List Ent → β), seqEs l k = k l
  | [], k => by simp [seqEs]
  | ⟨a, b⟩ :: r, k => by simp [seqEs, seqV_eq, seqEs_eq r]
theorem seqO_eq {β : Type} (o : Obj) (k : Obj → β) : seqO o k = k o := by
  cases o <;> simp [seqO, seqN_eq, seqVs_eq, seqEs_eq]

theorem lenL_eq {α : Type} : ∀ (l : List α) (n : Nat), lenL l n = n + l.length
  | [], n => by simp [lenL]
  | _ :: r, n => by simp [lenL, lenL_eq r]; omega
theorem takeL_eq {α : Type} : ∀ (n : Nat) (l : List α), takeL n l = l.take n
  | 0, l => by simp [takeL]
  | n + 1, [] => by simp [takeL]
  | n + 1, x :: r => by simp [takeL, takeL_eq n]
theorem dropL_eq {α : Type} : ∀ (n : Nat) (l : List α), dropL n l = l.drop n
  | 0, l => by simp [dropL]
  | n + 1, [] => by simp [dropL]
  | n + 1, x :: r => by simp [dropL, dropL_eq n]
theorem getL_eq {α : Type} : ∀ (l : List α) (n : Nat), getL l n = l[n]?
  | [], n => by simp [getL]
  | x :: r, 0 => by simp [getL]
  | x :: r, n + 1 => by simp [getL, getL_eq r]

/-! ## Numbers -/
theorem iltb_eq (a b : Int) : iltb a b = decide (a < b) := by
  rw [Bool.eq_iff_iff]
  cases a <;> cases b <;> simp [iltb] <;> omega
theorem ieqb_eq (a b : Int) : ieqb a b = (a == b) := by
  rw [Bool.eq_iff_iff]
  cases a <;> cases b <;> simp [ieqb] <;> omega
theorem keq_eq (j k : IntKind) : keq j k = decide (j = k) := by cases j <;> cases k <;> rfl
theorem wrapX_eq (k : IntKind) (n : Int) : wrapX k n = k.wrap n := by
  cases n with
  | negSucc m => rfl
  | ofNat m =>
    simp only [wrapX]
    cases h : Nat.ble m (maxNat k) with
    | false => rfl
    | true =>
      have hm := Nat.le_of_ble_eq_true h
      simp only [cond_true]
      cases k <;> simp [maxNat] at hm <;> simp [IntKind.wrap, IntKind.bits, IntKind.signed] <;> omega

/-! ## The relation -/
/-- where a block lies: the concrete block, from which cell on, how many cells -/
abbrev Ph := Nat → Option (Nat × Nat × Nat)
mutual
inductive VR (φ : Ph) : V → Value → Prop
  | junk (v : Value) : VR φ .junk v
  | bool (b : Bool) : VR φ (.bool b) (.bool b)
  | int (k : IntKind) (n : Int) : VR φ (.int k n) (.int k n)
  | str (s l : Nat) (h : s < 256 ^ l) : VR φ (.str s l) (.string (strB s l))
  | ptr (b o B off sz : Nat) (h : φ b = some (B, off, sz)) : VR φ (.ptr b o) (.pointer (some ⟨B, off + o, none⟩))
  | nilp : VR φ .nilp (.pointer none)
  | slcE (b o len cap es B off sz ao : Nat) (h : φ b = some (B, off, sz)) (ho : cap ≠ 0 → ao = off + o) (hl : len ≤ cap) (hc : o + cap * es ≤ sz) :
      VR φ (.slc b o len cap es true) (.slice (some ⟨B, ao, none⟩) len cap)
  | slcN (b o len c es B off sz ao cap : Nat) (h : φ b = some (B, off, sz)) (ho : cap ≠ 0 → ao = off + o) (hl : len ≤ cap) (hc : o + cap * es = sz) (he : 1 ≤ es) :
      VR φ (.slc b o len c es false) (.slice (some ⟨B, ao, none⟩) len cap)
  | nils : VR φ .nils (.slice none 0 0)
  | capv (b o es B off sz cap : Nat) (h : φ b = some (B, off, sz)) (hc : o + cap * es = sz) (he : 1 ≤ es) : VR φ (.capv b o es) (.int .i64 cap)
  | map (r R sz : Nat) (h : φ r = some (R, 0, sz)) : VR φ (.map r) (.map (some R))
  | nilm : VR φ .nilm (.map none)
  | fnF (f : FuncId) (l : List V) (cs : List Value) (h : VRs φ l cs) : VR φ (.fn (.func f) l) (.func (.func f) #[] ⟨cs⟩)
  | fnY (r R sz : Nat) (h : φ r = some (R, 0, sz)) : VR φ (.fn (.yield r) []) (.func (.yield R) #[] #[])
  | nilf : VR φ .nilf .nilFunc
  | ifc (t : TypeId) (v : V) (x : Value) (h : VR φ v x) : VR φ (.ifc t v) (.iface t x)
  | nili : VR φ .nili .nilIface
  | agg (l : List V) (cs : List Value) (h : VRs φ l cs) (h1 : ∀ c ∈ cs, c.oneCell = true) : VR φ (.agg l) (.agg ⟨cs⟩)
  | tup (l : List V) (cs : List Value) (h : VRs φ l cs) : VR φ (.tup l) (.tuple ⟨cs⟩)
inductive VRs (φ : Ph) : List V → List Value → Prop
  | nil : VRs φ [] []
  | cons (v : V) (x : Value) (l : List V) (xs : List Value) (h : VR φ v x) (t : VRs φ l xs) : VRs φ (v :: l) (x :: xs)
end

/-- φ' knows all that φ knows -/
def Ex.below (φ φ' : Ph) : Prop := ∀ b x, φ b = some x → φ' b = some x
mutual
theorem VR.mono {φ φ' : Ph} (h : Ex.below φ φ') {v : V} {x : Value} (hv : VR φ v x) : VR φ' v x := by
  cases hv with
  | junk => exact .junk _
  | bool => exact .bool _
  | int => exact .int _ _
  | str s l hs => exact .str _ _ hs
  | ptr b o B off sz hb => exact .ptr _ _ _ _ _ (h _ _ hb)
  | nilp => exact .nilp
  | slcE b o len cap es B off sz ao hb ho hl hc => exact .slcE _ _ _ _ _ _ _ _ _ (h _ _ hb) ho hl hc
  | slcN b o len c es B off sz ao cap hb ho hl hc he => exact .slcN _ _ _ _ _ _ _ _ _ _ (h _ _ hb) ho hl hc he
  | nils => exact .nils
  | capv b o es B off sz cap hb hc he => exact .capv _ _ _ _ _ _ _ (h _ _ hb) hc he
  | map r R sz hb => exact .map _ _ _ (h _ _ hb)
  | nilm => exact .nilm
  | fnF f l cs hl => exact .fnF _ _ _ (VRs.mono h hl)
  | fnY r R sz hb => exact .fnY _ _ _ (h _ _ hb)
  | nilf => exact .nilf
  | ifc t v x hv => exact .ifc _ _ _ (VR.mono h hv)
  | nili => exact .nili
  | agg l cs hl h1 => exact .agg _ _ (VRs.mono h hl) h1
  | tup l cs hl => exact .tup _ _ (VRs.mono h hl)
theorem VRs.mono {φ φ' : Ph} (h : Ex.below φ φ') {l : List V} {xs : List Value} (hv : VRs φ l xs) : VRs φ' l xs := by
  cases hv with
  | nil => exact .nil
  | cons v x l xs hv ht => exact .cons _ _ _ _ (VR.mono h hv) (VRs.mono h ht)
end
theorem VRs.length {φ : Ph} : ∀ {l : List V} {xs : List Value}, VRs φ l xs → xs.length = l.length
  | _, _, .nil => rfl
  | _, _, .cons _ _ _ _ _ t => by simp [t.length]
theorem VRs.get {φ : Ph} : ∀ {l : List V} {xs : List Value} (i : Nat) {v : V}, VRs φ l xs → l[i]? = some v → ∃ x, xs[i]? = some x ∧ VR φ v x
  | _, _, i, v, .nil, h => by simp at h
  | _, _, 0, v, .cons _ x _ _ hv _, h => by simp at h; subst h; exact ⟨x, by simp, hv⟩
  | _, _, i + 1, v, .cons _ _ _ _ _ t, h => by simp at h; simpa using t.get i h
theorem VRs.append {φ : Ph} : ∀ {l : List V} {xs : List Value} {m : List V} {ys : List Value}, VRs φ l xs → VRs φ m ys → VRs φ (l ++ m) (xs ++ ys)
  | _, _, _, _, .nil, h => h
  | _, _, _, _, .cons _ _ _ _ hv t, h => .cons _ _ _ _ hv (t.append h)
theorem VRs.take {φ : Ph} : ∀ (n : Nat) {l : List V} {xs : List Value}, VRs φ l xs → VRs φ (l.take n) (xs.take n)
  | 0, _, _, _ => by simp; exact .nil
  | n + 1, _, _, .nil => by simp; exact .nil
  | n + 1, _, _, .cons _ _ _ _ hv t => by simp; exact .cons _ _ _ _ hv (t.take n)
theorem VRs.drop {φ : Ph} : ∀ (n : Nat) {l : List V} {xs : List Value}, VRs φ l xs → VRs φ (l.drop n) (xs.drop n)
  | 0, _, _, h => by simpa using h
  | n + 1, _, _, .nil => by simp; exact .nil
  | n + 1, _, _, .cons _ _ _ _ _ t => by simpa using t.drop n
/-- related lists, place by place -/
theorem VRs.of_get {φ : Ph} : ∀ (l : List V) (xs : List Value), xs.length = l.length → (∀ (i : Nat) (v : V) (x : Value), l[i]? = some v → xs[i]? = some x → VR φ v x) → VRs φ l xs
  | [], [], _, _ => .nil
  | [], _ :: _, h, _ => by simp at h
  | _ :: _, [], h, _ => by simp at h
  | v :: l, x :: xs, h, H => .cons _ _ _ _ (H 0 v x rfl rfl) (VRs.of_get l xs (by simpa using h) (fun i v x h1 h2 => H (i + 1) v x (by simpa using h1) (by simpa using h2)))
end Go.X

namespace Go.X

inductive All2 {α β : Type} (R : α → β → Prop) : List α → List β → Prop
  | nil : All2 R [] []
  | cons (a : α) (b : β) (l : List α) (m : List β) (h : R a b) (t : All2 R l m) : All2 R (a :: l) (b :: m)
theorem All2.mono {α β : Type} {R S : α → β → Prop} (h : ∀ a b, R a b → S a b) : ∀ {l : List α} {m : List β}, All2 R l m → All2 S l m
  | _, _, .nil => .nil
  | _, _, .cons _ _ _ _ hr t => .cons _ _ _ _ (h _ _ hr) (t.mono h)

def jumpOf : Ex → Option Code
  | .norm => none
  | .ret => some .ret
  | .exit id => some (.exit id)
  | .goto l => some (.goto l)
/-- alike, and no address in it -/
def VG (k : V) (x : Value) : Prop := VR (fun _ => none) k x
theorem VG.vr {φ : Ph} {k : V} {x : Value} (h : VG k x) : VR φ k x := VR.mono (fun _ _ h => by cases h) h
def EntR (φ : Ph) (e : Ent) (m : MapEntry) : Prop := VG e.key m.key ∧ VR φ e.val m.val
def CellsR (φ : Ph) (vs : List V) (e : TypeId) (hi : Nat) (g : Option Go.Obj) (off sz : Nat) : Prop :=
  ∃ c, g = some (.cells c e (0, 0)) ∧ off + sz = c.size ∧ vs.length ≤ sz ∧ (∀ (i : Nat) (v : V), vs[i]? = some v → ∃ x, c[off + i]? = some x ∧ VR φ v x) ∧
    (∀ x ∈ c.toList, x.oneCell = true) ∧ (hi ≠ 0 → sz < hi)
/-- nothing of so many cells is frozen -/
def frOk (n : Nat) (fr : Nat × Nat) : Prop := fr.1 = fr.2 ∨ n ≤ fr.1
theorem frOk.free {n : Nat} {fr : Nat × Nat} (h : frOk n fr) : ∀ i, i < n → ¬ (fr.1 ≤ i ∧ i < fr.2) := by
  intro i hi; rcases h with h | h <;> omega
def BytesR (s l : Nat) (e : TypeId) (hi : Nat) (g : Option Go.Obj) (off sz : Nat) : Prop :=
  ∃ c fr, g = some (.cells c e fr) ∧ off + sz = c.size ∧ l ≤ sz ∧ s < 256 ^ l ∧ (∀ i : Nat, i < l → c[off + i]? = some (.int .u8 (Int.ofNat (sGet s l i)))) ∧
    (∀ x ∈ c.toList, x.oneCell = true) ∧ frOk c.size fr ∧ (hi ≠ 0 → sz < hi)
def keyOk (P : Program) (kt : TypeId) (k : V) : Prop := okKey P kt k = true
def MapR (P : Program) (φ : Ph) (kt : TypeId) (es : List Ent) (cl : Nat) (g : Option Go.Obj) : Prop :=
  ∃ L l, g = some (.map L cl) ∧ l.Perm L.toList ∧ All2 (EntR φ) es l ∧ (∀ e ∈ es, keyOk P kt e.key) ∧
    es.Pairwise (fun a b => keyEq a.key b.key = false) ∧ (∀ m ∈ L.toList, m.born < cl) ∧ (L.toList.map (·.born)).Nodup
def ObjR (P : Program) (φ : Ph) : Obj → Option Go.Obj → Nat → Nat → Prop
  | .free, _, _, _ => True
  | .cells vs e hi, g, off, sz => CellsR φ vs e hi g off sz
  | .bytes s l e hi, g, off, sz => BytesR s l e hi g off sz
  | .map kt es cl, g, off, _ => off = 0 ∧ MapR P φ kt es cl g
  | .siter s l p, g, off, _ => off = 0 ∧ s < 256 ^ l ∧ g = some (.stringIter (strB s l) p)
  | .miter m since _ last, g, off, _ => off = 0 ∧ ∃ M seen', g = some (.mapIter M since seen' last) ∧
      (match m with | none => M = none | some r => ∃ R sz, φ r = some (R, 0, sz) ∧ M = some R)
  | .loop st pd d, g, off, _ => off = 0 ∧ ∃ r, g = some (.loop r) ∧ r.state = st ∧ r.pending = jumpOf pd ∧ ∃ sz, φ d = some (r.defers, 0, sz)
  | .dfr, g, off, _ => off = 0 ∧ g = some (.deferred (some []))
theorem ObjR.mono {P : Program} {φ φ' : Ph} (h : Ex.below φ φ') {o : Obj} {g : Option Go.Obj} {off sz : Nat} (hr : ObjR P φ o g off sz) : ObjR P φ' o g off sz := by
  cases o with
  | free => trivial
  | cells vs e hi =>
    obtain ⟨c, h1, h2, h3, h4, h5, h6⟩ := hr
    exact ⟨c, h1, h2, h3, fun i v hv => let ⟨x, hx, hvx⟩ := h4 i v hv; ⟨x, hx, hvx.mono h⟩, h5, h6⟩
  | bytes s l e hi => exact hr
  | map kt es cl =>
    obtain ⟨h0, L, l, h1, h2, h3, h4⟩ := hr
    exact ⟨h0, L, l, h1, h2, h3.mono fun a b ⟨x, y⟩ => ⟨x, y.mono h⟩, h4⟩
  | siter s l p => exact hr
  | miter m since seen last =>
    obtain ⟨h0, M, seen', h1, h2⟩ := hr
    refine ⟨h0, M, seen', h1, ?_⟩
    cases m with
    | none => exact h2
    | some r => obtain ⟨R, sz', hR, hM⟩ := h2; exact ⟨R, sz', h _ _ hR, hM⟩
  | loop st pd d =>
    obtain ⟨h0, r, h1, h2, h3, sz', h4⟩ := hr
    exact ⟨h0, r, h1, h2, h3, sz', h _ _ h4⟩
  | dfr => exact hr

def IterC (since : Nat) (seen : List V) (last cl : Nat) (L : List MapEntry) (seen' : Array Nat) : Prop :=
  since ≤ cl ∧ last ≤ cl ∧ (cl = since → ∀ e ∈ L, (e.born ∈ seen'.toList ↔ ∃ k ∈ seen, VG k e.key)) ∧
    (cl = last → ∀ k, lastL seen = some k → ∀ e ∈ L, (seen'.back? = some e.born ↔ VG k e.key)) ∧ (∀ k ∈ seen, ∃ x, gV k = some x)
/-- what an iterator and its map have to do with one another -/
def IterR (φ : Ph) (H : Nat → Obj) (w : World) : Prop :=
  ∀ b m since seen last kt es cl, H b = .miter (some m) since seen last → H m = .map kt es cl →
    ∀ B o s M o' s' R L seen', φ b = some (B, o, s) → φ m = some (M, o', s') → w.heap[B]? = some (.mapIter R since seen' last) → w.heap[M]? = some (.map L cl) →
      IterC since seen last cl L.toList seen'
structure RelH (P : Program) (φ : Ph) (H : Nat → Obj) (w : World) : Prop where
  obj : ∀ b, H b ≠ .free → ∃ B off sz, φ b = some (B, off, sz) ∧ B < w.heap.size ∧ ObjR P φ (H b) w.heap[B]? off sz
  inj : ∀ b b' B o s B' o' s', H b ≠ .free → H b' ≠ .free → b ≠ b' → φ b = some (B, o, s) → φ b' = some (B', o', s') → B ≠ B'
  iter : IterR φ H w
/-- H' knows no more than H -/
def Sub (H' H : Nat → Obj) : Prop := ∀ b, H' b ≠ .free → H' b = H b
theorem RelH.sub {P : Program} {φ : Ph} {H H' : Nat → Obj} {w : World} (h : RelH P φ H w) (hs : Sub H' H) : RelH P φ H' w := by
  have ne : ∀ b, H' b ≠ .free → H b ≠ .free := fun b hb => by rw [← hs b hb]; exact hb
  refine ⟨fun b hb => ?_, fun b b' B o s B' o' s' hb hb' => h.inj b b' B o s B' o' s' (ne b hb) (ne b' hb'), ?_⟩
  · rw [hs b hb]; exact h.obj b (ne b hb)
  · intro b m since seen last kt es cl hb hm
    have e1 := hs b (by rw [hb]; simp)
    have e2 := hs m (by rw [hm]; simp)
    exact h.iter b m since seen last kt es cl (by rw [← e1, hb]) (by rw [← e2, hm])
theorem sub_refl (H : Nat → Obj) : Sub H H := fun _ _ => rfl
theorem Sub.trans {A B C : Nat → Obj} (h : Sub A B) (k : Sub B C) : Sub A C := fun b hb => by
  have e := h b hb
  rw [e]; exact k b (by rw [← e]; exact hb)
theorem sub_free (H : Nat → Obj) (b : Nat) : Sub (upd H b .free) H := fun x hx => by
  unfold upd at *
  split at hx
  · exact absurd rfl hx
  · rename_i e; simp [e]

/-- an iterator over the map m -/
def overI (ob : Obj) (m : Nat) : Prop := ∃ since seen last, ob = .miter (some m) since seen last
/-- what an operation, or a call, leaves of what was there -/
structure Stp (φ : Ph) (H : Nat → Obj) (nx : Nat) (w : World) (φ' : Ph) (H' : Nat → Obj) (nx' : Nat) (w' : World) : Prop where
  le : nx ≤ nx'
  ext : ∀ b, b < nx → φ' b = φ b
  fresh : (∀ b, nx ≤ b → φ b = none) → ∀ b, nx' ≤ b → φ' b = none
  size : w.heap.size ≤ w'.heap.size
  keep : ∀ B : Nat, B < w.heap.size → (∀ b B' o s, H b ≠ .free → φ b = some (B', o, s) → B' ≠ B) → w'.heap[B]? = w.heap[B]?
  loops : ∀ (B : Nat) (r : Loop), w.heap[B]? = some (.loop r) → ∃ r' : Loop, w'.heap[B]? = some (.loop r') ∧ r'.fn = r.fn ∧ r'.tmps = r.tmps ∧ r'.params = r.params ∧ r'.assign = r.assign ∧ r'.body = r.body ∧ r'.defers = r.defers
  own : ∀ b B o s, H' b ≠ .free → φ' b = some (B, o, s) → (∃ b0 o0 s0, H b0 ≠ .free ∧ φ b0 = some (B, o0, s0)) ∨ w.heap.size ≤ B
  os : w'.os = w.os
  tape : w'.tape = w.tape
  output : w'.output = w.output
  nf : ∀ m, H' m ≠ .free → H m ≠ .free ∨ nx ≤ m
  its : ∀ b m, overI (H' b) m → (∃ b', overI (H b') m) ∨ H m ≠ .free ∨ nx ≤ m
theorem Stp.refl (φ : Ph) (H : Nat → Obj) (nx : Nat) (w : World) : Stp φ H nx w φ H nx w :=
  ⟨Nat.le_refl _, fun _ _ => rfl, fun h => h, Nat.le_refl _, fun _ _ _ => rfl, fun _ r h => ⟨r, h, rfl, rfl, rfl, rfl, rfl, rfl⟩, fun b _ o s hb h => .inl ⟨b, o, s, hb, h⟩, rfl, rfl, rfl, fun _ h => .inl h, fun b _ h => .inl ⟨b, h⟩⟩
theorem Stp.trans {φ φ' φ'' : Ph} {H H' H'' : Nat → Obj} {nx nx' nx'' : Nat} {w w' w'' : World} (h : Stp φ H nx w φ' H' nx' w') (k : Stp φ' H' nx' w' φ'' H'' nx'' w'') :
    Stp φ H nx w φ'' H'' nx'' w'' := by
  refine ⟨Nat.le_trans h.le k.le, fun b hb => by rw [k.ext b (Nat.lt_of_lt_of_le hb h.le), h.ext b hb], fun hf => k.fresh (h.fresh hf), Nat.le_trans h.size k.size, ?_, ?_, ?_,
    k.os.trans h.os, k.tape.trans h.tape, k.output.trans h.output, ?_, ?_⟩
  · intro B hB hn
    rw [k.keep B (Nat.lt_of_lt_of_le hB h.size) ?_, h.keep B hB hn]
    intro b B' o s hb hφ e
    subst e
    rcases h.own b _ o s hb hφ with ⟨b0, o0, s0, h0, h1⟩ | h0
    · exact hn b0 _ o0 s0 h0 h1 rfl
    · omega
  · intro B r hr
    obtain ⟨r1, h1, a1, a2, a3, a4, a5, a6⟩ := h.loops B r hr
    obtain ⟨r2, h2, b1, b2, b3, b4, b5, b6⟩ := k.loops B r1 h1
    exact ⟨r2, h2, b1.trans a1, b2.trans a2, b3.trans a3, b4.trans a4, b5.trans a5, b6.trans a6⟩
  · intro b B o s hb hφ
    rcases k.own b B o s hb hφ with ⟨b0, o0, s0, h0, h1⟩ | h0
    · exact h.own b0 B o0 s0 h0 h1
    · exact .inr (Nat.le_trans h.size h0)
  · intro m hm
    rcases k.nf m hm with h1 | h1
    · exact h.nf m h1
    · exact .inr (Nat.le_trans h.le h1)
  · intro b m hbm
    rcases k.its b m hbm with ⟨b', h1⟩ | h1 | h1
    · exact h.its b' m h1
    · exact .inr (h.nf m h1)
    · exact .inr (.inr (Nat.le_trans h.le h1))
theorem Stp.below {φ φ' : Ph} {H H' : Nat → Obj} {nx nx' : Nat} {w w' : World} (h : Stp φ H nx w φ' H' nx' w') (hf : ∀ b, nx ≤ b → φ b = none) : Ex.below φ φ' := by
  intro b x hx
  rcases Nat.lt_or_ge b nx with hb | hb
  · rw [h.ext b hb]; exact hx
  · rw [hf b hb] at hx; cases hx
/-- of the memory behind, less need be known -/
theorem Stp.sub {φ φ' : Ph} {H H' K : Nat → Obj} {nx nx' : Nat} {w w' : World} (h : Stp φ H nx w φ' H' nx' w') (hs : Sub K H') : Stp φ H nx w φ' K nx' w' :=
  ⟨h.le, h.ext, h.fresh, h.size, h.keep, h.loops, fun b B o s hb hφ => h.own b B o s (by rw [← hs b hb]; exact hb) hφ, h.os, h.tape, h.output,
    fun m hm => h.nf m (by rw [← hs m hm]; exact hm), fun b m hbm => h.its b m (by rw [← hs b (by obtain ⟨_, _, _, e⟩ := hbm; rw [e]; simp)]; exact hbm)⟩
theorem Stp.more {φ φ' : Ph} {H H' : Nat → Obj} {nx nx' n : Nat} {w w' : World} (h : Stp φ H nx w φ' H' nx' w') (hn : nx' ≤ n) : Stp φ H nx w φ' H' n w' :=
  ⟨Nat.le_trans h.le hn, h.ext, fun hf b hb => h.fresh hf b (by omega), h.size, h.keep, h.loops, h.own, h.os, h.tape, h.output, h.nf, h.its⟩

/-! ## The changes of memory -/
def Ph.set (φ : Ph) (b : Nat) (x : Nat × Nat × Nat) : Ph := fun y => if y = b then some x else φ y
theorem Ph.set_below {φ : Ph} {b : Nat} {x : Nat × Nat × Nat} (h : φ b = none) : Ex.below φ (φ.set b x) := by
  intro y z hy
  unfold Ph.set
  split
  · rename_i e; subst e; rw [h] at hy; cases hy
  · exact hy
theorem Ph.set_same (φ : Ph) (b : Nat) (x : Nat × Nat × Nat) : φ.set b x b = some x := by simp [Ph.set]
theorem Ph.set_ne (φ : Ph) {b y : Nat} (x : Nat × Nat × Nat) (h : y ≠ b) : φ.set b x y = φ y := by simp [Ph.set, h]
def World.put (w : World) (B : Nat) (g : Go.Obj) : World := { w with heap := w.heap.setIfInBounds B g }
def World.add (w : World) (g : Go.Obj) : World := { w with heap := w.heap.push g }
theorem put_get (w : World) (B : Nat) (g : Go.Obj) (h : B < w.heap.size) : (World.put w B g).heap[B]? = some g := by
  simp [World.put, h]
theorem put_ne (w : World) {B B' : Nat} (g : Go.Obj) (h : B' ≠ B) : (World.put w B g).heap[B']? = w.heap[B']? := by
  simp [World.put, Ne.symm h]
theorem add_get (w : World) (g : Go.Obj) : (World.add w g).heap[w.heap.size]? = some g := by simp [World.add]
theorem add_lt (w : World) (g : Go.Obj) {B : Nat} (h : B < w.heap.size) : (World.add w g).heap[B]? = w.heap[B]? := by
  simp only [World.add, Array.getElem?_push]
  rw [if_neg (by omega)]
def notIter : Obj → Bool | .miter (some _) .. | .map .. => false | _ => true
def isLoopG : Go.Obj → Bool | .loop _ => true | _ => false

/-- a new block -/
theorem RelH.new {P : Program} {φ : Ph} {H : Nat → Obj} {w : World} (h : RelH P φ H w) {n : Nat} (hn : φ n = none) (hH : H n = .free)
    {ob : Obj} {g : Go.Obj} {off sz : Nat} (hr : ObjR P (φ.set n (w.heap.size, off, sz)) ob (some g) off sz)
    (hi : ∀ m since seen last, ob = .miter (some m) since seen last → ∀ kt es cl, H m = .map kt es cl → ∀ M o s R L seen', φ m = some (M, o, s) →
      g = .mapIter R since seen' last → w.heap[M]? = some (.map L cl) → IterC since seen last cl L.toList seen') (hm : ∀ kt es cl, ob = .map kt es cl → ∀ b since seen last, H b ≠ .miter (some n) since seen last) (hself : ∀ since seen last, ob ≠ .miter (some n) since seen last) :
    RelH P (φ.set n (w.heap.size, off, sz)) (upd H n ob) (World.add w g) := by
  have below : Ex.below φ (φ.set n (w.heap.size, off, sz)) := Ph.set_below hn
  refine ⟨fun b hb => ?_, ?_, ?_⟩
  · by_cases e : b = n
    · subst e
      refine ⟨_, _, _, Ph.set_same _ _ _, by simp [World.add], ?_⟩
      rw [add_get]; simpa [upd] using hr
    · have hb' : H b ≠ .free := by simpa [upd, e] using hb
      obtain ⟨B, off', sz', h1, h2, h3⟩ := h.obj b hb'
      refine ⟨B, off', sz', by rw [Ph.set_ne _ _ e]; exact h1, by simp [World.add]; omega, ?_⟩
      rw [add_lt _ _ h2]
      simpa [upd, e] using h3.mono below
  · intro b b' B o s B' o' s' hb hb' hne h1 h2
    by_cases e : b = n <;> by_cases e' : b' = n
    · exact absurd (e.trans e'.symm) hne
    · rw [e, Ph.set_same] at h1; rw [Ph.set_ne _ _ e'] at h2
      obtain ⟨B2, _, _, k1, k2, _⟩ := h.obj b' (by simpa [upd, e'] using hb')
      rw [k1] at h2; cases h2; cases h1; omega
    · rw [e', Ph.set_same] at h2; rw [Ph.set_ne _ _ e] at h1
      obtain ⟨B2, _, _, k1, k2, _⟩ := h.obj b (by simpa [upd, e] using hb)
      rw [k1] at h1; cases h2; cases h1; omega
    · rw [Ph.set_ne _ _ e] at h1; rw [Ph.set_ne _ _ e'] at h2
      exact h.inj b b' B o s B' o' s' (by simpa [upd, e] using hb) (by simpa [upd, e'] using hb') hne h1 h2
  · intro b m since seen last kt es cl hb hm' B o s M o' s' R L seen' hB hM gB gM
    by_cases e' : m = n
    · subst e'
      rw [show upd H m ob m = ob by simp [upd]] at hm'
      by_cases e : b = m
      · subst e
        rw [show upd H b ob b = ob by simp [upd]] at hb
        exact absurd hb (hself _ _ _)
      · exact absurd (by simpa [upd, e] using hb) (hm _ _ _ hm' b since seen last)
    · have hm2 : H m = .map kt es cl := by simpa [upd, e'] using hm'
      obtain ⟨M2, o2, s2, k1, k2, _⟩ := h.obj m (by rw [hm2]; simp)
      rw [Ph.set_ne _ _ e', k1] at hM
      cases hM
      rw [add_lt _ _ k2] at gM
      by_cases e : b = n
      · subst e
        rw [Ph.set_same] at hB; cases hB
        rw [add_get] at gB; cases gB
        exact hi m since seen last (by simpa [upd] using hb) kt es cl hm2 _ _ _ R L seen' k1 rfl gM
      · rw [Ph.set_ne _ _ e] at hB
        have hb2 : H b = .miter (some m) since seen last := by simpa [upd, e] using hb
        obtain ⟨B2, o3, s3, j1, j2, _⟩ := h.obj b (by rw [hb2]; simp)
        rw [j1] at hB; cases hB
        rw [add_lt _ _ j2] at gB
        exact h.iter b m since seen last kt es cl hb2 hm2 _ _ _ _ _ _ R L seen' j1 k1 gB gM

theorem Stp.new {φ : Ph} {H : Nat → Obj} {nx : Nat} {w : World} (hf : ∀ b, nx ≤ b → φ b = none) (ob : Obj) (hit : ∀ m, overI ob m → H m ≠ .free) (g : Go.Obj) (off sz : Nat) :
    Stp φ H nx w (φ.set nx (w.heap.size, off, sz)) (upd H nx ob) (nx + 1) (World.add w g) := by
  refine ⟨by omega, fun b hb => Ph.set_ne _ _ (by omega), fun _ b hb => by rw [Ph.set_ne _ _ (by omega)]; exact hf b (by omega), by simp [World.add], fun B hB _ => add_lt _ _ hB, ?_, ?_, rfl, rfl, rfl, ?_, ?_⟩
  · intro B r hr
    have hB : B < w.heap.size := by
      rcases Nat.lt_or_ge B w.heap.size with h | h
      · exact h
      · rw [Array.getElem?_eq_none h] at hr; cases hr
    exact ⟨r, by rw [add_lt _ _ hB]; exact hr, rfl, rfl, rfl, rfl, rfl, rfl⟩
  · intro b B o s hb h1
    by_cases e : b = nx
    · subst e; rw [Ph.set_same] at h1; cases h1; exact .inr (Nat.le_refl _)
    · rw [Ph.set_ne _ _ e] at h1
      exact .inl ⟨b, o, s, by simpa [upd, e] using hb, h1⟩
  · intro m hm
    by_cases e : m = nx
    · exact .inr (by omega)
    · exact .inl (by simpa [upd, e] using hm)
  · intro b m hbm
    by_cases e : b = nx
    · subst e; rw [show upd H b ob b = ob by simp [upd]] at hbm; exact .inr (.inl (hit m hbm))
    · rw [show upd H nx ob b = H b by simp [upd, e]] at hbm; exact .inl ⟨b, hbm⟩

/-- a block that is there is turned -/
theorem RelH.set {P : Program} {φ : Ph} {H : Nat → Obj} {w : World} (h : RelH P φ H w) {b B off sz : Nat} (hb : H b ≠ .free) (hφ : φ b = some (B, off, sz))
    {ob : Obj} {g : Go.Obj} (hr : ObjR P φ ob (some g) off sz) (hi : IterR φ (upd H b ob) (World.put w B g)) :
    RelH P φ (upd H b ob) (World.put w B g) := by
  obtain ⟨B0, off0, sz0, e1, e2, _⟩ := h.obj b hb
  rw [e1] at hφ; cases hφ
  refine ⟨fun x hx => ?_, ?_, hi⟩
  · by_cases e : x = b
    · subst e
      refine ⟨_, _, _, e1, by simpa [World.put] using e2, ?_⟩
      rw [put_get _ _ _ e2]; simpa [upd] using hr
    · have hx' : H x ≠ .free := by simpa [upd, e] using hx
      obtain ⟨B', off', sz', h1, h2, h3⟩ := h.obj x hx'
      refine ⟨B', off', sz', h1, by simpa [World.put] using h2, ?_⟩
      rw [put_ne _ _ (h.inj x b _ _ _ _ _ _ hx' hb e h1 e1)]
      simpa [upd, e] using h3
  · intro x y B o s B' o' s' hx hy hne h1 h2
    have hx' : H x ≠ .free := by
      by_cases e : x = b
      · subst e; exact hb
      · simpa [upd, e] using hx
    have hy' : H y ≠ .free := by
      by_cases e : y = b
      · subst e; exact hb
      · simpa [upd, e] using hy
    exact h.inj x y B o s B' o' s' hx' hy' hne h1 h2
/-- .. if it is neither an iterator nor a map, before and behind -/
theorem RelH.iter_set {P : Program} {φ : Ph} {H : Nat → Obj} {w : World} (h : RelH P φ H w) {b B off sz : Nat} (hb : H b ≠ .free) (hφ : φ b = some (B, off, sz))
    {ob : Obj} {g : Go.Obj} (ho : notIter ob = true) : IterR φ (upd H b ob) (World.put w B g) := by
  intro x m since seen last kt es cl hx hm Bx o s M o' s' R L seen' hB hM gB gM
  have ex : x ≠ b := by rintro rfl; rw [show upd H x ob x = ob by simp [upd]] at hx; subst hx; simp [notIter] at ho
  have em : m ≠ b := by rintro rfl; rw [show upd H m ob m = ob by simp [upd]] at hm; subst hm; simp [notIter] at ho
  have hx' : H x = .miter (some m) since seen last := by simpa [upd, ex] using hx
  have hm' : H m = .map kt es cl := by simpa [upd, em] using hm
  rw [put_ne _ _ (h.inj x b _ _ _ _ _ _ (by rw [hx']; simp) hb ex hB hφ)] at gB
  rw [put_ne _ _ (h.inj m b _ _ _ _ _ _ (by rw [hm']; simp) hb em hM hφ)] at gM
  exact h.iter x m since seen last kt es cl hx' hm' _ _ _ _ _ _ R L seen' hB hM gB gM
theorem Stp.set {φ : Ph} {H : Nat → Obj} (nx : Nat) {w : World} {b B off sz : Nat} (hb : H b ≠ .free) (hφ : φ b = some (B, off, sz)) (ob : Obj) (hit : ∀ m, overI ob m → ∃ b', overI (H b') m) (g : Go.Obj)
    (hl : ∀ r : Loop, w.heap[B]? = some (.loop r) → ∃ r' : Loop, g = .loop r' ∧ r'.fn = r.fn ∧ r'.tmps = r.tmps ∧ r'.params = r.params ∧ r'.assign = r.assign ∧ r'.body = r.body ∧ r'.defers = r.defers) :
    Stp φ H nx w φ (upd H b ob) nx (World.put w B g) := by
  refine ⟨Nat.le_refl _, fun _ _ => rfl, fun hf => hf, by simp [World.put], fun B' _ hn => put_ne _ _ (Ne.symm (hn b B off sz hb hφ)), ?_, ?_, rfl, rfl, rfl, ?_, ?_⟩
  · intro B' r hr
    by_cases e : B' = B
    · subst e
      have hB : B' < w.heap.size := by
        rcases Nat.lt_or_ge B' w.heap.size with h | h
        · exact h
        · rw [Array.getElem?_eq_none h] at hr; cases hr
      obtain ⟨r', hg, h6⟩ := hl r hr
      exact ⟨r', by rw [put_get _ _ _ hB, hg], h6⟩
    · exact ⟨r, by rw [put_ne _ _ e]; exact hr, rfl, rfl, rfl, rfl, rfl, rfl⟩
  · intro x B' o s hx h1
    refine .inl ⟨x, o, s, ?_, h1⟩
    by_cases e : x = b
    · subst e; exact hb
    · simpa [upd, e] using hx
  · intro m hm
    by_cases e : m = b
    · subst e; exact .inl hb
    · exact .inl (by simpa [upd, e] using hm)
  · intro x m hxm
    by_cases e : x = b
    · subst e; rw [show upd H x ob x = ob by simp [upd]] at hxm; exact .inl (hit m hxm)
    · rw [show upd H b ob x = H x by simp [upd, e]] at hxm; exact .inl ⟨x, hxm⟩
theorem not_over {ob : Obj} (h : notIter ob = true) : ∀ m, ¬ overI ob m := by
  rintro m ⟨_, _, _, rfl⟩; cases h
/-- a part of a block goes on under a new number; the elder one is given up -/
theorem RelH.move {P : Program} {φ : Ph} {H : Nat → Obj} {w : World} (h : RelH P φ H w) {b n B off sz d : Nat} (hb : H b ≠ .free) (hφ : φ b = some (B, off, sz))
    (hn : φ n = none) (hH : H n = .free) {ob : Obj} (ho : notIter ob = true) {sz' : Nat} (hr : ∀ φ', Ex.below φ φ' → ObjR P φ' ob w.heap[B]? (off + d) sz') :
    RelH P (φ.set n (B, off + d, sz')) (upd (upd H b .free) n ob) w := by
  have below : Ex.below φ (φ.set n (B, off + d, sz')) := Ph.set_below hn
  obtain ⟨B0, off0, sz0, e1, e2, _⟩ := h.obj b hb
  rw [e1] at hφ; cases hφ
  have hbn : b ≠ n := by rintro rfl; rw [e1] at hn; cases hn
  have old : ∀ x, x ≠ n → upd (upd H b .free) n ob x ≠ .free → H x ≠ .free ∧ x ≠ b := by
    intro x hx h2
    by_cases e : x = b
    · subst e; simp [upd, hx] at h2
    · exact ⟨by simpa [upd, hx, e] using h2, e⟩
  refine ⟨fun x hx => ?_, ?_, ?_⟩
  · by_cases e : x = n
    · subst e
      exact ⟨_, _, _, Ph.set_same _ _ _, e2, by simpa [upd] using hr _ below⟩
    · obtain ⟨hx', hxb⟩ := old x e hx
      obtain ⟨B', off', sz'', h1, h2, h3⟩ := h.obj x hx'
      exact ⟨B', off', sz'', by rw [Ph.set_ne _ _ e]; exact h1, h2, by simpa [upd, e, hxb] using h3.mono below⟩
  · intro x y B' o s B'' o' s' hx hy hne h1 h2
    by_cases e : x = n <;> by_cases e' : y = n
    · exact absurd (e.trans e'.symm) hne
    · rw [e, Ph.set_same] at h1; cases h1
      rw [Ph.set_ne _ _ e'] at h2
      obtain ⟨hy', hyb⟩ := old y e' hy
      exact h.inj b y _ _ _ _ _ _ hb hy' (Ne.symm hyb) e1 h2
    · rw [e', Ph.set_same] at h2; cases h2
      rw [Ph.set_ne _ _ e] at h1
      obtain ⟨hx', hxb⟩ := old x e hx
      exact h.inj x b _ _ _ _ _ _ hx' hb hxb h1 e1
    · rw [Ph.set_ne _ _ e] at h1; rw [Ph.set_ne _ _ e'] at h2
      exact h.inj x y _ _ _ _ _ _ (old x e hx).1 (old y e' hy).1 hne h1 h2
  · intro x m since seen last kt es cl hx hm Bx o s M o' s' R L seen' hB hM gB gM
    have ex : x ≠ n := by rintro rfl; rw [show upd (upd H b .free) x ob x = ob by simp [upd]] at hx; subst hx; simp [notIter] at ho
    have em : m ≠ n := by rintro rfl; rw [show upd (upd H b .free) m ob m = ob by simp [upd]] at hm; subst hm; simp [notIter] at ho
    obtain ⟨_, xb⟩ := old x ex (by rw [hx]; simp)
    obtain ⟨_, mb⟩ := old m em (by rw [hm]; simp)
    rw [Ph.set_ne _ _ ex] at hB; rw [Ph.set_ne _ _ em] at hM
    exact h.iter x m since seen last kt es cl (by simpa [upd, ex, xb] using hx) (by simpa [upd, em, mb] using hm) _ _ _ _ _ _ R L seen' hB hM gB gM
theorem Stp.move {φ : Ph} {H : Nat → Obj} {nx : Nat} {w : World} (hf : ∀ b, nx ≤ b → φ b = none) {b B off sz : Nat} (hb : H b ≠ .free) (hφ : φ b = some (B, off, sz)) (ob : Obj) (ho : notIter ob = true) (o' s' : Nat) :
    Stp φ H nx w (φ.set nx (B, o', s')) (upd (upd H b .free) nx ob) (nx + 1) w := by
  refine ⟨by omega, fun b hb => Ph.set_ne _ _ (by omega), fun _ b hb => by rw [Ph.set_ne _ _ (by omega)]; exact hf b (by omega), Nat.le_refl _, fun _ _ _ => rfl,
    fun _ r hr => ⟨r, hr, rfl, rfl, rfl, rfl, rfl, rfl⟩, ?_, rfl, rfl, rfl, ?_, ?_⟩
  · intro x B' o s hx h1
    by_cases e : x = nx
    · subst e; rw [Ph.set_same] at h1; cases h1; exact .inl ⟨b, off, sz, hb, hφ⟩
    · rw [Ph.set_ne _ _ e] at h1
      by_cases e' : x = b
      · subst e'; simp [upd, e] at hx
      · exact .inl ⟨x, o, s, by simpa [upd, e, e'] using hx, h1⟩
  · intro m hm
    by_cases e : m = nx
    · exact .inr (by omega)
    · by_cases e' : m = b
      · subst e'; exact .inl hb
      · exact .inl (by simpa [upd, e, e'] using hm)
  · intro x m hxm
    by_cases e : x = nx
    · subst e; rw [show upd (upd H b .free) x ob x = ob by simp [upd]] at hxm; exact absurd hxm (not_over ho m)
    · by_cases e' : x = b
      · subst e'; rw [show upd (upd H x .free) nx ob x = .free by simp [upd, e]] at hxm; obtain ⟨_, _, _, h⟩ := hxm; cases h
      · rw [show upd (upd H b .free) nx ob x = H x by simp [upd, e, e']] at hxm; exact .inl ⟨x, hxm⟩
/-- draws, and no more -/
theorem RelH.same {P : Program} {φ : Ph} {H : Nat → Obj} {w w' : World} (h : RelH P φ H w) (e : w'.heap = w.heap) : RelH P φ H w' :=
  ⟨fun b hb => by rw [e]; exact h.obj b hb, h.inj, fun b m since seen last kt es cl hb hm B o s M o' s' R L seen' hB hM gB gM =>
    h.iter b m since seen last kt es cl hb hm B o s M o' s' R L seen' hB hM (by rw [← e]; exact gB) (by rw [← e]; exact gM)⟩
theorem Stp.same {φ : Ph} {H : Nat → Obj} (nx : Nat) {w w' : World} (e : w'.heap = w.heap) (ho : w'.os = w.os) (ht : w'.tape = w.tape) (hp : w'.output = w.output) : Stp φ H nx w φ H nx w' :=
  ⟨Nat.le_refl _, fun _ _ => rfl, fun h => h, by rw [e]; exact Nat.le_refl _, fun _ _ _ => by rw [e], fun _ r h => ⟨r, by rw [e]; exact h, rfl, rfl, rfl, rfl, rfl, rfl⟩, fun b _ o s hb h => .inl ⟨b, o, s, hb, h⟩, ho, ht, hp, fun _ h => .inl h, fun b _ h => .inl ⟨b, h⟩⟩
/-- a block more, of which nothing was known, is kept -/
theorem Stp.keeps {P : Program} {φ φ' : Ph} {H H' : Nat → Obj} {nx nx' : Nat} {w w' : World} (k : Stp φ H nx w φ' H' nx' w')
    {B : Nat} (hB : B < w.heap.size) (hn : ∀ b B' o s, H b ≠ .free → φ b = some (B', o, s) → B' ≠ B) {ob : Obj} {off sz : Nat} (hb : Ex.below φ φ') (hr : ObjR P φ ob w.heap[B]? off sz) :
    ObjR P φ' ob w'.heap[B]? off sz := by
  rw [k.keep B hB hn]; exact hr.mono hb
end Go.X
