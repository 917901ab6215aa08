/-
  Regions of X, in their own order and in whatever order is drawn. No conditions. An executor of its own, proved sound against the model; nothing here is of one program.
-/
import Derived.Test.YtmhjdchoeeikaaaGreatDoorXf
import Derived.RangeFuncLeaves
import Derived.RangeFuncCalls
set_option linter.unusedVariables false
namespace Go.X

/-! ## The frame -/
structure Base (φ : Ph) (nx : Nat) : Prop where
  le : 1000 ≤ nx
  gl : ∀ g, g < 1000 → ∃ sz, φ g = some (g, 0, sz)
  fr : ∀ b, nx ≤ b → φ b = none
theorem Base.step {φ φ' : Ph} {H H' : Nat → Obj} {nx nx' : Nat} {w w' : World} (h : Base φ nx) (s : Stp φ H nx w φ' H' nx' w') : Base φ' nx' :=
  ⟨Nat.le_trans h.le s.le, fun g hg => by rw [s.ext g (Nat.lt_of_lt_of_le hg h.le)]; exact h.gl g hg, s.fresh h.fr⟩
theorem Base.below {φ φ' : Ph} {H H' : Nat → Obj} {nx nx' : Nat} {w w' : World} (h : Base φ nx) (s : Stp φ H nx w φ' H' nx' w') : Ex.below φ φ' := s.below h.fr
def EnvR (φ : Ph) (msk : List Nat) (N : Nat) (env : EF) (tm : Array Value) : Prop := N ≤ tm.size ∧ ∀ t i, ixOf t msk 0 = some i → VR φ (fget i env) (tm.getD t undef)
def LocR (φ : Ph) (msk : List Nat) (past : List (Option Tmp)) (loc : List V) (tm : Array Value) : Prop :=
  ∀ t k, ixOf t msk 0 = none → locIx t past 0 = some k → VR φ (getLoc k loc) (tm.getD t undef)
theorem EnvR.mono {φ φ' : Ph} {msk : List Nat} {N : Nat} {env : EF} {tm : Array Value} (h : EnvR φ msk N env tm) (hb : Ex.below φ φ') : EnvR φ' msk N env tm :=
  ⟨h.1, fun t i ht => (h.2 t i ht).mono hb⟩
theorem LocR.mono {φ φ' : Ph} {msk : List Nat} {past : List (Option Tmp)} {loc : List V} {tm : Array Value} (h : LocR φ msk past loc tm) (hb : Ex.below φ φ') : LocR φ' msk past loc tm :=
  fun t k h1 h2 => (h t k h1 h2).mono hb
theorem locIx_add (t : Nat) : ∀ (l : List (Option Tmp)) (k : Nat), locIx t l k = (locIx t l 0).map (· + k)
  | [], k => by simp [locIx]
  | d :: r, k => by
    cases d with
    | none =>
      simp only [locIx]
      rw [locIx_add t r (k + 1), locIx_add t r (0 + 1)]
      cases locIx t r 0 <;> simp; omega
    | some u =>
      simp only [locIx]
      cases h : Nat.beq u t with
      | true => simp
      | false =>
        simp only [cond_false]
        rw [locIx_add t r (k + 1), locIx_add t r (0 + 1)]
        cases locIx t r 0 <;> simp; omega
theorem rd_ok {φ : Ph} {msk : List Nat} {N nx : Nat} {env : EF} {a : Act} {past : List (Option Tmp)} {loc : List V} (hb : Base φ nx) (he : EnvR φ msk N env a.tmps) (hl : LocR φ msk past loc a.tmps) (x : Operand) :
    VR φ (rdS (opdSrc msk past x) loc env) (a.eval x) := by
  cases x with
  | tmp t =>
    simp only [opdSrc, Act.eval]
    cases h : ixOf t msk 0 with
    | some i => exact he.2 t i h
    | none =>
      simp only
      cases h2 : locIx t past 0 with
      | none => simp only [rdS]; exact .junk _
      | some k => simp only [rdS]; exact hl t k h h2
  | const v => simp only [opdSrc, rdS, Act.eval]; exact ofV_ok v
  | global g =>
    simp only [opdSrc, rdS, Act.eval]
    cases h : Nat.ble (g + 1) 1000 with
    | false => exact .junk _
    | true =>
      have := Nat.le_of_ble_eq_true h
      obtain ⟨sz, h1⟩ := hb.gl g (by omega)
      simp only [cond_true]
      exact .ptr g 0 g 0 sz h1
  | func f => simp only [opdSrc, rdS, Act.eval]; exact .fnF f [] [] .nil
theorem put_get' (a : Act) {d : Nat} (v : Value) (h : d < a.tmps.size) : (a.put (some d) v).tmps.getD d undef = v := by
  simp [Act.put, h]
theorem put_get_ne (a : Act) {d t : Nat} (v : Value) (h : d ≠ t) : (a.put (some d) v).tmps.getD t undef = a.tmps.getD t undef := by
  simp only [Act.put, Array.getD_eq_getD_getElem?]
  rw [Array.getElem?_setIfInBounds_ne h]
theorem put_size (a : Act) (d : Option Tmp) (v : Value) : (a.put d v).tmps.size = a.tmps.size := by cases d <;> simp [Act.put]
theorem ixOf_ok : ∀ (l : List Nat) (t i k : Nat), ixOf t l k = some i → i < 64 ∧ k ≤ i ∧ l[i - k]? = some t
  | [], _, _, _, h => by simp [ixOf] at h
  | u :: r, t, i, k, h => by
    simp only [ixOf] at h
    cases hu : Nat.beq u t with
    | true =>
      rw [hu] at h
      simp only [cond_true] at h
      cases hk : Nat.ble (k + 1) 64 with
      | false => rw [hk] at h; cases h
      | true =>
        rw [hk] at h
        simp only [cond_true, Option.some.injEq] at h
        subst h
        have := Nat.le_of_ble_eq_true hk
        exact ⟨by omega, Nat.le_refl _, by simp [Nat.eq_of_beq_eq_true hu]⟩
    | false =>
      rw [hu] at h
      obtain ⟨h1, h2, h3⟩ := ixOf_ok r t i (k + 1) h
      refine ⟨h1, by omega, ?_⟩
      rw [show i - k = (i - (k + 1)) + 1 by omega]
      simpa using h3
theorem ixOf_inj {l : List Nat} {t t' i : Nat} (h : ixOf t l 0 = some i) (h' : ixOf t' l 0 = some i) : t = t' := by
  have h1 := (ixOf_ok l t i 0 h).2.2
  have h2 := (ixOf_ok l t' i 0 h').2.2
  rw [h1] at h2
  exact Option.some.inj h2
def setEnv (msk : List Nat) (env : EF) (dst : Option Tmp) (v : V) : EF := match dst with | some d => (match ixOf d msk 0 with | some i => fset i env v | none => env) | none => env
/-- a slot is set -/
theorem EnvR.set {φ : Ph} {msk : List Nat} {N : Nat} {env : EF} {tm : Array Value} (h : EnvR φ msk N env tm) {v : V} {v' : Value} (hv : VR φ v v') {d : Nat} (hd : d < tm.size) :
    EnvR φ msk N (setEnv msk env (some d) v) (tm.setIfInBounds d v') := by
  refine ⟨by simpa using h.1, fun t i ht => ?_⟩
  simp only [setEnv]
  have hi := (ixOf_ok _ _ _ _ ht).1
  by_cases e : d = t
  · subst e
    rw [ht]
    simp only
    rw [fget_set hi hi, if_pos rfl]
    have : (tm.setIfInBounds d v').getD d undef = v' := by simp [Array.getD_eq_getD_getElem?, Array.getElem?_setIfInBounds_self_of_lt hd]
    rw [this]; exact hv
  · have : (tm.setIfInBounds d v').getD t undef = tm.getD t undef := by
      simp only [Array.getD_eq_getD_getElem?]; rw [Array.getElem?_setIfInBounds_ne e]
    rw [this]
    cases hd' : ixOf d msk 0 with
    | none => exact h.2 t i ht
    | some j =>
      simp only
      have hj := (ixOf_ok _ _ _ _ hd').1
      have hne : ¬ i = j := fun e' => e (ixOf_inj hd' (by rw [← e']; exact ht))
      rw [fget_set hj hi, if_neg hne]
      exact h.2 t i ht
theorem EnvR.put {φ : Ph} {msk : List Nat} {N : Nat} {env : EF} {a : Act} (h : EnvR φ msk N env a.tmps) {v : V} {v' : Value} (hv : VR φ v v') {dst : Option Tmp} (hd : dstOk N dst = true) :
    EnvR φ msk N (setEnv msk env dst v) (a.put dst v').tmps := by
  cases dst with
  | none => exact h
  | some d => exact h.set hv (Nat.lt_of_lt_of_le (Nat.le_of_ble_eq_true hd) h.1)
theorem LocR.put {φ : Ph} {msk : List Nat} {N : Nat} {past : List (Option Tmp)} {loc : List V} {a : Act} (h : LocR φ msk past loc a.tmps) (hs : N ≤ a.tmps.size) {v : V} {v' : Value} (hv : VR φ v v') {dst : Option Tmp} (hd : dstOk N dst = true) :
    LocR φ msk (dst :: past) (v :: loc) (a.put dst v').tmps := by
  intro t k ht hk
  cases dst with
  | none =>
    simp only [locIx] at hk
    rw [locIx_add] at hk
    cases h2 : locIx t past 0 with
    | none => rw [h2] at hk; cases hk
    | some j =>
      rw [h2] at hk; simp at hk; subst hk
      exact h t j ht h2
  | some d =>
    have hd' := Nat.le_of_ble_eq_true hd
    have hlt : d < a.tmps.size := Nat.lt_of_lt_of_le hd' hs
    simp only [locIx] at hk
    cases e : Nat.beq d t with
    | true =>
      have e := Nat.eq_of_beq_eq_true e
      subst e
      rw [Nat.beq_refl] at hk; simp at hk; subst hk
      rw [put_get' _ _ hlt]; exact hv
    | false =>
      rw [e] at hk; simp only [cond_false] at hk
      have e : d ≠ t := Nat.ne_of_beq_eq_false e
      rw [locIx_add] at hk
      rw [put_get_ne _ _ e]
      cases h2 : locIx t past 0 with
      | none => rw [h2] at hk; cases hk
      | some j =>
        rw [h2] at hk; simp at hk; subst hk
        exact h t j ht h2

/-! ## What comes of calls -/
def OutR (P : Program) (φ : Ph) (H : Nat → Obj) (nx : Nat) (w : World) (r : Fin) (v : Value) (w' : World) : Prop :=
  ∃ φ', VR φ' r.v v ∧ RelH P φ' (hget r.hp) w' ∧ Stp φ H nx w φ' (hget r.hp) r.nx w'
def retPost (P : Program) (φ : Ph) (H : Nat → Obj) (nx : Nat) (w : World) (l : List Fin) : Ending → World → Prop
  | .returned v, w' => ∃ r ∈ l, OutR P φ H nx w r v w'
  | _, _ => False
structure GOk (P : Program) (G : Calls) (Lr : Ph → World → Prop) : Prop where
  mono : ∀ φ w φ' H H' nx nx' w', Lr φ w → Base φ nx → Stp φ H nx w φ' H' nx' w' → Lr φ' w'
  call : ∀ f args hp nx l, G.call f args hp nx = .ok l → ∀ φ w args', RelH P φ (hget hp) w → Base φ nx → Lr φ w → VRs φ args args'.toList →
    ∀ m, CallsIn Fence.wide m P f args' w (retPost P φ (hget hp) nx w l)
  round : ∀ lp args hp nx l, G.round lp args hp nx = .ok l → ∀ φ w args', RelH P φ (hget hp) w → Base φ nx → Lr φ w → VRs φ args args'.toList →
    ∃ B sz q, φ lp = some (B, 0, sz) ∧ w.heap[B]? = some (.loop q) ∧ args'.size = q.params.size ∧
      ∀ m, RoundIn Fence.wide m P B q.fn ((q.params.zip args').foldl (fun tmps (t, a) => tmps.setIfInBounds t a) q.tmps) q.assign q.body w (retPost P φ (hget hp) nx w l)

/-! ### Outcomes joined -/
mutual
theorem beqV_eq : ∀ {a b : V}, beqV a b = true → a = b
  | a, b, h => by
    cases a <;> cases b <;> simp only [beqV] at h <;> (try (cases h; done)) <;> (try rfl)
    · simp at h; rw [h]
    · rename_i k n k' n'
      cases hk : keq k k' with
      | false => rw [hk] at h; cases h
      | true =>
        rw [hk] at h; simp only [cond_true] at h
        rw [keq_eq] at hk; rw [ieqb_eq] at h
        simp at hk h; rw [hk, h]
    · rename_i s l s' l'
      cases hk : Nat.beq s s' with
      | false => rw [hk] at h; cases h
      | true => rw [hk] at h; simp only [cond_true] at h; rw [Nat.eq_of_beq_eq_true hk, Nat.eq_of_beq_eq_true h]
    · rename_i s l s' l'
      cases hk : Nat.beq s s' with
      | false => rw [hk] at h; cases h
      | true => rw [hk] at h; simp only [cond_true] at h; rw [Nat.eq_of_beq_eq_true hk, Nat.eq_of_beq_eq_true h]
    · rename_i b o l c e x b' o' l' c' e' x'
      cases hk : (Nat.beq b b' && Nat.beq o o' && Nat.beq l l' && Nat.beq c c' && Nat.beq e e') with
      | false => rw [hk] at h; cases h
      | true =>
        rw [hk] at h; simp at hk h
        obtain ⟨⟨⟨⟨h1, h2⟩, h3⟩, h4⟩, h5⟩ := hk
        rw [h1, h2, h3, h4, h5, h]
    · rename_i b o e b' o' e'
      cases hk : Nat.beq b b' with
      | false => rw [hk] at h; cases h
      | true =>
        rw [hk] at h; simp only [cond_true] at h
        cases hk2 : Nat.beq o o' with
        | false => rw [hk2] at h; cases h
        | true => rw [hk2] at h; simp only [cond_true] at h; rw [Nat.eq_of_beq_eq_true hk, Nat.eq_of_beq_eq_true hk2, Nat.eq_of_beq_eq_true h]
    · rw [Nat.eq_of_beq_eq_true h]
    · rename_i f l f' l'
      cases hk : fnEq f f' with
      | false => rw [hk] at h; cases h
      | true =>
        rw [hk] at h; simp only [cond_true] at h
        have : f = f' := by
          cases f <;> cases f' <;> simp only [fnEq] at hk <;> (try (cases hk; done)) <;> rw [Nat.eq_of_beq_eq_true hk]
        rw [this, beqVs_eq h]
    · rename_i t v t' v'
      cases hk : Nat.beq t t' with
      | false => rw [hk] at h; cases h
      | true => rw [hk] at h; simp only [cond_true] at h; rw [Nat.eq_of_beq_eq_true hk, beqV_eq h]
    · rw [beqVs_eq h]
    · rw [beqVs_eq h]
theorem beqVs_eq : ∀ {a b : List V}, beqVs a b = true → a = b
  | [], [], _ => rfl
  | [], _ :: _, h => by simp [beqVs] at h
  | _ :: _, [], h => by simp [beqVs] at h
  | x :: a, y :: b, h => by
    simp only [beqVs] at h
    cases hk : beqV x y with
    | false => rw [hk] at h; cases h
    | true => rw [hk] at h; simp only [cond_true] at h; rw [beqV_eq hk, beqVs_eq h]
end
end Go.X

namespace Go.X
/-- H' knows no more than H; a map's entries in whatever order -/
def Le (H' H : Nat → Obj) : Prop := ∀ b, H' b ≠ .free → H' b = H b ∨ ∃ kt es es' cl, H b = .map kt es cl ∧ H' b = .map kt es' cl ∧ es'.Perm es
theorem Sub.le {H' H : Nat → Obj} (h : Sub H' H) : Le H' H := fun b hb => .inl (h b hb)
theorem Le.ne {H' H : Nat → Obj} (h : Le H' H) {b : Nat} (hb : H' b ≠ .free) : H b ≠ .free := by
  rcases h b hb with e | ⟨kt, es, es', cl, e, _⟩
  · rw [← e]; exact hb
  · rw [e]; simp
theorem Le.trans {A B C : Nat → Obj} (h : Le A B) (k : Le B C) : Le A C := fun b hb => by
  rcases h b hb with e | ⟨kt, es, es', cl, e, e', hp⟩
  · rcases k b (h.ne hb) with f | ⟨kt, es, es', cl, f, f', hp⟩
    · exact .inl (e.trans f)
    · exact .inr ⟨kt, es, es', cl, f, e.trans f', hp⟩
  · rcases k b (h.ne hb) with f | ⟨kt2, es2, es2', cl2, f, f', hp2⟩
    · exact .inr ⟨kt, es, es', cl, f ▸ e, e', hp⟩
    · rw [f'] at e; cases e
      exact .inr ⟨kt, es2, es', cl, f, e', hp.trans hp2⟩
theorem All2.perm {α β : Type} {R : α → β → Prop} {l l' : List α} (hp : l'.Perm l) : ∀ {m : List β}, All2 R l m → ∃ m', m'.Perm m ∧ All2 R l' m' := by
  induction hp with
  | nil => intro m h; exact ⟨m, .refl _, h⟩
  | cons x _ ih =>
    intro m h
    cases h with
    | cons a b l m hr t =>
      obtain ⟨m', h1, h2⟩ := ih t
      exact ⟨b :: m', h1.cons b, .cons _ _ _ _ hr h2⟩
  | swap x y l =>
    intro m h
    cases h with
    | cons a b l m hr t =>
      cases t with
      | cons a' b' l m hr' t => exact ⟨b' :: b :: m, .swap _ _ _, .cons _ _ _ _ hr' (.cons _ _ _ _ hr t)⟩
  | trans _ _ ih1 ih2 =>
    intro m h
    obtain ⟨m1, h1, h2⟩ := ih2 h
    obtain ⟨m2, h3, h4⟩ := ih1 h2
    exact ⟨m2, h3.trans h1, h4⟩
section
variable {P : Program} {φ : Ph}
theorem MapR.perm {kt : TypeId} {es es' : List Ent} {cl : Nat} {g : Option Go.Obj} (hs : ∀ e ∈ es, keyEq e.key e.key = true) (h : MapR P φ kt es cl g) (hp : es'.Perm es) : MapR P φ kt es' cl g := by
  obtain ⟨L, l, h1, h2, h3, h4, h5, h6, h7⟩ := h
  obtain ⟨l', k1, k2⟩ := h3.perm hp
  refine ⟨L, l', h1, k1.trans h2, k2, fun e he => h4 e (hp.mem_iff.1 he), ?_, h6, h7⟩
  have hsym : ∀ {a b : Ent}, keyEq a.key b.key = false → a ∈ es → b ∈ es → keyEq b.key a.key = false := by
    intro a b hab ha hb
    cases hq : keyEq b.key a.key with
    | false => rfl
    | true => rw [keyEq_eq hq, hs a ha] at hab; cases hab
  -- over the members
  have key : ∀ {l l' : List Ent}, l'.Perm l → (∀ e ∈ l, e ∈ es) → l.Pairwise (fun a b => keyEq a.key b.key = false) → l'.Pairwise (fun a b => keyEq a.key b.key = false) := by
    intro l l' hp
    induction hp with
    | nil => intro _ h; exact h
    | cons x hp ih =>
      intro hm h
      obtain ⟨a1, a2⟩ := List.pairwise_cons.1 h
      exact List.pairwise_cons.2 ⟨fun y hy => a1 y (hp.mem_iff.1 hy), ih (fun e he => hm e (by simp [he])) a2⟩
    | swap x y l =>
      intro hm h
      obtain ⟨a1, a2⟩ := List.pairwise_cons.1 h
      obtain ⟨b1, b2⟩ := List.pairwise_cons.1 a2
      refine List.pairwise_cons.2 ⟨fun z hz => ?_, List.pairwise_cons.2 ⟨fun z hz => a1 z (by simp [hz]), b2⟩⟩
      rcases List.mem_cons.1 hz with rfl | hz
      · exact hsym (a1 y (by simp)) (hm _ (by simp)) (hm _ (by simp))
      · exact b1 z hz
    | trans hp1 hp2 ih1 ih2 => intro hm h; exact ih1 (fun e he => hm e (hp2.mem_iff.1 he)) (ih2 hm h)
  exact key hp (fun e he => he) h5
theorem RelH.le {H H' : Nat → Obj} {w : World} (h : RelH P φ H w) (hs : Le H' H) : RelH P φ H' w := by
  refine ⟨fun b hb => ?_, fun b b' B o s B' o' s' hb hb' => h.inj b b' B o s B' o' s' (hs.ne hb) (hs.ne hb'), ?_⟩
  · obtain ⟨B, off, sz, h1, h2, h3⟩ := h.obj b (hs.ne hb)
    refine ⟨B, off, sz, h1, h2, ?_⟩
    rcases hs b hb with e | ⟨kt, es, es', cl, e, e', hp⟩
    · rw [e]; exact h3
    · rw [e] at h3; rw [e']
      refine ⟨h3.1, h3.2.perm (fun a ha => ?_) hp⟩
      obtain ⟨L, l, h1, h2, h3', h4, _⟩ := h3.2
      obtain ⟨m, _, hr⟩ := h3'.fwd a ha
      exact keyEq_self (okKey_ok (h4 a ha) hr.1).2.1
  · intro b m since seen last kt es cl hb hm
    have e1 : H b = .miter (some m) since seen last := by
      rcases hs b (by rw [hb]; simp) with e | ⟨_, _, _, _, _, e', _⟩
      · rw [← e, hb]
      · rw [hb] at e'; cases e'
    have e2 : ∃ es0, H m = .map kt es0 cl := by
      rcases hs m (by rw [hm]; simp) with e | ⟨kt', es0, es', cl', e, e', hp⟩
      · exact ⟨es, by rw [← e, hm]⟩
      · rw [hm] at e'; cases e'; exact ⟨es0, e⟩
    obtain ⟨es0, e2⟩ := e2
    exact h.iter b m since seen last kt es0 cl e1 e2
theorem Stp.leS {φ φ' : Ph} {H H' K : Nat → Obj} {nx nx' : Nat} {w w' : World} (h : Stp φ H nx w φ' H' nx' w') (hs : Le K H') : Stp φ H nx w φ' K nx' w' :=
  ⟨h.le, h.ext, h.fresh, h.size, h.keep, h.loops, fun b B o s hb hφ => h.own b B o s (hs.ne hb) hφ, h.os, h.tape, h.output,
    fun m hm => h.nf m (hs.ne hm), fun b m hbm => h.its b m (by
      obtain ⟨_, _, _, e⟩ := hbm
      rcases hs b (by rw [e]; simp) with e1 | ⟨_, _, _, _, _, e1, _⟩
      · exact ⟨_, _, _, by rw [← e1]; exact e⟩
      · rw [e] at e1; cases e1)⟩
end
/-! ## joins -/
theorem beqE_eq {a b : Ent} (h : beqE a b = true) : a = b := by
  unfold beqE at h
  cases hk : beqV a.key b.key with
  | false => rw [hk] at h; cases h
  | true =>
    rw [hk] at h; simp only [cond_true] at h
    cases a; cases b
    simp only at hk h
    rw [beqV_eq hk, beqV_eq h]
theorem anyE_mem {e : Ent} : ∀ {l : List Ent}, anyE e l = true → e ∈ l
  | [], h => by simp [anyE] at h
  | f :: r, h => by
    simp only [anyE] at h
    cases hk : beqE e f with
    | true => rw [beqE_eq hk]; simp
    | false => rw [hk] at h; simp only [cond_false] at h; exact List.mem_cons_of_mem _ (anyE_mem h)
theorem perm_of_sub {α : Type} : ∀ {b a : List α}, b.Nodup → (∀ x ∈ b, x ∈ a) → a.length = b.length → a.Perm b
  | [], a, _, _, hl => by
    have : a = [] := List.length_eq_zero_iff.1 hl
    rw [this]
  | x :: b, a, hn, hs, hl => by
    obtain ⟨l1, l2, rfl⟩ := List.append_of_mem (hs x (by simp))
    obtain ⟨h1, h2⟩ := List.nodup_cons.1 hn
    have hs' : ∀ y ∈ b, y ∈ l1 ++ l2 := by
      intro y hy
      have := hs y (by simp [hy])
      simp only [List.mem_append, List.mem_cons] at this ⊢
      rcases this with h | h | h
      · exact .inl h
      · subst h; exact absurd hy h1
      · exact .inr h
    have := perm_of_sub h2 hs' (by simp at hl ⊢; omega)
    exact (List.perm_middle).trans (this.cons x)
theorem beqO_le {P : Program} {φ : Ph} {H : Nat → Obj} {w : World} (hR : RelH P φ H w) {v : Obj} {b : Nat} (h : beqO v (H b) = true) :
    v = H b ∨ ∃ kt es es' cl, H b = .map kt es cl ∧ v = .map kt es' cl ∧ es'.Perm es := by
  generalize hv : H b = v' at h
  cases v <;> cases v' <;> simp only [beqO] at h <;> (try (cases h; done)) <;> (try (exact .inl rfl))
  · rename_i a e hi a' e' hi'
    cases h1 : Nat.beq e e' with
    | false => rw [h1] at h; cases h
    | true =>
      rw [h1] at h; simp only [cond_true] at h
      cases h2 : Nat.beq hi hi' with
      | false => rw [h2] at h; cases h
      | true => rw [h2] at h; simp only [cond_true] at h; rw [Nat.eq_of_beq_eq_true h1, Nat.eq_of_beq_eq_true h2, beqVs_eq h]; exact .inl rfl
  · rename_i a l e hi a' l' e' hi'
    cases h1 : Nat.beq e e' with
    | false => rw [h1] at h; cases h
    | true =>
      rw [h1] at h; simp only [cond_true] at h
      cases h2 : Nat.beq a a' with
      | false => rw [h2] at h; cases h
      | true =>
        rw [h2] at h; simp only [cond_true] at h
        cases h3 : Nat.beq hi hi' with
        | false => rw [h3] at h; cases h
        | true => rw [h3] at h; simp only [cond_true] at h; rw [Nat.eq_of_beq_eq_true h1, Nat.eq_of_beq_eq_true h2, Nat.eq_of_beq_eq_true h3, Nat.eq_of_beq_eq_true h]; exact .inl rfl
  · rename_i k a c k' a' c'
    cases h1 : (Nat.beq k k' && Nat.beq c c' && Nat.beq (lenL a 0) (lenL a' 0)) with
    | false => rw [h1] at h; cases h
    | true =>
      rw [h1] at h; simp only [cond_true] at h
      simp only [Bool.and_eq_true, Nat.beq_eq, lenL_eq] at h1
      obtain ⟨⟨rfl, rfl⟩, hl⟩ := h1
      refine .inr ⟨k, a', a, c, rfl, rfl, ?_⟩
      obtain ⟨B, off, sz, _, _, hob⟩ := hR.obj b (by rw [hv]; simp)
      rw [hv] at hob
      obtain ⟨_, L, l, m1, m2, m3, m4, m5, _⟩ := hob
      have hn : a'.Nodup := by
        have : a'.Pairwise (fun x y => x ≠ y) := by
          refine m5.imp_of_mem (fun {x y} hx hy hxy e => ?_)
          subst e
          obtain ⟨me, _, hr⟩ := m3.fwd x hx
          rw [keyEq_self (okKey_ok (m4 x hx) hr.1).2.1] at hxy; cases hxy
        exact this
      refine perm_of_sub hn (fun x hx => ?_) (by omega)
      exact anyE_mem (allL_ok h x hx)
  · rename_i a l p a' l' p'
    cases h1 : Nat.beq a a' with
    | false => rw [h1] at h; cases h
    | true =>
      rw [h1] at h; simp only [cond_true] at h
      cases h2 : Nat.beq l l' with
      | false => rw [h2] at h; cases h
      | true => rw [h2] at h; simp only [cond_true] at h; rw [Nat.eq_of_beq_eq_true h1, Nat.eq_of_beq_eq_true h2, Nat.eq_of_beq_eq_true h]; exact .inl rfl
  · rename_i m a s l m' a' s' l'
    cases m <;> cases m' <;> simp only at h <;> (try (cases h; done))
    · cases h1 : (Nat.beq a a' && Nat.beq l l') with
      | false => rw [h1] at h; cases h
      | true => rw [h1] at h; simp only [cond_true] at h; simp at h1; rw [h1.1, h1.2, beqVs_eq h]; exact .inl rfl
    · rename_i m m'
      cases h1 : (Nat.beq m m' && Nat.beq a a' && Nat.beq l l') with
      | false => rw [h1] at h; cases h
      | true => rw [h1] at h; simp only [cond_true] at h; simp at h1; rw [h1.1.1, h1.1.2, h1.2, beqVs_eq h]; exact .inl rfl
  · rename_i s e d s' e' d'
    cases s <;> cases e <;> cases s' <;> cases e' <;> simp only at h <;> (try (cases h; done)) <;> (rw [Nat.eq_of_beq_eq_true h]; exact .inl rfl)
end Go.X

namespace Go.X
/-- joined level by level: what stands there is alike in both, or nothing is known -/
structure Jn (α : Type) (g : α → List D8 → Obj) (j : α → α → α) : Prop where
  ok : ∀ a b p, g (j a b) p ≠ .free → g (j a b) p = g a p ∧ beqO (g a p) (g b p) = true
theorem Jn.up {α : Type} {g : α → List D8 → Obj} {j : α → α → α} (h : Jn α g j) : Jn (E8 α) (gl .free g) (jl j) where
  ok := fun a b p hp => by
    cases a with
    | nil => cases p with
      | nil => exact absurd rfl hp
      | cons d r => cases b <;> cases d <;> exact absurd rfl hp
    | mk a0 a1 a2 a3 a4 a5 a6 a7 => cases b with
      | nil => cases p with
        | nil => exact absurd rfl hp
        | cons d r => cases d <;> exact absurd rfl hp
      | mk b0 b1 b2 b3 b4 b5 b6 b7 => cases p with
        | nil => exact absurd rfl hp
        | cons d r => cases d <;> exact h.ok _ _ _ hp
theorem jnO : Jn Obj (fun o _ => o) joinO where
  ok := fun a b p hp => by
    simp only [joinO] at hp ⊢
    cases h : beqO a b with
    | true => simp
    | false => rw [h] at hp; simp at hp
theorem joinT_T : ∀ (p : List Bool) (s t : HP), T.get .nil p (joinT s t) = jl (jl (jl (jl (jl (jl joinO))))) (T.get .nil p s) (T.get .nil p t) ∨ T.get .nil p (joinT s t) = .nil
  | p, .l, t => .inr (by simp [joinT, T.get_l])
  | p, .n a v c, .l => .inr (by simp [joinT, T.get_l])
  | [], .n a v c, .n a' v' c' => .inl (by simp only [joinT, T.get])
  | b :: p, .n a v c, .n a' v' c' => by
    simp only [joinT, T.get]
    cases b with
    | true => simp only [cond_true]; exact joinT_T p a a'
    | false => simp only [cond_false]; exact joinT_T p c c'
theorem joinT_get (b : Nat) (s t : HP) (h : hget (joinT s t) b ≠ .free) : hget (joinT s t) b = hget s b ∧ beqO (hget s b) (hget t b) = true := by
  unfold hget at h ⊢
  rcases joinT_T (bits (b / 262144)) s t with e | e
  · rw [e] at h ⊢
    exact jnO.up.up.up.up.up.up.ok _ _ _ h
  · rw [e] at h
    exact absurd (lvO.up.up.up.up.up.up.nil _) h
theorem joinT_left (s t : HP) : Le (hget (joinT s t)) (hget s) := fun b hb => .inl (joinT_get b s t hb).1
theorem joinT_right {P : Program} {φ : Ph} {w : World} (s t : HP) (hR : RelH P φ (hget t) w) : Le (hget (joinT s t)) (hget t) := fun b hb => by
  obtain ⟨h1, h2⟩ := joinT_get b s t hb
  have h3 := beqO_le hR (v := hget s b) (b := b) h2
  show hget (joinT s t) b = _ ∨ _
  have e : hget (joinT s t) b = hget s b := h1
  rw [e]
  exact h3
section
variable {P : Program} {φ : Ph} {H : Nat → Obj} {nx : Nat} {w : World}
theorem OutR.weak {r g : Fin} {v : Value} {w' : World} (h : OutR P φ H nx w r v w') (hv : g.v = r.v) (hn : r.nx ≤ g.nx) (hh : ∀ φ', RelH P φ' (hget r.hp) w' → Le (hget g.hp) (hget r.hp)) : OutR P φ H nx w g v w' := by
  obtain ⟨φ', h1, h2, h3⟩ := h
  exact ⟨φ', by rw [hv]; exact h1, h2.le (hh φ' h2), (h3.leS (hh φ' h2)).more hn⟩
theorem joinF_ok : ∀ (l : List Fin) (f g : Fin), joinF l f = some g → (∀ v w', OutR P φ H nx w f v w' → OutR P φ H nx w g v w') ∧ (∀ r ∈ l, ∀ v w', OutR P φ H nx w r v w' → OutR P φ H nx w g v w')
  | [], f, g, h => by simp [joinF] at h; subst h; exact ⟨fun _ _ h => h, by simp⟩
  | g0 :: r, f, g, h => by
    simp only [joinF] at h
    cases hv : beqV f.v g0.v with
    | false => rw [hv] at h; simp at h
    | true =>
      rw [hv] at h; simp only [cond_true] at h
      have e := beqV_eq hv
      obtain ⟨h1, h2⟩ := joinF_ok r _ g h
      refine ⟨fun v w' ho => h1 v w' (ho.weak rfl (Nat.le_max_left _ _) (fun φ' _ => joinT_left _ _)), fun x hx v w' ho => ?_⟩
      rcases List.mem_cons.1 hx with rfl | hx
      · exact h1 v w' (ho.weak e (Nat.le_max_right _ _) (fun φ' hR => joinT_right _ _ hR))
      · exact h2 x hx v w' ho
theorem maxNx_le : ∀ (l : List Fin) (n : Nat), n ≤ maxNx l n ∧ ∀ r ∈ l, r.nx ≤ maxNx l n
  | [], n => by simp [maxNx]
  | f :: r, n => by
    obtain ⟨h1, h2⟩ := maxNx_le r (Nat.max f.nx n)
    simp only [maxNx]
    refine ⟨Nat.le_trans (Nat.le_max_right _ _) h1, fun x hx => ?_⟩
    rcases List.mem_cons.1 hx with rfl | hx
    · exact Nat.le_trans (Nat.le_max_left _ _) h1
    · exact h2 x hx
theorem cutO_ok {φ : Ph} {o n : Nat} {ob x : Obj} (h : cutO o n ob = some x) {g : Option Go.Obj} {off sz : Nat} (hr : ObjR P φ ob g off sz) (hn : o + n ≤ sz) :
    notIter x = true ∧ x ≠ .free ∧ ob ≠ .free ∧ ∀ φ', Ex.below φ φ' → ObjR P φ' x g (off + o) (sz - o) := by
  cases ob <;> simp only [cutO] at h <;> (try (cases h; done))
  · rename_i vs e hi
    cases hq : Nat.beq (lenL (takeL n (dropL o vs)) 0) n with
    | false => rw [hq] at h; cases h
    | true =>
      rw [hq] at h; simp only [cond_true, Option.some.injEq] at h
      subst h
      have hq := Nat.eq_of_beq_eq_true hq
      rw [lenL_eq, takeL_eq, dropL_eq] at hq
      refine ⟨rfl, by simp, by simp, fun φ' hb => ?_⟩
      obtain ⟨c, h1, h2, h3, h4, h5, _⟩ := hr
      refine ⟨c, h1, by omega, by rw [takeL_eq, dropL_eq]; omega, fun i v hv => ?_, h5, fun h => absurd rfl h⟩
      rw [takeL_eq, dropL_eq, List.getElem?_take] at hv
      split at hv
      · rw [List.getElem?_drop] at hv
        obtain ⟨y, hy, hvy⟩ := h4 (o + i) v hv
        exact ⟨y, by rw [Nat.add_assoc]; exact hy, hvy.mono hb⟩
      · cases hv
  · rename_i s l e hi
    cases hq : Nat.ble (o + n) l with
    | false => rw [hq] at h; cases h
    | true =>
      rw [hq] at h; simp only [cond_true, Option.some.injEq] at h
      subst h
      have hq := Nat.le_of_ble_eq_true hq
      refine ⟨rfl, by simp, by simp, fun φ' hb => ?_⟩
      obtain ⟨c, fr, h1, h2, h3, h4, h5, h6, h7, _⟩ := hr
      have hlt : sSub s l o (o + n) < 256 ^ n := by have := sSub_lt s l o (o + n); rwa [Nat.add_sub_cancel_left] at this
      refine ⟨c, fr, h1, by omega, by omega, hlt, fun i hi => ?_, h6, h7, fun h => absurd rfl h⟩
      have h8 := h5 (o + i) (by omega)
      rw [Nat.add_assoc, h8]
      have := sSub_get s l o (o + n) i hq (by omega)
      rw [Nat.add_sub_cancel_left] at this
      rw [this]
theorem reissue_ok (hbs : ∀ b, nx ≤ b → φ b = none) {n : Nat} {r g : Fin} (hn : r.nx ≤ n) (h : reissue n r = some g) {v : Value} {w' : World} (ho : OutR P φ H nx w r v w') : OutR P φ H nx w g v w' := by
  unfold reissue at h
  obtain ⟨φ', h1, h2, h3⟩ := ho
  split at h
  · rename_i b o l c es hv
    rw [hv] at h1
    cases hc : cutO o (l * es) (hget r.hp b) with
    | none => rw [hc] at h; cases h
    | some x =>
      rw [hc] at h; simp only [Option.some.injEq] at h
      subst h
      cases h1 with
      | slcN _ _ _ _ _ B off sz ao cap k1 k2 k3 k4 k5 =>
        have hle : o + l * es ≤ sz := by have := Nat.mul_le_mul_right es k3; omega
        have hne : hget r.hp b ≠ .free := by intro h'; rw [h'] at hc; simp [cutO] at hc
        have hob : ObjR P φ' (hget r.hp b) w'.heap[B]? off sz := by
          obtain ⟨B', off', sz', e1, _, e3⟩ := h2.obj b hne
          rw [k1] at e1; cases e1; exact e3
        obtain ⟨c1, c2, c3, c4⟩ := cutO_ok hc hob hle
        have hfr : ∀ b, n ≤ b → φ' b = none := fun b hb => h3.fresh hbs b (by omega)
        have hfn : φ' n = none := hfr n (Nat.le_refl _)
        have hHn : hget r.hp n = .free := h2.nx_free hfn
        have hm := h2.move hne k1 hfn hHn c1 c4
        have hs := Stp.move (H := hget r.hp) (w := w') hfr hne k1 x c1 (off + o) (sz - o)
        refine ⟨φ'.set n (B, off + o, sz - o), ?_, ?_, ?_⟩
        · refine .slcN _ _ _ _ _ B (off + o) (sz - o) ao cap (Ph.set_same _ _ _) (fun h => ?_) k3 (by omega) k5
          have := k2 h; omega
        · show RelH P _ (hget (hset n x (hset b .free r.hp))) w'
          rw [hget_set, hget_set]; exact hm
        · show Stp φ H nx w _ (hget (hset n x (hset b .free r.hp))) (n + 1) w'
          rw [hget_set, hget_set]
          exact (h3.more hn).trans hs
  · cases h
theorem reissueL_ok {n : Nat} : ∀ {l l' : List Fin}, reissueL n l = some l' → ∀ r ∈ l, ∃ g ∈ l', reissue n r = some g
  | [], l', h, r, hr => by simp at hr
  | f :: l, l', h, r, hr => by
    simp only [reissueL] at h
    split at h
    · rename_i g m hg hm
      cases h
      rcases List.mem_cons.1 hr with rfl | hr
      · exact ⟨g, by simp, hg⟩
      · obtain ⟨g', h1, h2⟩ := reissueL_ok hm r hr
        exact ⟨g', by simp [h1], h2⟩
    · cases h
theorem joinAll_ok (hbs : ∀ b, nx ≤ b → φ b = none) {l : List Fin} {g : Fin} (h : joinAll l = some g) : ∀ r ∈ l, ∀ v w', OutR P φ H nx w r v w' → OutR P φ H nx w g v w' := by
  unfold joinAll at h
  split at h
  · cases h
  · rename_i f r
    split at h
    · rename_i g' hj
      cases h
      obtain ⟨h1, h2⟩ := joinF_ok (P := P) (φ := φ) (H := H) (nx := nx) (w := w) r f g hj
      intro x hx v w' ho
      rcases List.mem_cons.1 hx with rfl | hx
      · exact h1 v w' ho
      · exact h2 x hx v w' ho
    · split at h
      · rename_i g' r' hj
        obtain ⟨h1, h2⟩ := joinF_ok (P := P) (φ := φ) (H := H) (nx := nx) (w := w) r' g' g h
        intro x hx v w' ho
        obtain ⟨y, hy, hre⟩ := reissueL_ok hj x hx
        have := reissue_ok hbs ((maxNx_le (f :: r) 0).2 x hx) hre ho
        rcases List.mem_cons.1 hy with rfl | hy
        · exact h1 v w' this
        · exact h2 y hy v w' this
      · cases h
theorem one_ok (hbs : ∀ b, nx ≤ b → φ b = none) {a : Ans} {k : Fin → Ans} {l : List Fin} (h : one a k = .ok l) :
    ∃ L, a = .ok L ∧ ∃ g, k g = .ok l ∧ ∀ r ∈ L, ∀ v w', OutR P φ H nx w r v w' → OutR P φ H nx w g v w' := by
  unfold one at h
  split at h
  · cases h
  · cases h
  · rename_i f r
    split at h
    · exact ⟨_, rfl, f, h, fun x hx v w' ho => by simp at hx; subst hx; exact ho⟩
    · split at h
      · rename_i g hg
        exact ⟨_, rfl, _, h, joinAll_ok hbs hg⟩
      · cases h
end
end Go.X

namespace Go.X
abbrev Fr (r : Option Nat) : Fence := { Fence.wide with round := r }
theorem RelH.no_iter {P : Program} {φ : Ph} {H : Nat → Obj} {w : World} (h : RelH P φ H w) {n : Nat} (hn : φ n = none) : ∀ b since seen last, H b ≠ .miter (some n) since seen last := by
  intro b since seen last hb
  obtain ⟨B, off, sz, _, _, h3⟩ := h.obj b (by rw [hb]; simp)
  rw [hb] at h3
  obtain ⟨_, M, seen', _, R, sz', h4, _⟩ := h3
  rw [hn] at h4; cases h4
theorem sub_of_app {a b : Ans} {l : List Fin} (h : Ans.app a b = .ok l) : ∃ l1 l2, a = .ok l1 ∧ b = .ok l2 ∧ l = l1 ++ l2 := by
  cases a with
  | stuck _ => simp [Ans.app] at h
  | ok l1 =>
    cases b with
    | stuck _ => simp [Ans.app] at h
    | ok l2 => simp [Ans.app] at h; exact ⟨l1, l2, rfl, rfl, h.symm⟩
theorem putH_eq {β : Type} (b : Nat) (o : Obj) (h : HP) (k : HP → β) : putH b o h k = k (hset b o h) := by
  simp only [putH, seqO_eq, hsetK_eq]
section
variable {P : Program} {G : Calls} {Lr : Ph → World → Prop} {φ : Ph} {nx : Nat} {w : World} {hp : HP}
/-- the way on behind an effect -/
def OnOk (P : Program) (φ : Ph) (hp : HP) (nx : Nat) (w : World) (l : List Fin) (k : KV) (next : Value → World → Prop) : Prop :=
  ∀ v hp' nx' l', k v hp' nx' = .ok l' → (∀ r ∈ l', r ∈ l) → ∀ φ' v' w', VR φ' v v' → RelH P φ' (hget hp') w' → Base φ' nx' → Stp φ (hget hp) nx w φ' (hget hp') nx' w' → next v' w'
theorem OnOk.next {o : Oper} {a : Act} {F : Fence} {n : Nat} {Q : Exit → Act → World → Prop} {r : Result Next} {v' : Value} {w' : World} {K : Act → World → Prop}
    (hr : NextV r v' w') (h : K (a.put o.dst v') w') : o.uponIn F n P a K Q r := by
  rcases hr with rfl | ⟨rfl, rfl⟩
  · exact h
  · exact h
theorem fork_ok {b : Nat} : ∀ {L : List (Obj × V)} {k : KV} {l : List Fin}, forks b hp nx k L = .ok l → ∀ x ∈ L, ∃ l', k x.2 (hset b x.1 hp) nx = .ok l' ∧ ∀ r ∈ l', r ∈ l
  | [], k, l, h, x, hx => by simp at hx
  | y :: r, k, l, h, x, hx => by
    obtain ⟨o, v⟩ := y
    cases r with
    | nil =>
      simp only [forks, putH_eq, seqV_eq] at h
      simp at hx; subst hx
      exact ⟨l, h, fun _ h => h⟩
    | cons z r =>
      have e : forks b hp nx k ((o, v) :: z :: r) = Ans.app (putH b o hp fun h => seqV v fun v => k v h nx) (forks b hp nx k (z :: r)) := rfl
      rw [e, putH_eq, seqV_eq] at h
      obtain ⟨l1, l2, h1, h2, h3⟩ := sub_of_app h
      rcases List.mem_cons.1 hx with rfl | hx
      · exact ⟨l1, h1, fun x hx => by rw [h3]; simp [hx]⟩
      · obtain ⟨l', e1, e2⟩ := fork_ok h2 x hx
        exact ⟨l', e1, fun y hy => by rw [h3]; simp [e2 y hy]⟩
theorem doEff_ok (hG : GOk P G Lr) {e : Eff} {k : KV} {l : List Fin} (h : doEff G e hp nx k = .ok l) (hR : RelH P φ (hget hp) w) (hb : Base φ nx) (hL : Lr φ w) {r : Result Next} (he : EffOk P φ (hget hp) nx w e r)
    {o : Oper} {a : Act} {ro : Option Nat} {n : Nat} {Q : Exit → Act → World → Prop} {K : Act → World → Prop} (hk : OnOk P φ hp nx w l k (fun v' w' => K (a.put o.dst v') w')) :
    o.uponIn (Fr ro) n P a K Q r := by
  have hdep : (Fr ro).depth.isSome = true → 1 ≤ n := fun h => by simp [Fence.wide] at h
  cases e with
  | bad _ => simp [doEff] at h
  | val v =>
    simp only [doEff, seqV_eq] at h
    obtain ⟨v', w', h1, h2, h3, h4⟩ := he
    exact OnOk.next h1 (hk v hp nx l h (fun _ h => h) φ v' w' h2 h3 (hb.step (h4 nx)) (h4 nx))
  | new ob v =>
    simp only [doEff, putH_eq, seqV_eq, seqN_eq] at h
    obtain ⟨v', w2, g, off, sz, h1, h2, h3, h4, h5, h6, h7, h8⟩ := he
    have hfn := hb.fr nx (Nat.le_refl _)
    have hR2 := hR.same h2
    have hHn := hR2.nx_free hfn
    have s1 : Stp φ (hget hp) nx w φ (hget hp) nx w2 := Stp.same nx h2 h3 h4 h5
    have s2 := Stp.new (φ := φ) (H := hget hp) (w := w2) hb.fr ob (fun m hm => by obtain ⟨a, b, c, e⟩ := hm; exact (h8 m a b c e).1) g off sz
    have hR3 : RelH P (φ.set nx (w.heap.size, off, sz)) (upd (hget hp) nx ob) (World.add w2 g) := by
      by_cases hit : ∃ m since seen last, ob = .miter (some m) since seen last
      · obtain ⟨m, since, seen, last, hm⟩ := hit
        exact (h8 m since seen last hm).2
      · have := hR2.new hfn hHn (ob := ob) (g := g) (off := off) (sz := sz) (by rw [h2]; exact h7)
          (fun m since seen last hm => absurd ⟨m, since, seen, last, hm⟩ hit) (fun kt es cl _ => hR2.no_iter hfn) (fun since seen last hm => absurd ⟨nx, since, seen, last, hm⟩ hit)
        rw [h2] at this; exact this
    rw [h2] at s2
    have s := s1.trans s2
    rw [← hget_set] at hR3 s
    exact OnOk.next h1 (hk v _ (nx + 1) l h (fun _ h => h) _ v' _ h6 hR3 (hb.step s) s)
  | set b ob v =>
    simp only [doEff, putH_eq, seqV_eq] at h
    obtain ⟨v', w', h1, h2, h3, h4⟩ := he
    rw [← hget_set] at h3
    have s := h4 nx
    rw [← hget_set] at s
    exact OnOk.next h1 (hk v _ nx l h (fun _ h => h) φ v' w' h2 h3 (hb.step s) s)
  | setnew b ob ob2 v =>
    simp only [doEff, putH_eq, seqV_eq, seqN_eq] at h
    obtain ⟨v', w', φ', h1, h2, h3, h4, s⟩ := he
    rw [← hget_set, ← hget_set] at h4 s
    exact OnOk.next h1 (hk v _ (nx + 1) l h (fun _ h => h) φ' v' w' h2 h4 (hb.step s) s)
  | call f args =>
    simp only [doEff] at h
    obtain ⟨args', h1, h2⟩ := he
    obtain ⟨L, hL1, g, hg, hj⟩ := one_ok (P := P) (φ := φ) (H := hget hp) (nx := nx) (w := w) hb.fr h
    have hc := hG.call f args hp nx L hL1 φ w args' hR hb hL h2 (n - 1)
    rw [h1]
    refine ⟨hdep, CallsIn.mono (F := Fr ro) hc fun e w' hp' => ?_⟩
    cases e with
    | returned v =>
      obtain ⟨x, hx, ho⟩ := hp'
      obtain ⟨φ', k1, k2, k3⟩ := hj x hx v w' ho
      exact hk g.v g.hp g.nx l hg (fun _ h => h) φ' v w' k1 k2 (hb.step k3) k3
    | panicked _ => exact hp'.elim
    | outgrown => exact hp'.elim
  | round lp args =>
    simp only [doEff] at h
    obtain ⟨args', h2, h3⟩ := he
    obtain ⟨L, hL1, g, hg, hj⟩ := one_ok (P := P) (φ := φ) (H := hget hp) (nx := nx) (w := w) hb.fr h
    obtain ⟨B, sz, q, q1, q2, q3, q4⟩ := hG.round lp args hp nx L hL1 φ w args' hR hb hL h2
    rw [h3 B sz q q1 q2 q3]
    refine ⟨hdep, RoundIn.mono (F := Fr ro) (q4 (n - 1)) fun e w' hp' => ?_⟩
    cases e with
    | returned v =>
      obtain ⟨x, hx, ho⟩ := hp'
      obtain ⟨φ', k1, k2, k3⟩ := hj x hx v w' ho
      exact hk g.v g.hp g.nx l hg (fun _ h => h) φ' v w' k1 k2 (hb.step k3) k3
    | panicked _ => exact hp'.elim
    | outgrown => exact hp'.elim
  | fork b L =>
    simp only [doEff] at h
    obtain ⟨x, hx, v', w', h1, h2, h3, h4⟩ := he
    obtain ⟨l', e1, e2⟩ := fork_ok h x hx
    rw [← hget_set] at h3
    have s := h4 nx
    rw [← hget_set] at s
    exact OnOk.next h1 (hk x.2 _ nx l' e1 e2 φ v' w' h2 h3 (hb.step s) s)
end
/-! ## A region in its own order -/
theorem eff_not_defer {op : Op} {C : Cfg} {c : Cx} {G : Calls} {hp : HP} {nx : Nat} {k : KV} {l : List Fin} (h : doEff G (eff op C c) hp nx k = .ok l) : ∀ q, op ≠ .defer q := by
  rintro q rfl
  simp [eff, eBad, doEff] at h
theorem resolveR_cons {msk : List Nat} {ops : Array Oper} {i : Nat} {is : List Nat} {past : List (Option Tmp)} {o : Oper} (h : ops[i]? = some o) :
    resolveR msk ops (i :: is) past = ⟨i, o.op, o.dst, globOf msk o.dst, guardOf ops o, neverOf ops o, past, o.pos⟩ :: resolveR msk ops is (o.dst :: past) := by
  simp only [resolveR, h]
theorem wantR_ok {φ : Ph} {ops : Array Oper} {o : Oper} {tm : Array Value} {rd : Operand → V} (hrd : ∀ x, VR φ (rd x) (Act.eval ⟨tm, []⟩ x)) {i : Nat} {g : Option Nat} {past : List (Option Tmp)} {ps : String} {b : Bool}
    (h : wantR ⟨i, o.op, o.dst, g, guardOf ops o, neverOf ops o, past, ps⟩ rd = some b) : Region.wanted o (yielded ops tm) = b := by
  unfold wantR at h
  unfold Region.wanted
  cases hg : o.guard with
  | none =>
    have e1 : neverOf ops o = false := by simp [neverOf, hg]
    have e2 : guardOf ops o = none := by simp [guardOf, hg]
    simp only [e1, e2] at h
    simpa using h
  | some p =>
    obtain ⟨j, want⟩ := p
    simp only
    cases hd : (ops[j]?).bind (·.dst) with
    | none =>
      have e1 : neverOf ops o = true := by simp [neverOf, hg, hd]
      simp only [e1] at h
      have : yielded ops tm j = none := by simp [yielded, hd]
      rw [this]
      simp at h; subst h; simp
    | some d =>
      have e1 : neverOf ops o = false := by simp [neverOf, hg, hd]
      have e2 : guardOf ops o = some (.tmp d, want) := by simp [guardOf, hg, hd]
      simp only [e1, e2] at h
      have hx := hrd (.tmp d)
      have hy : yielded ops tm j = match tm.getD d undef with | .bool b => some b | _ => none := by
        simp only [yielded, hd, Option.bind_some]
        simp only [Array.getD_eq_getD_getElem?]
        cases tm[d]? with
        | none => rfl
        | some x => cases x <;> rfl
      simp only [Act.eval] at hx
      rw [hy]
      generalize hv : rd (.tmp d) = v at h hx
      generalize hxx : tm.getD d undef = x at hx
      cases hx <;> simp at h <;> first | (subst h; rfl) | (subst h; simp; done)
section
variable {C : Cfg} {G : Calls} {Lr : Ph → World → Prop} {ops : Array Oper} {msk : List Nat} {N n : Nat} {ro : Option Nat} {Q : Exit → Act → World → Prop}
theorem pushR_ok {o : ROp} {v : V} {loc : List V} {env : EF} {hp : HP} {nx : Nat} {k : KL} {l : List Fin} (h : pushR o v loc env hp nx k = .ok l) (hg : o.glob = globOf msk o.dst) :
    k (v :: loc) (setEnv msk env o.dst v) hp nx = .ok l := by
  unfold pushR at h
  unfold setEnv
  cases hd : o.dst with
  | none =>
    rw [hd] at hg
    simp only [globOf] at hg
    simp only [hg] at h
    exact h
  | some d =>
    rw [hd] at hg
    simp only [globOf] at hg
    simp only
    cases ht : ixOf d msk 0 with
    | none => rw [ht] at hg; simp only [hg] at h; exact h
    | some i => rw [ht] at hg; simp only [hg, seqV_eq, fsetK_eq] at h; exact h
theorem seqOps_ok (hC : CfgOk C) (hG : GOk C.P G Lr) (hd : dstsOk N ops = true) : ∀ (is : List Nat) (past : List (Option Tmp)) (loc : List V) (env : EF) (hp : HP) (nx : Nat) (k : KL) (l : List Fin),
    (∀ i ∈ is, i < ops.size) → seqOps C G msk (resolveR msk ops is past) loc env hp nx k = .ok l →
    ∀ (φ : Ph) (a : Act) (w : World), RelH C.P φ (hget hp) w → Base φ nx → Lr φ w → EnvR φ msk N env a.tmps → LocR φ msk past loc a.tmps →
    (∀ loc' env' hp' nx' l', k loc' env' hp' nx' = .ok l' → (∀ r ∈ l', r ∈ l) → ∀ φ' a' w', RelH C.P φ' (hget hp') w' → Base φ' nx' → EnvR φ' msk N env' a'.tmps → a'.defers = a.defers →
      Stp φ (hget hp) nx w φ' (hget hp') nx' w' → Q .normal a' w') →
    wpOpsIn (Fr ro) n C.P ops Q is a w
  | [], past, loc, env, hp, nx, k, l, _, h, φ, a, w, hR, hb, hL, hE, hLc, hk => by
    simp only [resolveR, seqOps] at h
    exact hk loc env hp nx l h (fun _ h => h) φ a w hR hb hE rfl (Stp.refl _ _ _ _)
  | i :: is, past, loc, env, hp, nx, k, l, hi, h, φ, a, w, hR, hb, hL, hE, hLc, hk => by
    have hlt := hi i (by simp)
    have ho : ops[i]? = some ops[i] := Array.getElem?_eq_getElem hlt
    generalize hoo : ops[i] = o at ho
    have hdst : dstOk N o.dst = true := by
      have := allL_ok hd o (by rw [← hoo]; simp)
      exact this
    rw [resolveR_cons ho] at h
    simp only [seqOps, stepOp] at h
    have hrd : ∀ x, VR φ (rdS (opdSrc msk past x) loc env) (a.eval x) := rd_ok hb hE hLc
    have hrd' : ∀ x, VR φ (rdS (opdSrc msk past x) loc env) (Act.eval ⟨a.tmps, []⟩ x) := fun x => by
      have := hrd x
      cases x <;> exact this
    simp only [wpOpsIn, ho]
    split at h
    · cases h
    · rename_i hw
      have hw' := wantR_ok hrd' hw
      rw [if_pos hw']
      refine ⟨fun _ _ => trivial, ?_⟩
      rw [Oper.semAt_eq _ _ _ (eff_not_defer h)]
      refine doEff_ok hG h hR hb hL (eff_ok (o := o) hC (sub_refl _) hR (hb.fr nx (Nat.le_refl _)) hb.gl (fun _ => hb.fr) (fun x _ => hrd x)) ?_
      intro v hp' nx' l' hpush hsub φ' v' w' hv hR' hb' hs
      have hpush := pushR_ok (msk := msk) hpush rfl
      have hbl := hb.below hs
      refine seqOps_ok hC hG hd is _ _ _ _ _ k l' (fun j hj => hi j (by simp [hj])) hpush φ' _ w' hR' hb' (hG.mono _ _ _ _ _ _ _ _ hL hb hs) ((hE.mono hbl).put hv hdst) ((hLc.mono hbl).put hE.1 hv hdst) ?_
      intro loc'' env'' hp'' nx'' l'' hk'' hsub' φ'' a'' w'' hR'' hb'' hE'' hdf hs''
      exact hk loc'' env'' hp'' nx'' l'' hk'' (fun r hr => hsub r (hsub' r hr)) φ'' a'' w'' hR'' hb'' hE'' (by rw [hdf]; cases o.dst <;> rfl) (hs.trans hs'')
    · rename_i hw
      have hw' := wantR_ok hrd' hw
      rw [if_neg (by rw [hw']; simp)]
      refine ⟨fun _ _ => trivial, ?_⟩
      have hpush := pushR_ok (msk := msk) h rfl
      refine seqOps_ok hC hG hd is _ _ _ _ _ k l (fun j hj => hi j (by simp [hj])) hpush φ _ w hR hb hL (hE.put (.tup _ _ .nil) hdst) (hLc.put hE.1 (.tup _ _ .nil) hdst) ?_
      intro loc'' env'' hp'' nx'' l'' hk'' hsub' φ'' a'' w'' hR'' hb'' hE'' hdf hs''
      exact hk loc'' env'' hp'' nx'' l'' hk'' hsub' φ'' a'' w'' hR'' hb'' hE'' (by rw [hdf]; cases o.dst <;> rfl) hs''
end
end Go.X

namespace Go.X
/-! ## An effect hangs on the operands alone -/
theorem rds_congr {r1 r2 : Operand → V} {h : Nat → Obj} {q : Nat} : ∀ {l : List Operand}, (∀ x ∈ l, r1 x = r2 x) → rds l ⟨r1, h, q⟩ = rds l ⟨r2, h, q⟩
  | [], _ => rfl
  | x :: l, hx => by simp only [rds]; rw [hx x (by simp), rds_congr (fun y hy => hx y (by simp [hy]))]
theorem placeA_congr {es : Nat} {r1 r2 : Operand → V} {h : Nat → Obj} {q : Nat} : ∀ {l : List (Nat × Operand)}, (∀ x ∈ l, r1 x.2 = r2 x.2) → placeA es ⟨r1, h, q⟩ l = placeA es ⟨r2, h, q⟩ l
  | [], _ => rfl
  | (i, x) :: l, hx => by simp only [placeA]; rw [hx (i, x) (by simp), placeA_congr (fun y hy => hx y (by simp [hy]))]
theorem placeS_congr {P : Program} {fs : Array Field} {r1 r2 : Operand → V} {h : Nat → Obj} {q : Nat} : ∀ {l : List (Nat × Operand)}, (∀ x ∈ l, r1 x.2 = r2 x.2) → placeS P fs ⟨r1, h, q⟩ l = placeS P fs ⟨r2, h, q⟩ l
  | [], _ => rfl
  | (i, x) :: l, hx => by simp only [placeS]; rw [hx (i, x) (by simp), placeS_congr (fun y hy => hx y (by simp [hy]))]
theorem bnd_congr {r1 r2 : Operand → V} {h : Nat → Obj} {q d : Nat} {o : Option Operand} (hx : ∀ x, o = some x → r1 x = r2 x) : bnd o d ⟨r1, h, q⟩ = bnd o d ⟨r2, h, q⟩ := by
  cases o with
  | none => rfl
  | some x => simp only [bnd]; rw [hx x rfl]
theorem callX_congr {C : Cfg} {f : FuncId} {args : List V} {r1 r2 : Operand → V} {h : Nat → Obj} {q : Nat} : callX C f args ⟨r1, h, q⟩ = callX C f args ⟨r2, h, q⟩ := rfl
theorem eff_congr {C : Cfg} {op : Op} {r1 r2 : Operand → V} {h : Nat → Obj} {q : Nat} (hx : ∀ x ∈ op.operands.toList, r1 x = r2 x) : eff op C ⟨r1, h, q⟩ = eff op C ⟨r2, h, q⟩ := by
  cases op with
  | move x => have e := hx x (by simp [Op.operands]); simp only [eff, eMove, e]
  | assign x => have e := hx x (by simp [Op.operands]); simp only [eff, eMove, e]
  | pick k a b =>
    have e := hx k (by simp [Op.operands]); have e2 := hx a (by simp [Op.operands]); have e3 := hx b (by simp [Op.operands])
    simp only [eff, effPick, e, e2, e3]
  | alloc e => rfl
  | box e x => have e := hx x (by simp [Op.operands]); simp only [eff, effBox, e]
  | build t ps =>
    have hp : ∀ p ∈ ps.toList, r1 p.2 = r2 p.2 := fun p hp => hx p.2 (by simp [Op.operands]; exact ⟨p.1, by simpa using hp⟩)
    simp only [eff, effBuild]
    have e1 : ∀ fs, placeS C.P fs ⟨r1, h, q⟩ ps.toList = placeS C.P fs ⟨r2, h, q⟩ ps.toList := fun fs => placeS_congr hp
    have e2 : ∀ es, placeA es ⟨r1, h, q⟩ ps.toList = placeA es ⟨r2, h, q⟩ ps.toList := fun es => placeA_congr hp
    simp only [e1, e2]
  | buildSlice t n ps =>
    have hp : ∀ p ∈ ps.toList, r1 p.2 = r2 p.2 := fun p hp => hx p.2 (by simp [Op.operands]; exact ⟨p.1, by simpa using hp⟩)
    simp only [eff, effBuildSlice]
    have e2 : ∀ es, placeA es ⟨r1, h, q⟩ ps.toList = placeA es ⟨r2, h, q⟩ ps.toList := fun es => placeA_congr hp
    simp only [e2]
  | insert t m k v =>
    have e := hx m (by simp [Op.operands]); have e2 := hx k (by simp [Op.operands]); have e3 := hx v (by simp [Op.operands])
    simp only [eff, effUpdate, e, e2, e3]
  | load t a => have e := hx a (by simp [Op.operands]); simp only [eff, effLoad, e]
  | store t a x => have e := hx a (by simp [Op.operands]); have e2 := hx x (by simp [Op.operands]); simp only [eff, effStore, e, e2]
  | nilCheck x => have e := hx x (by simp [Op.operands]); simp only [eff, effNil, e]
  | binOp op t x y z =>
    have e := hx x (by simp [Op.operands]); have e2 := hx y (by simp [Op.operands])
    simp only [eff, effBin, e, e2]
    rfl
  | unOp op t x => have e := hx x (by simp [Op.operands]); simp only [eff, effUn, e]
  | convert s d x => have e := hx x (by simp [Op.operands]); simp only [eff, effConv, e]
  | makeInterface t x => have e := hx x (by simp [Op.operands]); simp only [eff, effIface, e]
  | makeFunc f a b =>
    simp only [eff, effFunc]
    rw [rds_congr (fun x hx' => hx x (by simp only [Op.operands, Array.toList_append, List.mem_append]; exact .inr hx'))]
  | makeMap t r =>
    cases r with
    | none => rfl
    | some x => have e := hx x (by simp [Op.operands]); simp only [eff, eMap, eMap1, e]
  | makeSlice t l k => have e := hx l (by simp [Op.operands]); have e2 := hx k (by simp [Op.operands]); simp only [eff, effMakeSlice, e, e2]
  | slice t x lo hi mx =>
    have e := hx x (by simp [Op.operands])
    have b1 : ∀ d, bnd lo d ⟨r1, h, q⟩ = bnd lo d ⟨r2, h, q⟩ := fun d => bnd_congr fun y hy => hx y (by subst hy; simp [Op.operands])
    have b2 : ∀ d, bnd hi d ⟨r1, h, q⟩ = bnd hi d ⟨r2, h, q⟩ := fun d => bnd_congr fun y hy => hx y (by subst hy; simp [Op.operands])
    have b3 : ∀ d, bnd mx d ⟨r1, h, q⟩ = bnd mx d ⟨r2, h, q⟩ := fun d => bnd_congr fun y hy => hx y (by subst hy; simp [Op.operands])
    have b4 : ∀ y, mx = some y → r1 y = r2 y := fun y hy => hx y (by subst hy; simp [Op.operands])
    have s1 : ∀ s l, sliceS s l lo hi mx ⟨r1, h, q⟩ = sliceS s l lo hi mx ⟨r2, h, q⟩ := fun s l => by simp only [sliceS, b1, b2]
    have s0 : slice0 lo hi mx ⟨r1, h, q⟩ = slice0 lo hi mx ⟨r2, h, q⟩ := by simp only [slice0, b1, b2, b3]
    have sE : ∀ bl o len cap es, sliceE bl o len cap es lo hi mx ⟨r1, h, q⟩ = sliceE bl o len cap es lo hi mx ⟨r2, h, q⟩ := fun bl o len cap es => by simp only [sliceE, b1, b2, b3]
    have sA : ∀ bl o n es, sliceA bl o n es lo hi mx ⟨r1, h, q⟩ = sliceA bl o n es lo hi mx ⟨r2, h, q⟩ := fun bl o n es => by simp only [sliceA, sE]
    have sN : ∀ bl o len es, sliceN bl o len es lo hi mx ⟨r1, h, q⟩ = sliceN bl o len es lo hi mx ⟨r2, h, q⟩ := fun bl o len es => by
      unfold sliceN
      cases mx with
      | none => simp only [b1, b2]
      | some y => simp only [b1, b2, b4 y rfl]
    simp only [eff, effSlice, e, s1, s0, sE, sA, sN]
  | fieldAddr s x f => have e := hx x (by simp [Op.operands]); simp only [eff, effFieldAddr, e]
  | field s x f => have e := hx x (by simp [Op.operands]); simp only [eff, effField, e]
  | indexAddr t x i => have e := hx x (by simp [Op.operands]); have e2 := hx i (by simp [Op.operands]); simp only [eff, effIndexAddr, e, e2]
  | index t x i => have e := hx x (by simp [Op.operands]); have e2 := hx i (by simp [Op.operands]); simp only [eff, effIndex, e, e2]
  | lookup t x i ok => have e := hx x (by simp [Op.operands]); have e2 := hx i (by simp [Op.operands]); simp only [eff, effLookup, e, e2]
  | mapUpdate t m k v =>
    have e := hx m (by simp [Op.operands]); have e2 := hx k (by simp [Op.operands]); have e3 := hx v (by simp [Op.operands])
    simp only [eff, effUpdate, e, e2, e3]
  | range t x => have e := hx x (by simp [Op.operands]); simp only [eff, effRange, e]
  | next i s => have e := hx i (by simp [Op.operands]); simp only [eff, effNext, e]
  | entry i => have e := hx i (by simp [Op.operands]); simp only [eff, effEntry, e]
  | typeAssert x xt u ok => have e := hx x (by simp [Op.operands]); simp only [eff, effAssert, e]
  | extract x i => have e := hx x (by simp [Op.operands]); simp only [eff, effExtract, e]
  | call c =>
    simp only [eff, effCall]
    cases hq : c.callee with
    | value f =>
      have e := hx f (by simp [Op.operands, Call.operands, hq])
      have e2 := rds_congr (h := h) (q := q) (r1 := r1) (r2 := r2) (l := c.args.toList) (fun x hx' => hx x (by simp only [Op.operands, Call.operands, Array.toList_append, List.mem_append]; exact .inr hx'))
      simp only [e, e2]
      rfl
    | invoke r name =>
      have e := hx r (by simp [Op.operands, Call.operands, hq])
      have e2 := rds_congr (h := h) (q := q) (r1 := r1) (r2 := r2) (l := c.args.toList) (fun x hx' => hx x (by simp only [Op.operands, Call.operands, Array.toList_append, List.mem_append]; exact .inr hx'))
      simp only [e, e2]
      rfl
    | builtin b =>
      have ha : ∀ x ∈ c.args.toList, r1 x = r2 x := fun x hx' => hx x (by simp only [Op.operands, Call.operands, hq, Array.toList_append]; simpa using hx')
      simp only
      cases b <;> (try rfl)
      · rcases hl : c.args.toList with _ | ⟨s, _ | ⟨x, _ | ⟨y, r⟩⟩⟩ <;> simp only [effBuiltin, hl]
        rw [hl] at ha
        have e := ha s (by simp); have e2 := ha x (by simp)
        simp only [effAppend, e, e2]
        rfl
      · rcases hl : c.args.toList with _ | ⟨x, _ | ⟨y, r⟩⟩ <;> simp only [effBuiltin, hl]
        rw [hl] at ha
        have e := ha x (by simp)
        simp only [effCap, e]
      · rcases hl : c.args.toList with _ | ⟨x, _ | ⟨y, r⟩⟩ <;> simp only [effBuiltin, hl]
        rw [hl] at ha
        have e := ha x (by simp)
        simp only [effClear, e]
        rfl
      · rcases hl : c.args.toList with _ | ⟨s, _ | ⟨x, _ | ⟨y, r⟩⟩⟩ <;> simp only [effBuiltin, hl]
        rw [hl] at ha
        have e := ha s (by simp); have e2 := ha x (by simp)
        simp only [effCopy, e, e2]
        rfl
      · rcases hl : c.args.toList with _ | ⟨s, _ | ⟨x, _ | ⟨y, r⟩⟩⟩ <;> simp only [effBuiltin, hl]
        rw [hl] at ha
        have e := ha s (by simp); have e2 := ha x (by simp)
        simp only [effDelete, e, e2]
      · rcases hl : c.args.toList with _ | ⟨x, _ | ⟨y, r⟩⟩ <;> simp only [effBuiltin, hl]
        rw [hl] at ha
        have e := ha x (by simp)
        simp only [effLen, e]
        rfl
      · simp only [effBuiltin, effMM]; rw [rds_congr ha]
      · simp only [effBuiltin, effMM]; rw [rds_congr ha]
  | _ => rfl
end Go.X

namespace Go.X
theorem not_over_row {ob : Obj} (h : isRow ob = true) : ∀ m, ¬ overI ob m := by
  rintro m ⟨_, _, _, rfl⟩; cases h
/-- what K knew has gone on; what H knew beside it is as it was -/
theorem RelH.extend {P : Program} {φ φ' : Ph} {K K' H : Nat → Obj} {w w' : World} {nx nx' : Nat} (hR : RelH P φ H w) (hs : Sub K H) (hR' : RelH P φ' K' w') (hst : Stp φ K nx w φ' K' nx' w') (hb : Ex.below φ φ')
    (X : Nat → Prop) [DecidablePred X] (hX : ∀ b, X b → H b ≠ .free ∧ K b = .free ∧ b < nx ∧ ∀ m, ¬ overI (H b) m) (hI : ∀ b, X b → ∀ b', ¬ overI (K b') b) :
    RelH P φ' (fun b => if X b then H b else K' b) w' ∧ Stp φ H nx w φ' (fun b => if X b then H b else K' b) nx' w' ∧ ∀ b, X b → K' b = .free := by
  have own : ∀ b, X b → ∀ B off sz, φ b = some (B, off, sz) → ∀ b0 B' o s, K b0 ≠ .free → φ b0 = some (B', o, s) → B' ≠ B := by
    intro b hb B off sz hφ b0 B' o s hk hφ0
    obtain ⟨h1, h2, _⟩ := hX b hb
    have hne : b0 ≠ b := by rintro rfl; exact hk h2
    exact hR.inj b0 b _ _ _ _ _ _ (by rw [← hs b0 hk]; exact hk) h1 hne hφ0 hφ
  have free : ∀ b, X b → K' b = .free := by
    intro b hx
    by_cases h : K' b = .free
    · exact h
    · obtain ⟨h1, h2, h3, _⟩ := hX b hx
      obtain ⟨B, off, sz, k1, k2, _⟩ := hR.obj b h1
      have e : φ' b = some (B, off, sz) := by rw [hst.ext b h3]; exact k1
      rcases hst.own b B off sz h e with ⟨b0, o0, s0, h4, h5⟩ | h4
      · exact absurd rfl (own b hx B off sz k1 b0 B o0 s0 h4 h5)
      · omega
  have noIt : ∀ b, X b → ∀ b', ¬ overI (K' b') b := by
    intro b hx b' h
    obtain ⟨h1, h2, h3, _⟩ := hX b hx
    rcases hst.its b' b h with ⟨b0, h4⟩ | h4 | h4
    · exact hI b hx b0 h4
    · exact h4 h2
    · omega
  refine ⟨⟨fun b hbf => ?_, ?_, ?_⟩, ⟨hst.le, hst.ext, hst.fresh, hst.size, ?_, hst.loops, ?_, hst.os, hst.tape, hst.output, ?_, ?_⟩, free⟩
  · by_cases hx : X b
    · simp only [hx, if_true]
      obtain ⟨h1, h2, h3, _⟩ := hX b hx
      obtain ⟨B, off, sz, k1, k2, k3⟩ := hR.obj b h1
      refine ⟨B, off, sz, by rw [hst.ext b h3]; exact k1, Nat.lt_of_lt_of_le k2 hst.size, ?_⟩
      rw [hst.keep B k2 (own b hx B off sz k1)]
      exact k3.mono hb
    · simp only [hx, if_false] at hbf ⊢
      exact hR'.obj b hbf
  · intro b b' B o s B' o' s' h1 h2 hne e1 e2
    by_cases hx : X b <;> by_cases hx' : X b'
    · obtain ⟨a1, _, a3, _⟩ := hX b hx
      obtain ⟨b1, _, b3, _⟩ := hX b' hx'
      rw [hst.ext b a3] at e1; rw [hst.ext b' b3] at e2
      exact hR.inj b b' _ _ _ _ _ _ a1 b1 hne e1 e2
    · obtain ⟨a1, _, a3, _⟩ := hX b hx
      rw [hst.ext b a3] at e1
      simp only [hx', if_false] at h2
      obtain ⟨B0, _, _, k1, k2, _⟩ := hR.obj b a1
      rw [k1] at e1; cases e1
      rcases hst.own b' B' o' s' h2 e2 with ⟨b0, o0, s0, h4, h5⟩ | h4
      · exact Ne.symm (own b hx _ _ _ k1 b0 _ o0 s0 h4 h5)
      · omega
    · obtain ⟨a1, _, a3, _⟩ := hX b' hx'
      rw [hst.ext b' a3] at e2
      simp only [hx, if_false] at h1
      obtain ⟨B0, _, _, k1, k2, _⟩ := hR.obj b' a1
      rw [k1] at e2; cases e2
      rcases hst.own b B o s h1 e1 with ⟨b0, o0, s0, h4, h5⟩ | h4
      · exact own b' hx' _ _ _ k1 b0 _ o0 s0 h4 h5
      · omega
    · simp only [hx, hx', if_false] at h1 h2
      exact hR'.inj b b' _ _ _ _ _ _ h1 h2 hne e1 e2
  · intro b m since seen last kt es cl h1 h2 B o s M o' s' R L seen' e1 e2 g1 g2
    have hx : ¬ X b := by
      intro hx
      simp only [hx, if_true] at h1
      exact (hX b hx).2.2.2 m ⟨_, _, _, h1⟩
    simp only [hx, if_false] at h1
    have hx' : ¬ X m := fun hx' => noIt m hx' b ⟨_, _, _, h1⟩
    simp only [hx', if_false] at h2
    exact hR'.iter b m since seen last kt es cl h1 h2 B o s M o' s' R L seen' e1 e2 g1 g2
  · intro B hB hn
    exact hst.keep B hB fun b0 B' o s hk hφ => hn b0 B' o s (by rw [← hs b0 hk]; exact hk) hφ
  · intro b B o s h1 e1
    by_cases hx : X b
    · obtain ⟨a1, _, a3, _⟩ := hX b hx
      exact .inl ⟨b, o, s, a1, by rw [← hst.ext b a3]; exact e1⟩
    · simp only [hx, if_false] at h1
      rcases hst.own b B o s h1 e1 with ⟨b0, o0, s0, h4, h5⟩ | h4
      · exact .inl ⟨b0, o0, s0, by rw [← hs b0 h4]; exact h4, h5⟩
      · exact .inr h4
  · intro m hm
    by_cases hx : X m
    · exact .inl (hX m hx).1
    · simp only [hx, if_false] at hm
      rcases hst.nf m hm with h | h
      · exact .inl (by rw [← hs m h]; exact h)
      · exact .inr h
  · intro b m hbm
    by_cases hx : X b
    · simp only [hx, if_true] at hbm
      exact absurd hbm ((hX b hx).2.2.2 m)
    · simp only [hx, if_false] at hbm
      rcases hst.its b m hbm with ⟨b0, h4⟩ | h4 | h4
      · refine .inl ⟨b0, ?_⟩
        rw [← hs b0 (by obtain ⟨_, _, _, e⟩ := h4; rw [e]; simp)]; exact h4
      · exact .inr (.inl (by rw [← hs m h4]; exact h4))
      · exact .inr (.inr h4)
/-- a new block under a number that was kept for it -/
theorem Stp.addAt {φ0 φ : Ph} {H0 H : Nat → Obj} {nx0 nx id : Nat} {w0 w : World} (h : Stp φ0 H0 nx0 w0 φ H nx w) (h0 : nx0 ≤ id) (h1 : id < nx) {ob : Obj} (ho : ∀ m, ¬ overI ob m) (g : Go.Obj) (off sz : Nat) :
    Stp φ0 H0 nx0 w0 (φ.set id (w.heap.size, off, sz)) (upd H id ob) nx (World.add w g) := by
  refine ⟨h.le, fun b hb => by rw [Ph.set_ne _ _ (by omega)]; exact h.ext b hb, fun hf b hb => by rw [Ph.set_ne _ _ (by omega)]; exact h.fresh hf b hb, by have := h.size; simp [World.add]; omega, ?_, ?_, ?_, h.os, h.tape, h.output, ?_, ?_⟩
  · intro B hB hn
    rw [add_lt _ _ (Nat.lt_of_lt_of_le hB h.size)]; exact h.keep B hB hn
  · intro B r hr
    obtain ⟨r', k1, k2⟩ := h.loops B r hr
    have hB : B < w.heap.size := (Array.getElem?_eq_some_iff.1 k1).1
    exact ⟨r', by rw [add_lt _ _ hB]; exact k1, k2⟩
  · intro b B o s hb e
    by_cases hbi : b = id
    · subst hbi; rw [Ph.set_same] at e; cases e; exact .inr h.size
    · rw [Ph.set_ne _ _ hbi] at e
      exact h.own b B o s (by simpa [upd, hbi] using hb) e
  · intro m hm
    by_cases e : m = id
    · exact .inr (by omega)
    · exact h.nf m (by simpa [upd, e] using hm)
  · intro b m hbm
    by_cases e : b = id
    · subst e; rw [upd_same] at hbm; exact absurd hbm (ho m)
    · rw [upd_ne _ _ e] at hbm; exact h.its b m hbm
end Go.X

namespace Go.X
/-! ## A region that draws: its steps -/
structure SS where
  vers : List Ver
  cur : Ver
  nw : Nat → Option Obj
  al : Nat → Option V
  nx : Nat
def setO {α : Type} (f : Nat → Option α) (d : Option Nat) (v : α) : Nat → Option α := fun t => if d = some t then some v else f t
def hsub (n nx0 mask mprev : Nat) (nw : Nat → Option Obj) (h : Nat → Obj) : Nat → Obj := fun b =>
  if nx0 ≤ b ∧ b < nx0 + n ∧ Nat.testBit mask (b - nx0) = true ∧ Nat.testBit mprev (b - nx0) = false then (match nw (b - nx0) with | some ob => ob | none => h b) else h b
def rdF (msk : List Nat) (env : EF) (al : Nat → Option V) (x : Operand) : V := match x with
  | .tmp t => (match al t with
    | some v => v
    | none => (match ixOf t msk 0 with | some i => fget i env | none => .junk))
  | x => rdS (opdSrc msk [] x) [] env
def looksD (d : DOp) : List Nat := tmpsOf d.op ++ (match d.guard with | some (.tmp t, _) => [t] | _ => [])
section
variable (C : Cfg) (G : Calls) (msk : List Nat) (env : EF) (nx0 n : Nat)
inductive DStep (y : DOp) (S : SS) : SS → Prop
  | skip (h : wantD y (rdF msk env S.al) = some false) : DStep y S ⟨S.vers, S.cur, S.nw, setO S.al y.dst und, S.nx⟩
  | small (v : V) (h : wantD y (rdF msk env S.al) = some true) (hb : y.big = false)
      (hv : ∀ x ∈ S.cur :: S.vers, ahead y.mask x.next = false → ∃ (hp : Nat → Obj) (q : Nat), Sub hp (hsub n nx0 y.mask x.mprev S.nw (hget x.base)) ∧ (q = nx0 + y.ix ∨ S.nx ≤ q) ∧
        eff y.op C ⟨rdF msk env S.al, hp, q⟩ = .val v) : DStep y S ⟨S.vers, S.cur, S.nw, setO S.al y.dst v, S.nx⟩
  | new (ob : Obj) (v : V) (h : wantD y (rdF msk env S.al) = some true) (hb : y.big = false) (hr : isRow ob = true)
      (he : eff y.op C ⟨rdF msk env S.al, fun _ => .free, nx0 + y.ix⟩ = .new ob v) : DStep y S ⟨S.vers, S.cur, setO S.nw (some y.ix) ob, setO S.al y.dst v, S.nx⟩
  | big (hp : HP) (v : V) (h' : HP) (nx' : Nat) (h : wantD y (rdF msk env S.al) = some true) (hb : y.big = true) (hh : hget hp = hsub n nx0 y.mask S.cur.mprev S.nw (hget S.cur.base))
      (he : ∀ k : KV, doEff G (eff y.op C ⟨rdF msk env S.al, hget hp, S.nx⟩) hp S.nx k = k v h' nx') (hn : S.nx ≤ nx') :
      DStep y S ⟨⟨S.cur.mprev, S.cur.base, some y.ix⟩ :: S.vers, ⟨y.mask, h', none⟩, S.nw, setO S.al y.dst v, nx'⟩
inductive DRun : List DOp → SS → SS → Prop
  | nil (S : SS) : DRun [] S S
  | cons (y : DOp) (r : List DOp) (S S1 S2 : SS) (h : DStep C G msk env nx0 n y S S1) (t : DRun r S1 S2) : DRun (y :: r) S S2
end
section
variable {C : Cfg} {G : Calls} {msk : List Nat} {env : EF} {nx0 n : Nat}
def lookW (i : Nat) : List (Nat × Obj) → Option Obj
  | [] => none
  | x :: r => if x.1 = i then some x.2 else lookW i r
def DS.abs (st : DS) : SS := ⟨st.vers, st.cur, fun i => lookW i st.news, fun t => lookA t st.al, st.nx⟩
theorem newsH_get : ∀ (news : List (Nat × Obj)) (mask mprev : Nat) (h : HP), (∀ x ∈ news, x.1 < n) → hget (newsH mask mprev nx0 news h) = hsub n nx0 mask mprev (fun i => lookW i news) (hget h)
  | [], mask, mprev, h, _ => by
    funext b
    simp only [newsH, hsub, lookW]
    split <;> rfl
  | x :: r, mask, mprev, h, hn => by
    have ih := newsH_get r mask mprev h (fun y hy => hn y (by simp [hy]))
    have hx := hn x (by simp)
    funext b
    simp only [newsH]
    cases hc : (Nat.testBit mask x.1 && !(Nat.testBit mprev x.1)) with
    | true =>
      simp only [cond_true]
      rw [hget_set, ih]
      simp only [Bool.and_eq_true, Bool.not_eq_true'] at hc
      unfold upd
      by_cases e : b = nx0 + x.1
      · subst e
        have e2 : nx0 + x.1 - nx0 = x.1 := by omega
        simp [hsub, e2, lookW, hc.1, hc.2, hx]
      · rw [if_neg e]
        unfold hsub
        split
        · rename_i hh
          have : x.1 ≠ b - nx0 := by omega
          simp [lookW, this]
        · rfl
    | false =>
      simp only [cond_false]
      rw [ih]
      unfold hsub
      split
      · rename_i hh
        have : x.1 ≠ b - nx0 := by
          intro e
          rw [e, hh.2.2.1, hh.2.2.2] at hc; cases hc
        simp [lookW, this]
      · rfl
theorem lookA_push (d : Option Tmp) (v : V) (al : List (Tmp × V)) : (fun t => lookA t (pushA d v al)) = setO (fun t => lookA t al) d v := by
  funext t
  cases d with
  | none => simp [pushA, setO]
  | some u =>
    simp only [pushA, lookA, setO, Option.some.injEq]
    by_cases e : u = t
    · subst e; simp
    · have : Nat.beq u t = false := by rw [Bool.eq_false_iff]; intro h; exact e (Nat.eq_of_beq_eq_true h)
      simp [this, e]
theorem lookW_push (i : Nat) (ob : Obj) (l : List (Nat × Obj)) : (fun j => lookW j ((i, ob) :: l)) = setO (fun j => lookW j l) (some i) ob := by
  funext j; simp only [lookW, setO, Option.some.injEq]
theorem rdA_abs (al : List (Tmp × V)) : rdA msk env al = rdF msk env (fun t => lookA t al) := by
  funext x; cases x <;> rfl
theorem one_all {a : Ans} {k0 : Fin → Ans} {l : List Fin} (h : one a k0 = .ok l) : ∃ g, k0 g = .ok l ∧ ∀ k : Fin → Ans, one a k = k g := by
  unfold one at h
  split at h
  · cases h
  · cases h
  · rename_i f r
    split at h
    · exact ⟨f, h, fun k => rfl⟩
    · rename_i hne
      split at h
      · rename_i g hg
        refine ⟨_, h, fun k => ?_⟩
        unfold one
        cases r with
        | nil => exact absurd rfl hne
        | cons x r => simp only [hg]
      · cases h
theorem doEff_all {e : Eff} {hp : HP} {nx : Nat} {k0 : KV} {l : List Fin} (h : doEff G e hp nx k0 = .ok l) (hf : ∀ b L, e ≠ .fork b L) : ∃ v h' nx', k0 v h' nx' = .ok l ∧ ∀ k : KV, doEff G e hp nx k = k v h' nx' := by
  cases e with
  | bad _ => simp [doEff] at h
  | val v => simp only [doEff, seqV_eq] at h ⊢; exact ⟨_, _, _, h, fun _ => rfl⟩
  | new ob v => simp only [doEff, putH_eq, seqV_eq, seqN_eq] at h ⊢; exact ⟨_, _, _, h, fun _ => rfl⟩
  | set b ob v => simp only [doEff, putH_eq, seqV_eq] at h ⊢; exact ⟨_, _, _, h, fun _ => rfl⟩
  | setnew b ob ob2 v => simp only [doEff, putH_eq, seqV_eq, seqN_eq] at h ⊢; exact ⟨_, _, _, h, fun _ => rfl⟩
  | call f args =>
    simp only [doEff] at h ⊢
    obtain ⟨g, h1, h2⟩ := one_all h
    exact ⟨_, _, _, h1, fun k => h2 _⟩
  | round f args =>
    simp only [doEff] at h ⊢
    obtain ⟨g, h1, h2⟩ := one_all h
    exact ⟨_, _, _, h1, fun k => h2 _⟩
  | fork b L => exact absurd rfl (hf b L)
theorem stableV_ok {op : Op} {rd : Operand → V} {nx mask : Nat} {news : List (Nat × Obj)} {v : V} : ∀ {l : List Ver}, stableV C op rd nx mask nx0 news v l = true →
    ∀ x ∈ l, ahead mask x.next = false → valOn C op rd nx (newsH mask x.mprev nx0 news x.base) = some v
  | [], _, x, hx, _ => by simp at hx
  | y :: r, h, x, hx, ha => by
    simp only [stableV] at h
    cases hq : ahead mask y.next with
    | true =>
      rw [hq] at h
      rcases List.mem_cons.1 hx with rfl | hx
      · rw [ha] at hq; cases hq
      · exact stableV_ok h x hx ha
    | false =>
      rw [hq] at h
      simp only [cond_false] at h
      cases hv : isV v (valOn C op rd nx (newsH mask y.mprev nx0 news y.base)) with
      | false => rw [hv] at h; cases h
      | true =>
        rw [hv] at h
        rcases List.mem_cons.1 hx with rfl | hx
        · cases ho : valOn C op rd nx (newsH mask x.mprev nx0 news x.base) with
          | none => rw [ho] at hv; cases hv
          | some w => rw [ho] at hv; rw [beqV_eq hv]
        · exact stableV_ok h x hx ha
theorem valOn_ok {op : Op} {rd : Operand → V} {nx : Nat} {h : HP} {v : V} (hv : valOn C op rd nx h = some v) : eff op C ⟨rd, hget h, nx⟩ = .val v := by
  unfold valOn at hv
  split at hv
  · rename_i w hw; cases hv; exact hw
  · cases hv
theorem sub_l (H : Nat → Obj) : Sub (fun _ => .free) H := fun b hb => absurd rfl hb
theorem drawOps_run : ∀ (ds : List DOp) (st : DS) (k : DS → Ans) (l : List Fin), drawOps C G msk env nx0 ds st k = .ok l → (∀ x ∈ st.news, x.1 < n) → (∀ d ∈ ds, d.ix < n) →
    ∃ st', DRun C G msk env nx0 n ds st.abs st'.abs ∧ k st' = .ok l ∧ ∀ x ∈ st'.news, x.1 < n
  | [], st, k, l, h, hn, _ => ⟨st, .nil _, h, hn⟩
  | d :: r, st, k, l, h, hn, hd => by
    have hr : ∀ d ∈ r, d.ix < n := fun y hy => hd y (by simp [hy])
    simp only [drawOps] at h
    rw [rdA_abs] at h
    split at h
    · cases h
    · rename_i hw
      obtain ⟨st', h1, h2, h3⟩ := drawOps_run r _ k l h hn hr
      refine ⟨st', .cons _ _ _ _ _ (.skip hw) ?_, h2, h3⟩
      simpa only [DS.abs, lookA_push] using h1
    · rename_i hw
      split at h
      · rename_i hb
        split at h
        · cases h
        · rename_i e hne
          obtain ⟨v, h', nx', h1, h2⟩ := doEff_all h (fun b L e => hne b L e)
          cases hle : Nat.ble st.nx nx' with
          | false => simp [hle] at h1
          | true =>
          simp only [hle, Bool.not_true, cond_false] at h1
          obtain ⟨st', k1, k2, k3⟩ := drawOps_run r _ k l h1 hn hr
          refine ⟨st', .cons _ _ _ _ _ (.big _ v h' nx' hw hb (newsH_get _ _ _ _ hn) h2 (Nat.le_of_ble_eq_true hle)) ?_, k2, k3⟩
          simpa only [DS.abs, lookA_push] using k1
      · rename_i hb
        split at h
        · rename_i v hv
          rw [seqV_eq] at h
          obtain ⟨st', k1, k2, k3⟩ := drawOps_run r _ k l h hn hr
          refine ⟨st', .cons _ _ _ _ _ (.small v hw hb fun x _ _ => ⟨fun _ => .free, nx0 + d.ix, sub_l _, .inl rfl, hv⟩) ?_, k2, k3⟩
          simpa only [DS.abs, lookA_push] using k1
        · rename_i ob v hv
          split at h
          · rename_i hro
            rw [seqO_eq, seqV_eq] at h
            obtain ⟨st', k1, k2, k3⟩ := drawOps_run r _ k l h (fun x hx => by
              rcases List.mem_cons.1 hx with rfl | hx
              · exact hd d (by simp)
              · exact hn x hx) hr
            refine ⟨st', .cons _ _ _ _ _ (.new ob v hw hb hro hv) ?_, k2, k3⟩
            simpa only [DS.abs, lookA_push, lookW_push] using k1
          · cases h
        · split at h
          · rename_i v hv
            split at h
            · rename_i hs
              rw [seqV_eq] at h
              obtain ⟨st', k1, k2, k3⟩ := drawOps_run r _ k l h hn hr
              refine ⟨st', .cons _ _ _ _ _ (.small v hw hb fun x hx ha => ?_) ?_, k2, k3⟩
              · refine ⟨hget (newsH d.mask x.mprev nx0 st.news x.base), st.nx, by rw [newsH_get (n := n) _ _ _ _ hn]; exact sub_refl _, .inr (Nat.le_refl _), ?_⟩
                rcases List.mem_cons.1 hx with rfl | hx
                · exact valOn_ok hv
                · exact valOn_ok (stableV_ok hs x hx ha)
              · simpa only [DS.abs, lookA_push] using k1
            · cases h
          · cases h
/-! ### Two that are apart change places -/
structure ApartD (z y : DOp) : Prop where
  big : y.big = false
  m1 : Nat.testBit y.mask z.ix = false
  m2 : Nat.testBit z.mask y.ix = false
  ix : z.ix ≠ y.ix
  l1 : ∀ d, z.dst = some d → d ∉ looksD y
  l2 : ∀ d, y.dst = some d → d ∉ looksD z
  dd : ∀ d, z.dst = some d → y.dst ≠ some d
theorem setO_comm {α : Type} {f : Nat → Option α} {d e : Option Nat} {u v : α} (h : ∀ x, d = some x → e ≠ some x) : setO (setO f d u) e v = setO (setO f e v) d u := by
  funext t
  simp only [setO]
  by_cases h1 : d = some t
  · simp [h1, h t h1]
  · simp [h1]
theorem rdF_set {al : Nat → Option V} {d : Option Nat} {v : V} {y : DOp} (h : ∀ t, d = some t → t ∉ looksD y) : (∀ x ∈ y.op.operands.toList, rdF msk env (setO al d v) x = rdF msk env al x) ∧
    wantD y (rdF msk env (setO al d v)) = wantD y (rdF msk env al) := by
  have key : ∀ t, t ∈ looksD y → rdF msk env (setO al d v) (.tmp t) = rdF msk env al (.tmp t) := by
    intro t ht
    simp only [rdF, setO]
    rw [if_neg (fun e => h t e ht)]
  refine ⟨fun x hx => ?_, ?_⟩
  · cases x with
    | tmp t => exact key t (List.mem_append_left _ (List.mem_filterMap.2 ⟨.tmp t, hx, rfl⟩))
    | _ => rfl
  · unfold wantD
    cases y.never with
    | true => rfl
    | false =>
      cases hg : y.guard with
      | none => rfl
      | some p =>
        obtain ⟨x, want⟩ := p
        cases x with
        | tmp t =>
          simp only
          rw [key t (List.mem_append_right _ (by simp [hg]))]
        | _ => rfl
theorem hsub_set {mask mprev : Nat} {nw : Nat → Option Obj} {h : Nat → Obj} {i : Nat} {ob : Obj} (hm : Nat.testBit mask i = false) : hsub n nx0 mask mprev (setO nw (some i) ob) h = hsub n nx0 mask mprev nw h := by
  funext b
  unfold hsub
  split
  · rename_i hh
    have : i ≠ b - nx0 := by rintro rfl; rw [hh.2.2.1] at hm; cases hm
    simp [setO, this]
  · rfl
theorem DStep.swap {z y : DOp} {S S1 S2 : SS} (ha : ApartD z y) (h1 : DStep C G msk env nx0 n z S S1) (h2 : DStep C G msk env nx0 n y S1 S2) :
    ∃ S1', DStep C G msk env nx0 n y S S1' ∧ DStep C G msk env nx0 n z S1' S2 := by
  have rz : ∀ (v : V), (∀ x ∈ z.op.operands.toList, rdF msk env (setO S.al y.dst v) x = rdF msk env S.al x) ∧ wantD z (rdF msk env (setO S.al y.dst v)) = wantD z (rdF msk env S.al) := fun v => rdF_set ha.l2
  have ry : ∀ (v : V), (∀ x ∈ y.op.operands.toList, rdF msk env (setO S.al z.dst v) x = rdF msk env S.al x) ∧ wantD y (rdF msk env (setO S.al z.dst v)) = wantD y (rdF msk env S.al) := fun v => rdF_set ha.l1
  have cal : ∀ u v : V, setO (setO S.al z.dst u) y.dst v = setO (setO S.al y.dst v) z.dst u := fun u v => setO_comm ha.dd
  have cnw : ∀ u v : Obj, setO (setO S.nw (some z.ix) u) (some y.ix) v = setO (setO S.nw (some y.ix) v) (some z.ix) u := fun u v => setO_comm fun x e1 e2 => ha.ix ((Option.some.inj e1).trans (Option.some.inj e2).symm)
  have hb2 : y.big = true → False := fun h => by rw [ha.big] at h; cases h
  cases h1 with
  | skip hw1 =>
    cases h2 with
    | skip hw2 =>
      refine ⟨_, .skip (by rw [← (ry _).2]; exact hw2), ?_⟩
      rw [cal]
      exact .skip (S := ⟨S.vers, S.cur, S.nw, setO S.al y.dst und, S.nx⟩) (by rw [(rz _).2]; exact hw1)
    | small v hw2 hb hv =>
      refine ⟨_, .small v (by rw [← (ry _).2]; exact hw2) hb (fun x hx hah => ?_), ?_⟩
      · obtain ⟨hp, q, k1, k2, k3⟩ := hv x hx hah
        exact ⟨hp, q, k1, k2, by rw [← k3]; exact (eff_congr (ry _).1).symm⟩
      · rw [cal]
        exact .skip (S := ⟨S.vers, S.cur, S.nw, setO S.al y.dst v, S.nx⟩) (by rw [(rz _).2]; exact hw1)
    | new ob v hw2 hb hr he =>
      refine ⟨_, .new ob v (by rw [← (ry _).2]; exact hw2) hb hr (by rw [← he]; exact (eff_congr (ry _).1).symm), ?_⟩
      rw [cal]
      exact .skip (S := ⟨S.vers, S.cur, setO S.nw (some y.ix) ob, setO S.al y.dst v, S.nx⟩) (by rw [(rz _).2]; exact hw1)
    | big hp v h' nx' hw2 hb => exact (hb2 hb).elim
  | small vz hw1 hbz hvz =>
    have tail : ∀ (vy : V) (nw' : Nat → Option Obj), (nw' = S.nw ∨ ∃ ob, nw' = setO S.nw (some y.ix) ob) → DStep C G msk env nx0 n z ⟨S.vers, S.cur, nw', setO S.al y.dst vy, S.nx⟩ ⟨S.vers, S.cur, nw', setO (setO S.al y.dst vy) z.dst vz, S.nx⟩ := by
      intro vy nw' hnw
      refine .small (S := ⟨S.vers, S.cur, nw', setO S.al y.dst vy, S.nx⟩) vz (by rw [(rz _).2]; exact hw1) hbz (fun x hx hah => ?_)
      obtain ⟨hp, q, k1, k2, k3⟩ := hvz x hx hah
      refine ⟨hp, q, ?_, k2, by rw [← k3]; exact eff_congr (rz _).1⟩
      rcases hnw with rfl | ⟨ob, rfl⟩
      · exact k1
      · simp only; rw [hsub_set ha.m2]; exact k1
    cases h2 with
    | skip hw2 =>
      refine ⟨_, .skip (by rw [← (ry _).2]; exact hw2), ?_⟩
      rw [cal]; exact tail _ _ (.inl rfl)
    | small v hw2 hb hv =>
      refine ⟨_, .small v (by rw [← (ry _).2]; exact hw2) hb (fun x hx hah => ?_), ?_⟩
      · obtain ⟨hp, q, k1, k2, k3⟩ := hv x hx hah
        exact ⟨hp, q, k1, k2, by rw [← k3]; exact (eff_congr (ry _).1).symm⟩
      · rw [cal]; exact tail _ _ (.inl rfl)
    | new ob v hw2 hb hr he =>
      refine ⟨_, .new ob v (by rw [← (ry _).2]; exact hw2) hb hr (by rw [← he]; exact (eff_congr (ry _).1).symm), ?_⟩
      rw [cal]; exact tail _ _ (.inr ⟨ob, rfl⟩)
    | big hp v h' nx' hw2 hb => exact (hb2 hb).elim
  | new obz vz hw1 hbz hrz hez =>
    have tail : ∀ (vy : V) (nw' : Nat → Option Obj), DStep C G msk env nx0 n z ⟨S.vers, S.cur, nw', setO S.al y.dst vy, S.nx⟩ ⟨S.vers, S.cur, setO nw' (some z.ix) obz, setO (setO S.al y.dst vy) z.dst vz, S.nx⟩ := by
      intro vy nw'
      exact .new (S := ⟨S.vers, S.cur, nw', setO S.al y.dst vy, S.nx⟩) obz vz (by rw [(rz _).2]; exact hw1) hbz hrz (by rw [← hez]; exact eff_congr (rz _).1)
    cases h2 with
    | skip hw2 =>
      refine ⟨_, .skip (by rw [← (ry _).2]; exact hw2), ?_⟩
      rw [cal]; exact tail _ _
    | small v hw2 hb hv =>
      refine ⟨_, .small v (by rw [← (ry _).2]; exact hw2) hb (fun x hx hah => ?_), ?_⟩
      · obtain ⟨hp, q, k1, k2, k3⟩ := hv x hx hah
        simp only at k1
        rw [hsub_set ha.m1] at k1
        exact ⟨hp, q, k1, k2, by rw [← k3]; exact (eff_congr (ry _).1).symm⟩
      · rw [cal]; exact tail _ _
    | new ob v hw2 hb hr he =>
      refine ⟨_, .new ob v (by rw [← (ry _).2]; exact hw2) hb hr (by rw [← he]; exact (eff_congr (ry _).1).symm), ?_⟩
      rw [cal, cnw]; exact tail _ _
    | big hp v h' nx' hw2 hb => exact (hb2 hb).elim
  | big hpz vz hz' nxz hw1 hbz hhz hez hlez =>
    have tail : ∀ (vy : V) (nw' : Nat → Option Obj), (nw' = S.nw ∨ ∃ ob, nw' = setO S.nw (some y.ix) ob) → DStep C G msk env nx0 n z ⟨S.vers, S.cur, nw', setO S.al y.dst vy, S.nx⟩
        ⟨⟨S.cur.mprev, S.cur.base, some z.ix⟩ :: S.vers, ⟨z.mask, hz', none⟩, nw', setO (setO S.al y.dst vy) z.dst vz, nxz⟩ := by
      intro vy nw' hnw
      refine .big (S := ⟨S.vers, S.cur, nw', setO S.al y.dst vy, S.nx⟩) hpz vz hz' nxz (by rw [(rz _).2]; exact hw1) hbz ?_ ?_ hlez
      · rcases hnw with rfl | ⟨ob, rfl⟩
        · exact hhz
        · simp only; rw [hsub_set ha.m2]; exact hhz
      · intro k
        rw [← hez k]
        simp only
        rw [eff_congr (rz _).1]
    have vv : ∀ x ∈ S.cur :: S.vers, ahead y.mask x.next = false → ∃ x' ∈ (⟨z.mask, hz', none⟩ :: ⟨S.cur.mprev, S.cur.base, some z.ix⟩ :: S.vers : List Ver), ahead y.mask x'.next = false ∧ x'.mprev = x.mprev ∧ x'.base = x.base := by
      intro x hx hah
      rcases List.mem_cons.1 hx with rfl | hx
      · exact ⟨⟨S.cur.mprev, S.cur.base, some z.ix⟩, by simp, by simp only [ahead]; exact ha.m1, rfl, rfl⟩
      · exact ⟨x, by simp [hx], hah, rfl, rfl⟩
    cases h2 with
    | skip hw2 =>
      refine ⟨_, .skip (by rw [← (ry _).2]; exact hw2), ?_⟩
      simp only; rw [cal]; exact tail _ _ (.inl rfl)
    | small v hw2 hb hv =>
      refine ⟨_, .small v (by rw [← (ry _).2]; exact hw2) hb (fun x hx hah => ?_), ?_⟩
      · obtain ⟨x', g1, g2, g3, g4⟩ := vv x hx hah
        obtain ⟨hp, q, k1, k2, k3⟩ := hv x' g1 g2
        rw [g3, g4] at k1
        exact ⟨hp, q, k1, k2.imp id (fun h => Nat.le_trans hlez h), by rw [← k3]; exact (eff_congr (ry _).1).symm⟩
      · simp only; rw [cal]; exact tail _ _ (.inl rfl)
    | new ob v hw2 hb hr he =>
      refine ⟨_, .new ob v (by rw [← (ry _).2]; exact hw2) hb hr (by rw [← he]; exact (eff_congr (ry _).1).symm), ?_⟩
      simp only; rw [cal]; exact tail _ _ (.inr ⟨ob, rfl⟩)
    | big hp v h' nx' hw2 hb => exact (hb2 hb).elim
end
end Go.X

namespace Go.X
/-- the memory at hand: the last great one's, and what has been laid since -/
def hcur (n nx0 : Nat) (S : SS) : Nat → Obj := fun b =>
  if nx0 ≤ b ∧ b < nx0 + n ∧ Nat.testBit S.cur.mprev (b - nx0) = false then (match S.nw (b - nx0) with | some ob => ob | none => hget S.cur.base b) else hget S.cur.base b
structure DR (P : Program) (n nx0 : Nat) (tm0 : Array Value) (df0 : List Deferred) (φ0 : Ph) (hp0 : HP) (w0 : World) (S : SS) (φ : Ph) (a : Act) (w : World) : Prop where
  rel : RelH P φ (hcur n nx0 S) w
  slots : ∀ i, i < n → S.nw i = none → φ (nx0 + i) = none
  le : nx0 + n ≤ S.nx
  base : ∀ i, i < n → Nat.testBit S.cur.mprev i = false → hget S.cur.base (nx0 + i) = .free
  its : ∀ i, i < n → Nat.testBit S.cur.mprev i = false → ∀ b, ¬ overI (hcur n nx0 S b) (nx0 + i)
  al : ∀ t v, S.al t = some v → VR φ v (a.tmps.getD t undef)
  old : ∀ t, S.al t = none → a.tmps.getD t undef = tm0.getD t undef
  size : a.tmps.size = tm0.size
  defers : a.defers = df0
  stp : Stp φ0 (hget hp0) nx0 w0 φ (hcur n nx0 S) S.nx w
  rows : ∀ i ob, S.nw i = some ob → isRow ob = true
  cn : S.cur.next = none
section
variable {P : Program} {n nx0 : Nat} {tm0 : Array Value} {df0 : List Deferred} {φ0 : Ph} {hp0 : HP} {w0 : World} {S : SS} {φ : Ph} {a : Act} {w : World}
theorem DR.freeAt (h : DR P n nx0 tm0 df0 φ0 hp0 w0 S φ a w) (hb : Base φ0 nx0) : ∀ b, S.nx ≤ b → φ b = none := h.stp.fresh hb.fr
theorem DR.toBase (h : DR P n nx0 tm0 df0 φ0 hp0 w0 S φ a w) (hb : Base φ0 nx0) : Base φ S.nx := hb.step h.stp
theorem hsub_sub (h : DR P n nx0 tm0 df0 φ0 hp0 w0 S φ a w) (mask : Nat) : Sub (hsub n nx0 mask S.cur.mprev S.nw (hget S.cur.base)) (hcur n nx0 S) := by
  intro b hb
  unfold hsub at hb ⊢
  unfold hcur
  split at hb
  · rename_i hh
    rw [if_pos hh, if_pos ⟨hh.1, hh.2.1, hh.2.2.2⟩]
    all_goals (try (cases S.nw (b - nx0) <;> rfl))
  · rename_i hh
    rw [if_neg hh]
    split
    · rename_i h2
      have hfree := h.base (b - nx0) (by omega) h2.2.2
      rw [show nx0 + (b - nx0) = b by omega] at hfree
      exact absurd hfree hb
    · rfl
theorem rdF_ok {msk : List Nat} {N : Nat} {env : EF} (h : DR P n nx0 tm0 df0 φ0 hp0 w0 S φ a w) (hb : Base φ0 nx0) (he : EnvR φ0 msk N env tm0) (x : Operand) : VR φ (rdF msk env S.al x) (a.eval x) := by
  cases x with
  | tmp t =>
    simp only [rdF, Act.eval]
    cases hal : S.al t with
    | some v => exact h.al t v hal
    | none =>
      simp only
      cases ht : ixOf t msk 0 with
      | none => exact .junk _
      | some i =>
        simp only
        rw [h.old t hal]
        exact (he.2 t i ht).mono (h.stp.below hb.fr)
  | const v => exact ofV_ok v
  | global g =>
    have hb' := h.toBase hb
    simp only [rdF, opdSrc, rdS, Act.eval]
    cases hg : Nat.ble (g + 1) 1000 with
    | false => exact .junk _
    | true =>
      have := Nat.le_of_ble_eq_true hg
      obtain ⟨sz, h1⟩ := hb'.gl g (by omega)
      exact .ptr g 0 g 0 sz h1
  | func f => exact .fnF f [] [] .nil
theorem al_put {al : Nat → Option V} {dst : Option Tmp} {v : V} {v' : Value} {N : Nat} (hd : dstOk N dst = true) (hN : N ≤ a.tmps.size) (hv : VR φ v v') (h1 : ∀ t v, al t = some v → VR φ v (a.tmps.getD t undef)) (h2 : ∀ t, al t = none → a.tmps.getD t undef = tm0.getD t undef) :
    (∀ t u, setO al dst v t = some u → VR φ u ((a.put dst v').tmps.getD t undef)) ∧ (∀ t, setO al dst v t = none → (a.put dst v').tmps.getD t undef = tm0.getD t undef) := by
  cases dst with
  | none => exact ⟨fun t u h => h1 t u (by simpa [setO] using h), fun t h => h2 t (by simpa [setO] using h)⟩
  | some d =>
    have hlt : d < a.tmps.size := Nat.lt_of_lt_of_le (Nat.le_of_ble_eq_true hd) hN
    refine ⟨fun t u h => ?_, fun t h => ?_⟩
    · by_cases e : d = t
      · subst e; simp [setO] at h; subst h; rw [put_get' _ _ hlt]; exact hv
      · rw [put_get_ne _ _ e]; exact h1 t u (by simpa [setO, e] using h)
    · by_cases e : d = t
      · subst e; simp [setO] at h
      · rw [put_get_ne _ _ e]; exact h2 t (by simpa [setO, e] using h)
/-- nothing but values has come -/
theorem DR.vals {N : Nat} (h : DR P n nx0 tm0 df0 φ0 hp0 w0 S φ a w) {dst : Option Tmp} {v : V} {v' : Value} {w' : World} (hd : dstOk N dst = true) (hN : N ≤ tm0.size) (hv : VR φ v v') (hR : RelH P φ (hcur n nx0 S) w') (hs : ∀ nx, Stp φ (hcur n nx0 S) nx w φ (hcur n nx0 S) nx w') :
    DR P n nx0 tm0 df0 φ0 hp0 w0 ⟨S.vers, S.cur, S.nw, setO S.al dst v, S.nx⟩ φ (a.put dst v') w' := by
  obtain ⟨k1, k2⟩ := al_put hd (by rw [h.size]; exact hN) hv h.al h.old
  exact ⟨hR, h.slots, h.le, h.base, h.its, k1, k2, by rw [put_size]; exact h.size, by rw [← h.defers]; cases dst <;> rfl, h.stp.trans (hs S.nx), h.rows, h.cn⟩
end
section
variable {C : Cfg} {G : Calls} {Lr : Ph → World → Prop} {msk : List Nat} {N : Nat} {env : EF} {n nx0 : Nat} {tm0 : Array Value} {df0 : List Deferred} {φ0 : Ph} {hp0 : HP} {w0 : World} {S S' : SS} {φ : Ph} {a : Act} {w : World}
  {ops : Array Oper} {Q : Exit → Act → World → Prop} {ro : Option Nat} {m : Nat} {y : DOp} {o : Oper}
structure OfOps (ops : Array Oper) (y : DOp) (o : Oper) : Prop where
  op : y.op = o.op
  dst : y.dst = o.dst
  guard : y.guard = guardOf ops o
  never : y.never = neverOf ops o
  big : y.big = isBig o.op
theorem wantD_ok (hy : OfOps ops y o) {rd : Operand → V} (hrd : ∀ x, VR φ (rd x) (a.eval x)) {b : Bool} (h : wantD y rd = some b) : Region.wanted o (yielded ops a.tmps) = b := by
  refine wantR_ok (φ := φ) (rd := rd) (fun x => ?_) (i := 0) (g := none) (past := []) (ps := "") (b := b) ?_
  · have := hrd x; cases x <;> exact this
  · unfold wantD at h
    unfold wantR
    rw [hy.guard, hy.never] at h
    exact h
theorem head_ok (hC : CfgOk C) (hG : GOk C.P G Lr) (hb0 : Base φ0 nx0) (hL0 : Lr φ0 w0) (he : EnvR φ0 msk N env tm0) (ho : ops[y.ix]? = some o) (hy : OfOps ops y o) (hd : dstOk N o.dst = true)
    (hstep : DStep C G msk env nx0 n y S S') (h : DR C.P n nx0 tm0 df0 φ0 hp0 w0 S φ a w) (hnw : S.nw y.ix = none) (hmp : Nat.testBit S.cur.mprev y.ix = false) (hix : y.ix < n)
    (hbig : y.big = true → ∀ i, Nat.testBit S.cur.mprev i = true → Nat.testBit y.mask i = true) {K : Act → World → Prop} (hK : ∀ φ' a' w', DR C.P n nx0 tm0 df0 φ0 hp0 w0 S' φ' a' w' → K a' w') :
    wpOpIn (Fr ro) m C.P ops Q y.ix K a w := by
  have hrd : ∀ x, VR φ (rdF msk env S.al x) (a.eval x) := rdF_ok h hb0 he
  have hN : N ≤ tm0.size := he.1
  have hb := h.toBase hb0
  have hL : Lr φ w := hG.mono φ0 w0 φ _ _ _ _ w hL0 hb0 h.stp
  have hd' : dstOk N y.dst = true := by rw [hy.dst]; exact hd
  unfold Go.wpOpIn
  simp only [ho]
  cases hstep with
  | skip hw =>
    rw [if_neg (by rw [wantD_ok hy hrd hw]; simp)]
    refine ⟨fun _ _ => trivial, hK φ _ w ?_⟩
    rw [← hy.dst]
    exact h.vals hd' hN (.tup _ _ .nil) h.rel (fun nx => Stp.refl _ _ _ _)
  | small v hw hbg hv =>
    rw [if_pos (wantD_ok hy hrd hw)]
    refine ⟨fun _ _ => trivial, ?_⟩
    obtain ⟨hp, q, k1, k2, k3⟩ := hv S.cur (by simp) (by rw [h.cn]; rfl)
    have hq : φ q = none := by
      rcases k2 with rfl | k2
      · exact h.slots y.ix hix hnw
      · exact h.freeAt hb0 q k2
    have hnd : ∀ c, o.op ≠ .defer c := by
      intro c hc
      rw [hy.op, hc] at k3
      simp [eff, eBad] at k3
    rw [Oper.semAt_eq _ _ _ hnd]
    have hef := eff_ok (o := o) (ρ := a.eval) (c := ⟨rdF msk env S.al, hp, q⟩) hC (k1.trans (hsub_sub h _)) h.rel hq hb.gl (fun hbb => by rw [hy.big, hbb] at hbg; cases hbg) (fun x _ => hrd x)
    rw [← hy.op, k3] at hef
    obtain ⟨v', w', h1, h2, h3, h4⟩ := hef
    refine OnOk.next h1 (hK φ _ w' ?_)
    rw [← hy.dst]
    exact h.vals hd' hN h2 h3 h4
  | new ob v hw hbg hro hef0 =>
    rw [if_pos (wantD_ok hy hrd hw)]
    refine ⟨fun _ _ => trivial, ?_⟩
    have hnd : ∀ c, o.op ≠ .defer c := by
      intro c hc
      rw [hy.op, hc] at hef0
      simp [eff, eBad] at hef0
    rw [Oper.semAt_eq _ _ _ hnd]
    have hid : φ (nx0 + y.ix) = none := h.slots y.ix hix hnw
    have hef := eff_ok (o := o) (ρ := a.eval) (c := ⟨rdF msk env S.al, fun _ => .free, nx0 + y.ix⟩) hC (sub_l _) h.rel hid hb.gl (fun hbb => by rw [hy.big, hbb] at hbg; cases hbg) (fun x _ => hrd x)
    rw [← hy.op, hef0] at hef
    obtain ⟨v', w2, g, off, sz, h1, h2, h3, h4, h5, h6, h7, _⟩ := hef
    simp only at h6 h7
    have hR2 := h.rel.same h2
    have hit : ∀ m, ¬ overI ob m := not_over_row hro
    have hnew : RelH C.P (φ.set (nx0 + y.ix) (w2.heap.size, off, sz)) (upd (hcur n nx0 S) (nx0 + y.ix) ob) (World.add w2 g) :=
      hR2.new hid (hR2.nx_free hid) (by rw [h2]; exact h7) (fun m since seen last e => absurd ⟨_, _, _, e⟩ (hit m)) (fun kt es cl _ => hR2.no_iter hid) (fun since seen last e => hit _ ⟨_, _, _, e⟩)
    have hs1 : Stp φ0 (hget hp0) nx0 w0 φ (hcur n nx0 S) S.nx w2 := h.stp.trans (Stp.same S.nx h2 h3 h4 h5)
    have hs2 := hs1.addAt (id := nx0 + y.ix) (by omega) (by have := h.le; omega) hit g off sz
    have hcur' : hcur n nx0 ⟨S.vers, S.cur, setO S.nw (some y.ix) ob, setO S.al y.dst v, S.nx⟩ = upd (hcur n nx0 S) (nx0 + y.ix) ob := by
      funext b
      unfold hcur upd
      by_cases e : b = nx0 + y.ix
      · subst e
        have e2 : nx0 + y.ix - nx0 = y.ix := by omega
        simp [e2, setO, hmp, hix]
      · simp only [e, if_false]
        split
        · rename_i hh
          have : y.ix ≠ b - nx0 := by omega
          simp [setO, this]
        · rfl
    have hbelow : Ex.below φ (φ.set (nx0 + y.ix) (w2.heap.size, off, sz)) := Ph.set_below hid
    rw [h2] at hs2 hnew hbelow
    obtain ⟨k1, k2⟩ := al_put (v' := v') hd' (by rw [h.size]; exact hN) h6 (fun t u ht => (h.al t u ht).mono hbelow) h.old
    refine OnOk.next h1 (hK (φ.set (nx0 + y.ix) (w.heap.size, off, sz)) _ (World.add w2 g) ?_)
    rw [← hy.dst]
    refine ⟨by rw [hcur']; exact hnew, ?_, h.le, h.base, ?_, k1, k2, by rw [put_size]; exact h.size, by rw [← h.defers]; cases y.dst <;> rfl, by rw [hcur']; exact hs2, ?_, h.cn⟩
    · intro i hi hn
      simp only [setO] at hn
      split at hn
      · cases hn
      · rename_i hne
        have : i ≠ y.ix := fun e => hne (by rw [e])
        rw [Ph.set_ne _ _ (by omega)]
        exact h.slots i hi hn
    · intro i hi hm b
      rw [hcur']
      by_cases e : b = nx0 + y.ix
      · subst e; rw [upd_same]; exact hit _
      · rw [upd_ne _ _ e]; exact h.its i hi hm b
    · intro i ob' hn
      simp only [setO] at hn
      split at hn
      · cases hn; exact hro
      · exact h.rows i ob' hn
  | big hp v h' nx' hw hbg hh hef0 hle =>
    rw [if_pos (wantD_ok hy hrd hw)]
    refine ⟨fun _ _ => trivial, ?_⟩
    have hdo : doEff G (eff y.op C ⟨rdF msk env S.al, hget hp, S.nx⟩) hp S.nx (fun v h nx => .ok [⟨v, h, nx, .norm, .nil⟩]) = .ok [⟨v, h', nx', .norm, .nil⟩] := hef0 _
    have hnd : ∀ c, o.op ≠ .defer c := by
      rw [← hy.op]; exact eff_not_defer hdo
    rw [Oper.semAt_eq _ _ _ hnd]
    have hsb : Sub (hget hp) (hcur n nx0 S) := by rw [hh]; exact hsub_sub h _
    have hRp : RelH C.P φ (hget hp) w := h.rel.sub hsb
    have hef := eff_ok (o := o) (ρ := a.eval) (c := ⟨rdF msk env S.al, hget hp, S.nx⟩) hC (sub_refl _) hRp (hb.fr _ (Nat.le_refl _)) hb.gl (fun _ => hb.fr) (fun x _ => hrd x)
    rw [← hy.op] at hef
    refine doEff_ok hG hdo hRp hb hL hef ?_
    intro v1 hp1 nx1 l' hl' hsubl φ' v' w' hv' hR' hb' hst
    simp only [Ans.ok.injEq] at hl'
    subst hl'
    have := hsubl _ (List.mem_singleton.2 rfl)
    simp only [List.mem_singleton, Fin.mk.injEq] at this
    obtain ⟨rfl, rfl, rfl, _⟩ := this
    have hbelow : Ex.below φ φ' := hb.below hst
    -- what lies beside
    let X : Nat → Prop := fun b => nx0 ≤ b ∧ b < nx0 + n ∧ Nat.testBit y.mask (b - nx0) = false ∧ (S.nw (b - nx0)).isSome = true
    have hXm : ∀ b, X b → Nat.testBit S.cur.mprev (b - nx0) = false := by
      intro b hb
      cases hq : Nat.testBit S.cur.mprev (b - nx0) with
      | false => rfl
      | true => have := hbig hbg _ hq; rw [hb.2.2.1] at this; cases this
    have hXc : ∀ b, X b → ∃ ob, S.nw (b - nx0) = some ob ∧ hcur n nx0 S b = ob := by
      intro b hb
      obtain ⟨ob, hob⟩ := Option.isSome_iff_exists.1 hb.2.2.2
      refine ⟨ob, hob, ?_⟩
      unfold hcur
      rw [if_pos ⟨hb.1, hb.2.1, hXm b hb⟩, hob]
    have hXk : ∀ b, X b → hget hp b = .free := by
      intro b hb
      rw [hh]
      unfold hsub
      rw [if_neg (by rintro ⟨_, _, h3, _⟩; rw [hb.2.2.1] at h3; cases h3)]
      have := h.base (b - nx0) (by have := hb.2.1; have := hb.1; omega) (hXm b hb)
      rwa [show nx0 + (b - nx0) = b by have := hb.1; omega] at this
    have hext := RelH.extend h.rel hsb hR' hst hbelow X (fun b hb => by
        obtain ⟨ob, h1, h2⟩ := hXc b hb
        have hro := h.rows _ _ h1
        refine ⟨(by rw [h2]; intro e; rw [e] at hro; cases hro), hXk b hb, (by have := h.le; have := hb.2.1; omega), (by rw [h2]; exact not_over_row hro)⟩)
      (fun b hb b' hov => by
        have h1 := h.its (b - nx0) (by have := hb.2.1; have := hb.1; omega) (hXm b hb) b'
        rw [show nx0 + (b - nx0) = b by have := hb.1; omega] at h1
        refine h1 ?_
        rw [← hsb b' (by obtain ⟨_, _, _, e⟩ := hov; rw [e]; simp)]; exact hov)
    obtain ⟨e1, e2, e3⟩ := hext
    have hcur' : hcur n nx0 ⟨⟨S.cur.mprev, S.cur.base, some y.ix⟩ :: S.vers, ⟨y.mask, hp1, none⟩, S.nw, setO S.al y.dst v1, nx1⟩ = fun b => if X b then hcur n nx0 S b else hget hp1 b := by
      funext b
      by_cases hx : X b
      · obtain ⟨ob, h1, h2⟩ := hXc b hx
        simp only [hx, if_true]
        rw [h2]
        unfold hcur
        simp only
        rw [if_pos ⟨hx.1, hx.2.1, hx.2.2.1⟩, h1]
      · simp only [hx, if_false]
        unfold hcur
        simp only
        split
        · rename_i hq
          cases hnw' : S.nw (b - nx0) with
          | none => rfl
          | some ob => exact absurd ⟨hq.1, hq.2.1, hq.2.2, by rw [hnw']; rfl⟩ hx
        · rfl
    have hstp := h.stp.trans e2
    obtain ⟨k1, k2⟩ := al_put (v' := v') hd' (by rw [h.size]; exact hN) hv' (fun t u ht => (h.al t u ht).mono hbelow) h.old
    have hslots : ∀ i, i < n → S.nw i = none → φ' (nx0 + i) = none := fun i hi hn => by
      rw [hst.ext _ (by have := h.le; omega)]; exact h.slots i hi hn
    have hbase : ∀ i, i < n → Nat.testBit y.mask i = false → hget hp1 (nx0 + i) = .free := by
      intro i hi hm
      cases hn : S.nw i with
      | none => exact hR'.nx_free (hslots i hi hn)
      | some ob =>
        refine e3 (nx0 + i) ⟨by omega, by omega, ?_, ?_⟩
        · rw [show nx0 + i - nx0 = i by omega]; exact hm
        · rw [show nx0 + i - nx0 = i by omega, hn]; rfl
    refine hK φ' _ w' ?_
    rw [← hy.dst]
    refine ⟨by rw [hcur']; exact e1, hslots, by have := h.le; simp only; omega, hbase, ?_, k1, k2, by rw [put_size]; exact h.size, by rw [← h.defers]; cases y.dst <;> rfl, by rw [hcur']; exact hstp, h.rows, rfl⟩
    intro i hi hm b
    simp only at hm
    rw [hcur']
    have hmp' : Nat.testBit S.cur.mprev i = false := by
      cases hq : Nat.testBit S.cur.mprev i with
      | false => rfl
      | true => have := hbig hbg _ hq; rw [hm] at this; cases this
    by_cases hx : X b
    · obtain ⟨ob, h1, h2⟩ := hXc b hx
      simp only [hx, if_true]
      rw [h2]
      exact not_over_row (h.rows _ _ h1) _
    · simp only [hx, if_false]
      intro hov
      rcases hst.its b _ hov with ⟨b0, h4⟩ | h4 | h4
      · refine h.its i hi hmp' b0 ?_
        rw [← hsb b0 (by obtain ⟨_, _, _, e⟩ := h4; rw [e]; simp)]; exact h4
      · apply h4
        rw [hh]
        unfold hsub
        rw [if_neg (by rintro ⟨_, _, h3, _⟩; rw [show nx0 + i - nx0 = i by omega, hm] at h3; cases h3)]
        exact h.base i hi hmp'
      · have := h.le; omega
end
end Go.X

namespace Go.X
/-! ## A region that draws: whatever order comes -/
section
variable {C : Cfg} {G : Calls} {msk : List Nat} {env : EF} {nx0 n : Nat}
theorem DRun.front : ∀ {ds1 : List DOp} {y : DOp} {ds2 : List DOp} {S S' : SS}, DRun C G msk env nx0 n (ds1 ++ y :: ds2) S S' → (∀ z ∈ ds1, ApartD z y) →
    ∃ S1, DStep C G msk env nx0 n y S S1 ∧ DRun C G msk env nx0 n (ds1 ++ ds2) S1 S'
  | [], y, ds2, S, S', h, _ => by
    cases h with
    | cons _ _ _ S1 _ h1 h2 => exact ⟨S1, h1, h2⟩
  | z :: ds1, y, ds2, S, S', h, ha => by
    cases h with
    | cons _ _ _ Sz _ h1 h2 =>
      obtain ⟨Sy, k1, k2⟩ := DRun.front h2 (fun x hx => ha x (by simp [hx]))
      obtain ⟨S1, j1, j2⟩ := DStep.swap (ha z (by simp)) h1 k1
      exact ⟨S1, j1, .cons _ _ _ _ _ j2 k2⟩
end
theorem foldl_bits (ms : List (Nat × Nat)) (i : Nat) : ∀ (l : List Nat) (m : Nat), Nat.testBit (l.foldl (fun m j => Nat.lor m (Nat.lor (2 ^ j) (masks.lookN j ms))) m) i = true ↔
    Nat.testBit m i = true ∨ ∃ j ∈ l, i = j ∨ Nat.testBit (masks.lookN j ms) i = true
  | [], m => by simp
  | j :: l, m => by
    rw [List.foldl_cons, foldl_bits ms i l]
    have : Nat.testBit (Nat.lor m (Nat.lor (2 ^ j) (masks.lookN j ms))) i = (Nat.testBit m i || (decide (j = i) || Nat.testBit (masks.lookN j ms) i)) := by
      show Nat.testBit (m ||| (2 ^ j ||| masks.lookN j ms)) i = _
      rw [Nat.testBit_or, Nat.testBit_or, Nat.testBit_two_pow]
    rw [this]
    simp only [Bool.or_eq_true, decide_eq_true_eq, List.mem_cons, exists_eq_or_imp, or_assoc]
    constructor
    · rintro (h | h | h | h)
      · exact .inl h
      · exact .inr (.inl h.symm)
      · exact .inr (.inr (.inl h))
      · exact .inr (.inr (.inr h))
    · rintro (h | h | h | h)
      · exact .inl h
      · exact .inr (.inl h.symm)
      · exact .inr (.inr (.inl h))
      · exact .inr (.inr (.inr h))
theorem dopsOf_ok {ops : Array Oper} {ms : List (Nat × Nat)} : ∀ {ord : List Nat} {ds : List DOp}, dopsOf ops ms ord = some ds → ds.map (·.ix) = ord ∧ ∀ d ∈ ds, ∃ o, ops[d.ix]? = some o ∧ d = dopOf ops ms d.ix o
  | [], ds, h => by simp [dopsOf] at h; subst h; simp
  | i :: r, ds, h => by
    simp only [dopsOf] at h
    split at h
    · rename_i o l ho hl
      cases h
      obtain ⟨h1, h2⟩ := dopsOf_ok hl
      refine ⟨by simp [dopOf, h1], fun d hd => ?_⟩
      rcases List.mem_cons.1 hd with rfl | hd
      · exact ⟨o, ho, rfl⟩
      · exact h2 d hd
    · cases h
theorem memN_ok {i : Nat} : ∀ {l : List Nat}, memN i l = true ↔ i ∈ l
  | [] => by simp [memN]
  | m :: r => by
    simp only [memN, List.mem_cons]
    cases h : Nat.beq i m with
    | true => simp [Nat.eq_of_beq_eq_true h]
    | false =>
      have : i ≠ m := Nat.ne_of_beq_eq_false h
      simp only [cond_false, this, false_or]
      exact memN_ok
theorem nodupN_ok : ∀ {l : List Nat}, nodupN l = true → l.Nodup
  | [], _ => by simp
  | i :: r, h => by
    simp only [nodupN] at h
    cases hm : memN i r with
    | true => rw [hm] at h; cases h
    | false =>
      rw [hm] at h
      refine List.nodup_cons.2 ⟨fun hi => ?_, nodupN_ok h⟩
      rw [memN_ok.2 hi] at hm; cases hm
/-- what is known of two, one ahead of the other -/
structure PairR (x y : DOp) : Prop where
  m2 : Nat.testBit x.mask y.ix = false
  or : Nat.testBit y.mask x.ix = true ∨ (y.big = false ∧ (∀ d, x.dst = some d → d ∉ looksD y) ∧ (∀ d, y.dst = some d → d ∉ looksD x) ∧ ∀ d, x.dst = some d → y.dst ≠ some d)
  sub : x.big = true → y.big = true → ∀ i, Nat.testBit x.mask i = true → Nat.testBit y.mask i = true
theorem looks_eq {ops : Array Oper} {o : Oper} {d : DOp} (hy : OfOps ops d o) {t : Nat} (h : t ∈ looksD d) : t ∈ looks ops.toList o := by
  unfold looksD at h
  unfold looks
  rcases List.mem_append.1 h with h | h
  · rw [hy.op] at h; exact List.mem_append_left _ h
  · apply List.mem_append_right
    rw [hy.guard] at h
    unfold guardOf at h
    cases hg : o.guard with
    | none => rw [hg] at h; simp at h
    | some p =>
      obtain ⟨j, want⟩ := p
      rw [hg] at h
      simp only at h ⊢
      rw [getL_eq, Array.getElem?_toList]
      cases hj : ops[j]? with
      | none => rw [hj] at h; simp at h
      | some x =>
        rw [hj] at h
        simp only [Option.bind_some] at h
        cases hd : x.dst with
        | none => rw [hd] at h; simp at h
        | some u => rw [hd] at h; simp at h; subst h; simp [hd]
theorem apartX_ok {ops : Array Oper} {ox oy : Oper} {x y : DOp} (hx : OfOps ops x ox) (hy : OfOps ops y oy) (h : apartX ops.toList ox oy = true) :
    (∀ d, x.dst = some d → d ∉ looksD y) ∧ (∀ d, y.dst = some d → d ∉ looksD x) ∧ ∀ d, x.dst = some d → y.dst ≠ some d := by
  unfold apartX at h
  obtain ⟨h1, h2⟩ := and2 h
  rw [← hx.dst, ← hy.dst] at h1
  rw [← hy.dst] at h2
  refine ⟨fun d hd hl => ?_, fun d hd hl => ?_, fun d hd he => ?_⟩
  · rw [hd] at h1
    obtain ⟨h3, _⟩ := and2 h1
    have := looks_eq hy hl
    rw [memN_ok.2 this] at h3; cases h3
  · rw [hd] at h2
    have := looks_eq hx hl
    simp only at h2
    rw [memN_ok.2 this] at h2; cases h2
  · rw [hd, he] at h1
    obtain ⟨_, h3⟩ := and2 h1
    simp at h3
theorem pairsOk_ok {ops : Array Oper} : ∀ {l : List DOp}, pairsOk ops.toList l = true → (∀ d ∈ l, ∃ o, ops[d.ix]? = some o ∧ OfOps ops d o) → l.Pairwise PairR
  | [], _, _ => .nil
  | x :: r, h, ho => by
    simp only [pairsOk] at h
    cases hq : allL (pairB ops.toList x) r with
    | false => rw [hq] at h; cases h
    | true =>
      rw [hq] at h
      refine List.pairwise_cons.2 ⟨fun y hy => ?_, pairsOk_ok h (fun d hd => ho d (by simp [hd]))⟩
      have h1 := allL_ok hq y hy
      obtain ⟨ox, hox, hx2⟩ := ho x (by simp)
      obtain ⟨oy, hoy, hy2⟩ := ho y (by simp [hy])
      simp only [pairB, getL_eq, Array.getElem?_toList, hox, hoy] at h1
      unfold pairOk at h1
      obtain ⟨h1, h3⟩ := and2 h1
      obtain ⟨h1, h2⟩ := and2 h1
      refine ⟨by simpa using h1, ?_, fun bx byy i hi => ?_⟩
      · rcases Bool.or_eq_true _ _ ▸ h2 with h2 | h2
        · exact .inl h2
        · obtain ⟨h4, h5⟩ := and2 h2
          exact .inr ⟨by simpa using h4, apartX_ok hx2 hy2 h5⟩
      · rw [bx, byy] at h3
        simp at h3
        have h4 : x.mask &&& y.mask = x.mask := h3
        rw [← h4, Nat.testBit_and] at hi
        simp at hi; exact hi.2
section
variable {C : Cfg} {G : Calls} {Lr : Ph → World → Prop} {msk : List Nat} {N : Nat} {env : EF} {nx0 : Nat} {tm0 : Array Value} {df0 : List Deferred} {φ0 : Ph} {hp0 : HP} {w0 : World}
  {ops : Array Oper} {Q : Exit → Act → World → Prop} {ro : Option Nat} {m : Nat}
theorem any_ok (hC : CfgOk C) (hG : GOk C.P G Lr) (hb0 : Base φ0 nx0) (hL0 : Lr φ0 w0) (he : EnvR φ0 msk N env tm0) (hds : dstsOk N ops = true) (ms : List (Nat × Nat)) {Sf : SS}
    (hcl : ∀ (j : Nat) (o : Oper), ops[j]? = some o → ∀ i, Nat.testBit (masks.lookN j ms) i = true → ∃ k ∈ edges o, i = k ∨ Nat.testBit (masks.lookN k ms) i = true)
    (hself : ∀ (j : Nat) (o : Oper), ops[j]? = some o → Nat.testBit (masks.lookN j ms) j = false ∧ ∀ k ∈ edges o, k < ops.size ∧ Nat.testBit (masks.lookN j ms) k = true)
    (hQ : ∀ φ a w, DR C.P ops.size nx0 tm0 df0 φ0 hp0 w0 Sf φ a w → Q .normal a w) :
    ∀ (fuel : Nat) (ds : List DOp) (S : SS) (listed : Array Bool) (φ : Ph) (a : Act) (w : World), ds.length = fuel → listed.size = ops.size →
    (∀ d ∈ ds, ∃ o, ops[d.ix]? = some o ∧ OfOps ops d o ∧ d.mask = masks.lookN d.ix ms) → (ds.map (·.ix)).Nodup → ds.Pairwise PairR →
    (∀ i : Nat, i < ops.size → (listed[i]? = some true ↔ i ∉ ds.map (·.ix))) →
    (∀ i j : Nat, listed[j]? = some true → Nat.testBit (masks.lookN j ms) i = true → listed[i]? = some true) →
    (∀ d ∈ ds, S.nw d.ix = none ∧ Nat.testBit S.cur.mprev d.ix = false ∧ (d.big = true → ∀ i, Nat.testBit S.cur.mprev i = true → Nat.testBit d.mask i = true)) →
    DRun C G msk env nx0 ops.size ds S Sf → DR C.P ops.size nx0 tm0 df0 φ0 hp0 w0 S φ a w → wpAnyIn (Fr ro) m C.P .any ops Q fuel listed a w := by
  have edge : ∀ (o : Oper) (e : Edge), e ∈ o.after → Region.binds .any e = true → e.on ∈ edges o := by
    intro o e h1 h2
    unfold edges
    refine List.mem_filterMap.2 ⟨e, by simpa using h1, by simp [h2]⟩
  have edge' : ∀ (o : Oper) (k : Nat), k ∈ edges o → ∃ e ∈ o.after, Region.binds .any e = true ∧ e.on = k := by
    intro o k hk
    unfold edges at hk
    obtain ⟨e, h1, h2⟩ := List.mem_filterMap.1 hk
    cases hb : Region.binds .any e with
    | false => rw [hb] at h2; cases h2
    | true => rw [hb] at h2; simp at h2; exact ⟨e, by simpa using h1, hb, h2⟩
  intro fuel
  induction fuel with
  | zero =>
    intro ds S listed φ a w hlen hsz hof hnd hpw hli hdc hin hrun hDR
    have : ds = [] := List.length_eq_zero_iff.1 hlen
    subst this
    cases hrun
    refine ⟨?_, hQ φ a w hDR⟩
    rw [List.eq_nil_iff_forall_not_mem]
    intro i hi
    obtain ⟨h1, oj, h2, _⟩ := mem_ready.1 hi
    have hlt : i < ops.size := (Array.getElem?_eq_some_iff.1 h2).1
    have := (hli i hlt).2 (by simp)
    simp [this] at h1
  | succ fuel ih =>
    intro ds S listed φ a w hlen hsz hof hnd hpw hli hdc hin hrun hDR
    refine ⟨fun hr => ?_, fun i hi => ?_⟩
    · -- the first of them can be done
      exfalso
      cases ds with
      | nil => simp at hlen
      | cons d r =>
        obtain ⟨o, ho, hof', hmk⟩ := hof d (by simp)
        have hlt : d.ix < ops.size := (Array.getElem?_eq_some_iff.1 ho).1
        have hnl : listed[d.ix]? = some false := by
          have : listed[d.ix]? = some listed[d.ix] := Array.getElem?_eq_getElem (by omega)
          have h2 := hli d.ix hlt
          rw [this] at h2 ⊢
          cases hq : listed[d.ix] with
          | false => rfl
          | true => rw [hq] at h2; exact absurd (by simp) (h2.1 rfl)
        have : d.ix ∈ Region.ready .any ops listed := by
          refine mem_ready.2 ⟨by simp [hnl], o, ho, fun e he hb => ?_⟩
          have hk := edge o e he hb
          obtain ⟨k1, k2⟩ := (hself d.ix o ho).2 e.on hk
          have hno : e.on ∉ (d :: r).map (·.ix) := by
            intro hm
            simp only [List.map_cons, List.mem_cons] at hm
            rcases hm with hm | hm
            · rw [hm, (hself d.ix o ho).1] at k2; cases k2
            · obtain ⟨x, hx, hxe⟩ := List.mem_map.1 hm
              have := ((List.pairwise_cons.1 hpw).1 x hx).m2
              rw [hmk, hxe, k2] at this; cases this
          have := (hli e.on k1).2 hno
          simp [this]
        rw [hr] at this; simp at this
    · obtain ⟨h1, o, ho, h3⟩ := mem_ready.1 hi
      have hlt : i < ops.size := (Array.getElem?_eq_some_iff.1 ho).1
      have hin' : i ∈ ds.map (·.ix) := by
        by_cases hm : i ∈ ds.map (·.ix)
        · exact hm
        · have := (hli i hlt).2 hm; simp [this] at h1
      obtain ⟨y, hy, rfl⟩ := List.mem_map.1 hin'
      obtain ⟨ds1, ds2, rfl⟩ := List.append_of_mem hy
      obtain ⟨o', ho', hof', hmk⟩ := hof y (by simp)
      rw [ho] at ho'; cases ho'
      -- all that comes ahead of it is done
      have hmask : ∀ j, Nat.testBit y.mask j = true → listed[j]? = some true := by
        intro j hj
        rw [hmk] at hj
        obtain ⟨k, hk, hj'⟩ := hcl y.ix o ho j hj
        obtain ⟨e, e1, e2, e3⟩ := edge' o k hk
        have hlk : listed[k]? = some true := by
          have := h3 e e1 e2
          rw [e3] at this
          simp only [Array.getD_eq_getD_getElem?] at this
          cases hq : listed[k]? with
          | none => rw [hq] at this; cases this
          | some b => rw [hq] at this; simp at this; rw [this]
        rcases hj' with rfl | hj'
        · exact hlk
        · exact hdc j k hlk hj'
      have hndz : ∀ d ∈ ds1 ++ y :: ds2, Nat.testBit y.mask d.ix = false := by
        intro d hd
        cases hq : Nat.testBit y.mask d.ix with
        | false => rfl
        | true =>
          have h5 := hmask _ hq
          obtain ⟨od, hod, _⟩ := hof d hd
          exact absurd (List.mem_map.2 ⟨d, hd, rfl⟩) ((hli d.ix (Array.getElem?_eq_some_iff.1 hod).1).1 h5)
      have hpw' := List.pairwise_append.1 hpw
      have hap : ∀ z ∈ ds1, ApartD z y := by
        intro z hz
        have hp := hpw'.2.2 z hz y (by simp)
        have hm1 := hndz z (by simp [hz])
        rcases hp.or with h | ⟨b1, b2, b3, b4⟩
        · rw [hm1] at h; cases h
        · refine ⟨b1, hm1, hp.m2, ?_, b2, b3, b4⟩
          intro e
          rw [List.map_append, List.nodup_append] at hnd
          exact hnd.2.2 z.ix (List.mem_map.2 ⟨z, hz, rfl⟩) y.ix (by simp) e
      obtain ⟨S1, hs1, hrun'⟩ := hrun.front hap
      obtain ⟨i1, i2, i3⟩ := hin y (by simp)
      have hix : ∀ d ∈ ds1 ++ ds2, d.ix ≠ y.ix := by
        intro d hd e
        have hnd2 : ((ds1 ++ y :: ds2).map (·.ix)).Nodup := hnd
        have hperm : (ds1 ++ y :: ds2).Perm (y :: (ds1 ++ ds2)) := List.perm_middle
        have := (hperm.map (·.ix)).nodup_iff.1 hnd2
        rw [List.map_cons, List.nodup_cons] at this
        exact this.1 (List.mem_map.2 ⟨d, hd, e⟩)
      refine head_ok hC hG hb0 hL0 he ho hof' (allL_ok hds o (by rw [Array.mem_toList_iff]; exact Array.mem_of_getElem? ho)) hs1 hDR i1 i2 hlt i3 (fun φ' a' w' hDR' => ?_)
      have hmem : ∀ d, d ∈ ds1 ++ ds2 → d ∈ ds1 ++ y :: ds2 := fun d hd => by
        rcases List.mem_append.1 hd with h | h
        · exact List.mem_append_left _ h
        · exact List.mem_append_right _ (by simp [h])
      have hsublist : (ds1 ++ ds2).Sublist (ds1 ++ y :: ds2) := (List.Sublist.refl ds1).append (List.sublist_cons_self y ds2)
      refine ih (ds1 ++ ds2) S1 (listed.setIfInBounds y.ix true) φ' a' w' (by simp at hlen ⊢; omega) (by simpa using hsz) (fun d hd => hof d (hmem d hd)) (hnd.sublist (hsublist.map _)) (hpw.sublist hsublist) ?_ ?_ ?_ hrun' hDR'
      · intro j hj
        by_cases e : y.ix = j
        · subst e
          rw [Array.getElem?_setIfInBounds_self_of_lt (by omega)]
          simp only [true_iff]
          intro hm
          obtain ⟨d, hd, hde⟩ := List.mem_map.1 hm
          exact hix d hd hde
        · rw [Array.getElem?_setIfInBounds_ne e, hli j hj]
          simp only [List.map_append, List.map_cons, List.mem_append, List.mem_cons, not_or]
          constructor
          · rintro ⟨a1, a2, a3⟩; exact ⟨a1, a3⟩
          · rintro ⟨a1, a3⟩; exact ⟨a1, fun e' => e e'.symm, a3⟩
      · intro j k hk hj
        have up : ∀ j : Nat, listed[j]? = some true → (listed.setIfInBounds y.ix true)[j]? = some true := by
          intro j hj
          by_cases e : y.ix = j
          · subst e; rw [Array.getElem?_setIfInBounds_self_of_lt (by omega)]
          · rw [Array.getElem?_setIfInBounds_ne e]; exact hj
        by_cases e : y.ix = k
        · subst e
          rw [← hmk] at hj
          exact up j (hmask j hj)
        · rw [Array.getElem?_setIfInBounds_ne e] at hk
          exact up j (hdc j k hk hj)
      · intro d hd
        obtain ⟨d1, d2, d3⟩ := hin d (hmem d hd)
        have dne := hix d hd
        cases hs1 with
        | skip => exact ⟨d1, d2, d3⟩
        | small => exact ⟨d1, d2, d3⟩
        | new ob v => exact ⟨by simp only [setO, Option.some.injEq]; rw [if_neg (Ne.symm dne)]; exact d1, d2, d3⟩
        | big hp v h' nx' hw hbg =>
          refine ⟨d1, hndz d (hmem d hd), fun hdb => ?_⟩
          have : ds1 = [] := by
            cases ds1 with
            | nil => rfl
            | cons z r => have := (hap z (by simp)).big; rw [hbg] at this; cases this
          subst this
          have hp := (List.pairwise_cons.1 hpw).1 d (by simpa using hd)
          exact hp.sub hbg hdb
end
end Go.X

namespace Go.X
theorem envK_eq (msk : List Nat) : ∀ (al : List (Tmp × V)) (e : EF) (k : EF → Ans), envK msk al e k = k (envA msk al e)
  | [], e, k => rfl
  | x :: r, e, k => by
    simp only [envK, envA, envK_eq msk r]
    cases ixOf x.1 msk 0 with
    | some i => simp only [fsetK_eq]
    | none => rfl
theorem newsK_eq (mask mprev nx0 : Nat) : ∀ (news : List (Nat × Obj)) (h : HP) (k : HP → Ans), newsK mask mprev nx0 news h k = k (newsH mask mprev nx0 news h)
  | [], h, k => rfl
  | x :: r, h, k => by
    simp only [newsK, newsH, newsK_eq mask mprev nx0 r]
    cases (Nat.testBit mask x.1 && !(Nat.testBit mprev x.1)) with
    | true => simp only [cond_true, hsetK_eq]
    | false => rfl
theorem envA_get (msk : List Nat) {t i : Nat} (ht : ixOf t msk 0 = some i) : ∀ (al : List (Tmp × V)) (e : EF), fget i (envA msk al e) = match lookA t al with | some v => v | none => fget i e
  | [], e => rfl
  | x :: r, e => by
    simp only [envA, lookA]
    have hi := (ixOf_ok _ _ _ _ ht).1
    cases hx : Nat.beq x.1 t with
    | true =>
      have := Nat.eq_of_beq_eq_true hx
      rw [this, ht]
      simp only [cond_true]
      rw [fget_set hi hi, if_pos rfl]
    | false =>
      have hne : t ≠ x.1 := fun e => by rw [e] at hx; simp at hx
      simp only [cond_false]
      rw [← envA_get msk ht r e]
      cases hj : ixOf x.1 msk 0 with
      | some j =>
        simp only
        have hj' := (ixOf_ok _ _ _ _ hj).1
        have hij : ¬ i = j := fun e => hne (ixOf_inj ht (by rw [e]; exact hj))
        rw [fget_set hj' hi, if_neg hij]
      | none => rfl
theorem hcur_init (n nx0 : Nat) (S : SS) (hp : HP) (h1 : S.cur.base = hp) (h2 : ∀ i, S.nw i = none) : hcur n nx0 S = hget hp := by
  funext b
  unfold hcur
  rw [h1]
  split
  · rw [h2]
  · rfl
theorem hcur_all (n nx0 : Nat) (S : SS) : hsub n nx0 (2 ^ n - 1) S.cur.mprev S.nw (hget S.cur.base) = hcur n nx0 S := by
  funext b
  unfold hsub hcur
  by_cases h : nx0 ≤ b ∧ b < nx0 + n ∧ Nat.testBit S.cur.mprev (b - nx0) = false
  · rw [if_pos h, if_pos ⟨h.1, h.2.1, by rw [Nat.testBit_two_pow_sub_one]; have := h.1; have := h.2.1; exact decide_eq_true (by omega), h.2.2⟩]
    all_goals (try (cases S.nw (b - nx0) <;> rfl))
  · rw [if_neg h, if_neg (fun h' => h ⟨h'.1, h'.2.1, h'.2.2.2⟩)]
theorem lenL0 {α : Type} (l : List α) : lenL l 0 = l.length := by rw [lenL_eq]; omega
theorem plan_ok {ops : Array Oper} {ds : List DOp} (h : plan ops = some ds) : ∃ ms : List (Nat × Nat), (∀ d ∈ ds, ∃ o, ops[d.ix]? = some o ∧ OfOps ops d o ∧ d.mask = masks.lookN d.ix ms) ∧ (ds.map (·.ix)).Nodup ∧
    ds.Pairwise PairR ∧ ds.length = ops.size ∧ (∀ i, i < ops.size → i ∈ ds.map (·.ix)) ∧
    (∀ (j : Nat) (o : Oper), ops[j]? = some o → ∀ i, Nat.testBit (masks.lookN j ms) i = true → ∃ k ∈ edges o, i = k ∨ Nat.testBit (masks.lookN k ms) i = true) ∧
    (∀ (j : Nat) (o : Oper), ops[j]? = some o → Nat.testBit (masks.lookN j ms) j = false ∧ ∀ k ∈ edges o, k < ops.size ∧ Nat.testBit (masks.lookN j ms) k = true) := by
  unfold plan at h
  simp only at h
  generalize hord : order ops.toList = ord at h
  generalize hms : masks ops.toList ord [] = ms at h
  cases hd : dopsOf ops ms ord with
  | none => rw [hd] at h; cases h
  | some ds' =>
    rw [hd] at h
    simp only at h
    cases hp : okPlan ops.toList ord ms ds' with
    | false => rw [hp] at h; cases h
    | true =>
      rw [hp] at h
      simp only [Option.some.injEq] at h
      subst h
      unfold okPlan at hp
      obtain ⟨hp, p5⟩ := and2 hp
      obtain ⟨hp, p4⟩ := and2 hp
      obtain ⟨hp, p3⟩ := and2 hp
      obtain ⟨p1, p2⟩ := and2 hp
      obtain ⟨h1, h2⟩ := dopsOf_ok hd
      have hof : ∀ d ∈ ds', ∃ o, ops[d.ix]? = some o ∧ OfOps ops d o ∧ d.mask = masks.lookN d.ix ms := by
        intro d hd
        obtain ⟨o, ho, e⟩ := h2 d hd
        exact ⟨o, ho, by rw [e]; exact ⟨rfl, rfl, rfl, rfl, rfl⟩, by rw [e]; rfl⟩
      have hnd : ord.Nodup := nodupN_ok p2
      have hlen : ord.length = ops.size := by
        have := Nat.eq_of_beq_eq_true p1
        rw [lenL0, lenL0, Array.length_toList] at this; exact this
      have hall : ∀ i, i < ops.size → i ∈ ord := by
        intro i hi
        have hs : ∀ x ∈ ord, x ∈ List.range ops.size := by
          intro x hx
          have := Nat.le_of_ble_eq_true (allL_ok p3 x hx)
          rw [lenL0, Array.length_toList] at this
          exact List.mem_range.2 (by omega)
        exact (perm_of_sub hnd hs (by simp [hlen])).mem_iff.1 (List.mem_range.2 hi)
      have hmk : ∀ (j : Nat) (o : Oper), ops[j]? = some o → masks.lookN j ms = maskOf ops.toList ms o ∧ Nat.testBit (masks.lookN j ms) j = false ∧ ∀ k ∈ edges o, k < ops.size := by
        intro j o ho
        have hlt : j < ops.size := (Array.getElem?_eq_some_iff.1 ho).1
        have := allL_ok p4 j (hall j hlt)
        simp only [getL_eq, Array.getElem?_toList, ho] at this
        obtain ⟨this, q3⟩ := and2 this
        obtain ⟨q1, q2⟩ := and2 this
        refine ⟨Nat.eq_of_beq_eq_true q1, by simpa using q2, fun k hk => ?_⟩
        have := Nat.le_of_ble_eq_true (allL_ok q3 k hk)
        rw [lenL0, Array.length_toList] at this; omega
      refine ⟨ms, hof, by rw [h1]; exact hnd, pairsOk_ok p5 (fun d hd => let ⟨o, a, b, _⟩ := hof d hd; ⟨o, a, b⟩), by rw [← hlen, ← h1]; simp, fun i hi => by rw [h1]; exact hall i hi, ?_, ?_⟩
      · intro j o ho i hi
        rw [(hmk j o ho).1] at hi
        unfold maskOf at hi
        rcases (foldl_bits ms i (edges o) 0).1 hi with h | h
        · simp at h
        · exact h
      · intro j o ho
        refine ⟨(hmk j o ho).2.1, fun k hk => ⟨(hmk j o ho).2.2 k hk, ?_⟩⟩
        rw [(hmk j o ho).1]
        unfold maskOf
        exact (foldl_bits ms k (edges o) 0).2 (.inr ⟨k, hk, .inl rfl⟩)
section
variable {C : Cfg} {G : Calls} {Lr : Ph → World → Prop} {fc : FC} {ops : Array Oper} {env : EF} {hp : HP} {nx : Nat} {l : List Fin} {Q : Exit → Act → World → Prop} {ro : Option Nat} {m id : Nat} {φ : Ph} {a : Act} {w : World}
theorem draw_ok (hC : CfgOk C) (hG : GOk C.P G Lr) (hm : C.P.follows .mixedOrders = true) (hd : dstsOk fc.N ops = true) {k : EF → HP → Nat → Ans} (h : drawR C G fc ops env hp nx k = .ok l)
    (hR : RelH C.P φ (hget hp) w) (hb : Base φ nx) (hL : Lr φ w) (hE : EnvR φ fc.msk fc.N env a.tmps)
    (hk : ∀ env' hp' nx' l', k env' hp' nx' = .ok l' → (∀ r ∈ l', r ∈ l) → ∀ φ' a' w', RelH C.P φ' (hget hp') w' → Base φ' nx' → EnvR φ' fc.msk fc.N env' a'.tmps → a'.defers = a.defers →
      Stp φ (hget hp) nx w φ' (hget hp') nx' w' → Q .normal a' w') :
    (Code.region id ops true).wpIn (Fr ro) m C.P Q a w := by
  unfold drawR at h
  cases hpl : plan ops with
  | none => rw [hpl] at h; cases h
  | some ds =>
    rw [hpl] at h
    simp only [seqN_eq] at h
    obtain ⟨ms, hof, hnd, hpw, hlen, hall, hcl, hself⟩ := plan_ok hpl
    obtain ⟨st', hrun, hfin, hnews⟩ := drawOps_run (n := ops.size) ds _ _ l h (by simp) (fun d hd => by
      obtain ⟨o, ho, _⟩ := hof d hd
      exact (Array.getElem?_eq_some_iff.1 ho).1)
    rw [envK_eq, newsK_eq] at hfin
    refine wpIn_region_any hm ?_
    have hsame : ({ w with drawn := w.drawn + 1 } : World).heap = w.heap := rfl
    have hR2 : RelH C.P φ (hget hp) { w with drawn := w.drawn + 1 } := hR.same hsame
    have hS0 : hcur ops.size nx (DS.abs ⟨[], ⟨0, hp, none⟩, [], [], nx + ops.size⟩) = hget hp := by
      exact hcur_init _ _ _ _ rfl (fun _ => rfl)
    refine any_ok (φ0 := φ) (hp0 := hp) (w0 := w) (tm0 := a.tmps) (df0 := a.defers) hC hG hb hL hE hd ms hcl hself (Sf := st'.abs) ?_ ops.size ds _ _ φ a _ hlen (by simp) hof hnd hpw ?_ ?_ ?_ hrun ?_
    · intro φ' a' w' hDR
      have hb' := hDR.toBase hb
      refine hk _ _ _ l hfin (fun _ h => h) φ' a' w' ?_ hb' ⟨by rw [hDR.size]; exact hE.1, fun t i ht => ?_⟩ hDR.defers ?_
      · have : hget (newsH (2 ^ ops.size - 1) st'.cur.mprev nx st'.news st'.cur.base) = hcur ops.size nx st'.abs := by
          rw [newsH_get (n := ops.size) _ _ _ _ hnews]
          exact hcur_all ops.size nx st'.abs
        rw [this]; exact hDR.rel
      · have := rdF_ok hDR hb hE (.tmp t)
        rw [envA_get _ ht]
        simp only [rdF, DS.abs, ht] at this
        exact this
      · have : hget (newsH (2 ^ ops.size - 1) st'.cur.mprev nx st'.news st'.cur.base) = hcur ops.size nx st'.abs := by
          rw [newsH_get (n := ops.size) _ _ _ _ hnews]
          exact hcur_all ops.size nx st'.abs
        rw [this]; exact hDR.stp
    · intro i hi
      constructor
      · intro h; simp [hi] at h
      · intro h; exact absurd (hall i hi) h
    · intro i j hj
      rw [Array.getElem?_replicate] at hj
      split at hj <;> simp at hj
    · intro d hd'
      exact ⟨rfl, by simp [DS.abs], fun _ i hi => by simp [DS.abs] at hi⟩
    · refine ⟨by rw [hS0]; exact hR2, fun i hi _ => hb.fr _ (by omega), by simp [DS.abs], fun i hi _ => hR.nx_free (hb.fr _ (by omega)), fun i hi _ b hov => ?_, fun t v h => by simp [DS.abs, lookA] at h, fun _ _ => rfl, rfl, rfl, ?_, fun i ob h => by simp [DS.abs, lookW] at h, rfl⟩
      · rw [hS0] at hov
        obtain ⟨_, _, _, e⟩ := hov
        exact hR.no_iter (hb.fr _ (by omega)) b _ _ _ e
      · rw [hS0]
        exact (Stp.same nx hsame rfl rfl rfl).more (by simp [DS.abs])
end
end Go.X
