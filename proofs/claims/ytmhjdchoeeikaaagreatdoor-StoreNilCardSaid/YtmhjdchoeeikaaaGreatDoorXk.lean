/-
  The fast run of X is the run; tables; answers that are known. No conditions. An executor of its own, proved sound against the model; nothing here is of one program.
-/
import Derived.Test.YtmhjdchoeeikaaaGreatDoorXh
import Derived.Test.YtmhjdchoeeikaaaGreatDoorXj
import Derived.OpenShut
import Derived.Handed
set_option linter.unusedVariables false
set_option linter.unusedVariables false
namespace Go.X
/-! ## The fast run: what is known ahead is reckoned once (it stands where a recursor looks) -/
inductive W (α : Type) where | mk (f : α)
abbrev OP := Calls → List V → EF → HP → Nat → KV → Ans
/-- an operation's effect, its kind looked at ahead -/
def effW (o : Op) (C : Cfg) : W (Cx → Eff) := match o with
  | .move x => .mk fun c => eMove x C c
  | .assign x => .mk fun c => eMove x C c
  | .pick k a b => .mk fun c => effPick k a b C.P c
  | .alloc e => .mk fun c => effAlloc e C.P c
  | .box e x => .mk fun c => effBox e x C.P c
  | .build t ps => .mk fun c => effBuild t ps C.P c
  | .buildSlice t n ps => .mk fun c => effBuildSlice t n ps C.P c
  | .insert t m k v => .mk fun c => effUpdate t m k v C.P c
  | .load t a => .mk fun c => effLoad t a C.P c
  | .store t a x => .mk fun c => effStore t a x C.P c
  | .nilCheck x => .mk fun c => effNil x C.P c
  | .binOp op t x y _ => .mk fun c => effBin op t x y C.P c
  | .unOp op _ x => .mk fun c => effUn op x C.P c
  | .convert s d x => .mk fun c => effConv s d x C.P c
  | .makeInterface t x => .mk fun c => effIface t x C.P c
  | .makeFunc f a b => .mk fun c => effFunc f a b C.P c
  | .makeSlice t l k => .mk fun c => effMakeSlice t l k C.P c
  | .slice t x l h m => .mk fun c => effSlice t x l h m C.P c
  | .fieldAddr s x f => .mk fun c => effFieldAddr s x f C.P c
  | .field s x f => .mk fun c => effField s x f C.P c
  | .indexAddr t x i => .mk fun c => effIndexAddr t x i C.P c
  | .index t x i => .mk fun c => effIndex t x i C.P c
  | .lookup t x i ok => .mk fun c => effLookup t x i ok C.P c
  | .mapUpdate t m k v => .mk fun c => effUpdate t m k v C.P c
  | .range t x => .mk fun c => effRange t x C.P c
  | .next i s => .mk fun c => effNext i s C.P c
  | .entry i => .mk fun c => effEntry i C.P c
  | .typeAssert x xt u ok => .mk fun c => effAssert x xt u ok C.P c
  | .extract x i => .mk fun c => effExtract x i C.P c
  | o => .mk fun c => eff o C c
theorem effW_ok (o : Op) (C : Cfg) : ∃ f, effW o C = .mk f ∧ ∀ c, f c = eff o C c := by cases o <;> exact ⟨_, rfl, fun _ => rfl⟩
/-- a reader of an operand, its place looked for ahead -/
abbrev RD := List V → EF → V
noncomputable def rdW (s : Src0) : W RD := match s with
  | .loc 0 => .mk fun l _ => List.rec (motive := fun _ => V) .junk (fun v _ _ => v) l
  | .loc k => .mk fun l _ => getLoc k l
  | .env i => .mk fun _ e => fget i e
  | .const v => .mk fun _ _ => v
theorem rdW_ok (s : Src0) : ∃ f, rdW s = .mk f ∧ ∀ l e, f l e = rdS s l e := by
  cases s with
  | loc k => cases k with
    | zero => exact ⟨_, rfl, fun l e => by cases l <;> rfl⟩
    | succ k => exact ⟨_, rfl, fun _ _ => rfl⟩
  | env i => exact ⟨_, rfl, fun _ _ => rfl⟩
  | const v => exact ⟨_, rfl, fun _ _ => rfl⟩
def W.get {α : Type} : W α → α | .mk f => f
noncomputable def W.use {α β : Type} (k : α → β) (w : W α) : β := W.rec (motive := fun _ => β) k w
theorem W.use_eq {α β : Type} (k : α → β) (w : W α) : W.use k w = k w.get := by cases w; rfl
theorem W.get_mk {α : Type} (f : α) : (W.mk f).get = f := rfl
theorem rdW_get (s : Src0) (l : List V) (e : EF) : (rdW s).get l e = rdS s l e := by
  obtain ⟨f, h1, h2⟩ := rdW_ok s
  rw [h1]; exact h2 l e
theorem effW_get (o : Op) (C : Cfg) (c : Cx) : (effW o C).get c = eff o C c := by
  obtain ⟨f, h1, h2⟩ := effW_ok o C
  rw [h1]; exact h2 c
/-! ### numbers, at once -/
noncomputable def intC (z : Ans) (v : V) (k : IntKind → Int → Ans) : Ans := V.rec (motive_1 := fun _ => Ans → (IntKind → Int → Ans) → Ans) (motive_2 := fun _ => Unit) (fun z k => z) (fun _ z k => z) (fun i n z k => k i n) (fun _ _ z k => z) (fun _ _ z k => z) (fun z k => z) (fun _ _ _ _ _ _ z k => z) (fun z k => z) (fun _ _ _ z k => z) (fun _ z k => z) (fun z k => z) (fun _ _ _ z k => z) (fun z k => z) (fun _ _ _ z k => z) (fun z k => z) (fun _ _ z k => z) (fun _ _ z k => z) () (fun _ _ _ _ => ()) v z k
theorem intC_int (z : Ans) (i : IntKind) (n : Int) (k : IntKind → Int → Ans) : intC z (.int i n) k = k i n := rfl
noncomputable def sqI (n : Int) (k : Int → Ans) : Ans := Int.rec (motive := fun _ => (Int → Ans) → Ans) (fun m k => Nat.rec (motive := fun _ => (Int → Ans) → Ans) (fun k => k (.ofNat 0)) (fun m _ k => k (.ofNat (Nat.succ m))) m k) (fun m k => k (.negSucc m)) n k
theorem sqI_eq (n : Int) (k : Int → Ans) : sqI n k = k n := by
  cases n with
  | ofNat m => cases m <;> rfl
  | negSucc m => rfl
noncomputable def bif2 (b : Bool) (x y : Ans) : Ans := Bool.rec (motive := fun _ => Ans) y x b
theorem bif2_eq (b : Bool) (x y : Ans) : bif2 b x y = bif b then x else y := by cases b <;> rfl
noncomputable def ltI (a b : Int) : Bool := Int.rec (motive := fun _ => Int → Bool) (fun m b => Int.rec (motive := fun _ => Nat → Bool) (fun n m => Nat.ble (Nat.succ m) n) (fun _ _ => false) b m) (fun m b => Int.rec (motive := fun _ => Nat → Bool) (fun _ _ => true) (fun n m => Nat.ble (Nat.succ n) m) b m) a b
theorem ltI_eq (a b : Int) : ltI a b = iltb a b := by cases a <;> cases b <;> rfl
noncomputable def eqI (a b : Int) : Bool := Int.rec (motive := fun _ => Int → Bool) (fun m b => Int.rec (motive := fun _ => Nat → Bool) (fun n m => Nat.beq m n) (fun _ _ => false) b m) (fun m b => Int.rec (motive := fun _ => Nat → Bool) (fun _ _ => false) (fun n m => Nat.beq m n) b m) a b
theorem eqI_eq (a b : Int) : eqI a b = ieqb a b := by cases a <;> cases b <;> rfl
noncomputable def addI (a b : Int) : Int := Int.rec (motive := fun _ => Int → Int) (fun m b => Int.rec (motive := fun _ => Nat → Int) (fun n m => .ofNat (Nat.add m n)) (fun n m => Int.subNatNat m (Nat.succ n)) b m) (fun m b => Int.rec (motive := fun _ => Nat → Int) (fun n m => Int.subNatNat n (Nat.succ m)) (fun n m => .negSucc (Nat.succ (Nat.add m n))) b m) a b
theorem addI_eq (a b : Int) : addI a b = a + b := by cases a <;> cases b <;> rfl
/-- a number that is not below nought -/
noncomputable def natC (z : Ans) (n : Int) (k : Nat → Ans) : Ans := Int.rec (motive := fun _ => Ans → (Nat → Ans) → Ans) (fun m _ k => k m) (fun _ z _ => z) n z k
abbrev KE := EF → HP → Nat → Ans
end Go.X

set_option linter.unusedVariables false
namespace Go.X
/-! ## Frames and memories: where something lies is looked for once -/
abbrev GK (α β : Type) := α → (β → Ans) → Ans
abbrev SK (α β : Type) := α → β → (α → Ans) → Ans

noncomputable def gw0 {α β : Type} (z : β) (f : GK α β) : W (GK (E8 α) β) := .mk fun t k => E8.rec (motive := fun _ => (β → Ans) → Ans) (fun k => k z) (fun a0 a1 a2 a3 a4 a5 a6 a7 k => f a0 k) t k
noncomputable def sw0 {α β : Type} (z : α) (s : SK α β) : W (SK (E8 α) β) := .mk fun t o k => E8.rec (motive := fun _ => β → (E8 α → Ans) → Ans) (fun o k => s z o fun x => k (.mk x z z z z z z z)) (fun a0 a1 a2 a3 a4 a5 a6 a7 o k => s a0 o fun x => k (.mk x a1 a2 a3 a4 a5 a6 a7)) t o k
noncomputable def gw1 {α β : Type} (z : β) (f : GK α β) : W (GK (E8 α) β) := .mk fun t k => E8.rec (motive := fun _ => (β → Ans) → Ans) (fun k => k z) (fun a0 a1 a2 a3 a4 a5 a6 a7 k => f a1 k) t k
noncomputable def sw1 {α β : Type} (z : α) (s : SK α β) : W (SK (E8 α) β) := .mk fun t o k => E8.rec (motive := fun _ => β → (E8 α → Ans) → Ans) (fun o k => s z o fun x => k (.mk z x z z z z z z)) (fun a0 a1 a2 a3 a4 a5 a6 a7 o k => s a1 o fun x => k (.mk a0 x a2 a3 a4 a5 a6 a7)) t o k
noncomputable def gw2 {α β : Type} (z : β) (f : GK α β) : W (GK (E8 α) β) := .mk fun t k => E8.rec (motive := fun _ => (β → Ans) → Ans) (fun k => k z) (fun a0 a1 a2 a3 a4 a5 a6 a7 k => f a2 k) t k
noncomputable def sw2 {α β : Type} (z : α) (s : SK α β) : W (SK (E8 α) β) := .mk fun t o k => E8.rec (motive := fun _ => β → (E8 α → Ans) → Ans) (fun o k => s z o fun x => k (.mk z z x z z z z z)) (fun a0 a1 a2 a3 a4 a5 a6 a7 o k => s a2 o fun x => k (.mk a0 a1 x a3 a4 a5 a6 a7)) t o k
noncomputable def gw3 {α β : Type} (z : β) (f : GK α β) : W (GK (E8 α) β) := .mk fun t k => E8.rec (motive := fun _ => (β → Ans) → Ans) (fun k => k z) (fun a0 a1 a2 a3 a4 a5 a6 a7 k => f a3 k) t k
noncomputable def sw3 {α β : Type} (z : α) (s : SK α β) : W (SK (E8 α) β) := .mk fun t o k => E8.rec (motive := fun _ => β → (E8 α → Ans) → Ans) (fun o k => s z o fun x => k (.mk z z z x z z z z)) (fun a0 a1 a2 a3 a4 a5 a6 a7 o k => s a3 o fun x => k (.mk a0 a1 a2 x a4 a5 a6 a7)) t o k
noncomputable def gw4 {α β : Type} (z : β) (f : GK α β) : W (GK (E8 α) β) := .mk fun t k => E8.rec (motive := fun _ => (β → Ans) → Ans) (fun k => k z) (fun a0 a1 a2 a3 a4 a5 a6 a7 k => f a4 k) t k
noncomputable def sw4 {α β : Type} (z : α) (s : SK α β) : W (SK (E8 α) β) := .mk fun t o k => E8.rec (motive := fun _ => β → (E8 α → Ans) → Ans) (fun o k => s z o fun x => k (.mk z z z z x z z z)) (fun a0 a1 a2 a3 a4 a5 a6 a7 o k => s a4 o fun x => k (.mk a0 a1 a2 a3 x a5 a6 a7)) t o k
noncomputable def gw5 {α β : Type} (z : β) (f : GK α β) : W (GK (E8 α) β) := .mk fun t k => E8.rec (motive := fun _ => (β → Ans) → Ans) (fun k => k z) (fun a0 a1 a2 a3 a4 a5 a6 a7 k => f a5 k) t k
noncomputable def sw5 {α β : Type} (z : α) (s : SK α β) : W (SK (E8 α) β) := .mk fun t o k => E8.rec (motive := fun _ => β → (E8 α → Ans) → Ans) (fun o k => s z o fun x => k (.mk z z z z z x z z)) (fun a0 a1 a2 a3 a4 a5 a6 a7 o k => s a5 o fun x => k (.mk a0 a1 a2 a3 a4 x a6 a7)) t o k
noncomputable def gw6 {α β : Type} (z : β) (f : GK α β) : W (GK (E8 α) β) := .mk fun t k => E8.rec (motive := fun _ => (β → Ans) → Ans) (fun k => k z) (fun a0 a1 a2 a3 a4 a5 a6 a7 k => f a6 k) t k
noncomputable def sw6 {α β : Type} (z : α) (s : SK α β) : W (SK (E8 α) β) := .mk fun t o k => E8.rec (motive := fun _ => β → (E8 α → Ans) → Ans) (fun o k => s z o fun x => k (.mk z z z z z z x z)) (fun a0 a1 a2 a3 a4 a5 a6 a7 o k => s a6 o fun x => k (.mk a0 a1 a2 a3 a4 a5 x a7)) t o k
noncomputable def gw7 {α β : Type} (z : β) (f : GK α β) : W (GK (E8 α) β) := .mk fun t k => E8.rec (motive := fun _ => (β → Ans) → Ans) (fun k => k z) (fun a0 a1 a2 a3 a4 a5 a6 a7 k => f a7 k) t k
noncomputable def sw7 {α β : Type} (z : α) (s : SK α β) : W (SK (E8 α) β) := .mk fun t o k => E8.rec (motive := fun _ => β → (E8 α → Ans) → Ans) (fun o k => s z o fun x => k (.mk z z z z z z z x)) (fun a0 a1 a2 a3 a4 a5 a6 a7 o k => s a7 o fun x => k (.mk a0 a1 a2 a3 a4 a5 a6 x)) t o k
noncomputable def glW {α β : Type} (z : β) (d : D8) (f : W (GK α β)) : W (GK (E8 α) β) := W.use (fun f => D8.rec (motive := fun _ => W (GK (E8 α) β)) (gw0 z f) (gw1 z f) (gw2 z f) (gw3 z f) (gw4 z f) (gw5 z f) (gw6 z f) (gw7 z f) d) f
noncomputable def slW {α β : Type} (z : α) (d : D8) (s : W (SK α β)) : W (SK (E8 α) β) := W.use (fun s => D8.rec (motive := fun _ => W (SK (E8 α) β)) (sw0 z s) (sw1 z s) (sw2 z s) (sw3 z s) (sw4 z s) (sw5 z s) (sw6 z s) (sw7 z s) d) s
theorem glW_ok {α β : Type} (z : β) (d : D8) (r : List D8) (f : W (GK α β)) (g : α → List D8 → β) (h : ∀ a k, f.get a k = k (g a r)) (t : E8 α) (k : β → Ans) : (glW z d f).get t k = k (gl z g t (d :: r)) := by
  unfold glW
  rw [W.use_eq]
  cases d <;> cases t <;> first | rfl | exact h _ k
theorem slW_ok {α β : Type} (z : α) (d : D8) (r : List D8) (s : W (SK α β)) (s' : α → List D8 → β → (α → Ans) → Ans) (h : ∀ a o k, s.get a o k = s' a r o k) (t : E8 α) (o : β) (k : E8 α → Ans) : (slW z d s).get t o k = sl z s' t (d :: r) o k := by
  unfold slW
  rw [W.use_eq]
  cases d <;> cases t <;> exact h _ o _
/-! frames -/
noncomputable def fgW (i : Nat) : W (GK EF V) := glW .junk (d8 (i % 8)) (glW .junk (d8 (i / 8 % 8)) (.mk fun v k => k v))
noncomputable def fsW (i : Nat) : W (SK EF V) := slW .nil (d8 (i % 8)) (slW .junk (d8 (i / 8 % 8)) (.mk fun _ v k => k v))
theorem fgW_ok (i : Nat) (e : EF) (k : V → Ans) : (fgW i).get e k = k (fget i e) := by
  unfold fgW
  exact glW_ok (α := E8 V) .junk (d8 (i % 8)) [d8 (i / 8 % 8)] (glW .junk (d8 (i / 8 % 8)) (.mk fun v k => k v)) (gl .junk fun v _ => v)
    (fun a k => glW_ok (α := V) .junk (d8 (i / 8 % 8)) [] (.mk fun v k => k v) (fun v _ => v) (fun _ _ => rfl) a k) e k
theorem fsW_ok (i : Nat) (e : EF) (v : V) (k : EF → Ans) : (fsW i).get e v k = k (fset i e v) := by
  refine Eq.trans ?_ (fsetK_eq i e v k)
  unfold fsW
  exact slW_ok (α := E8 V) .nil (d8 (i % 8)) [d8 (i / 8 % 8)] (slW .junk (d8 (i / 8 % 8)) (.mk fun _ v k => k v)) (sl .junk fun _ _ v k => k v)
    (fun a o k => slW_ok (α := V) .junk (d8 (i / 8 % 8)) [] (.mk fun _ v k => k v) (fun _ _ v k => k v) (fun _ _ _ => rfl) a o k) e v k
/-! memories -/
noncomputable def fN {α : Type} (f : Nat → α) (n : Nat) : α := Nat.rec (motive := fun _ => α) (f 0) (fun m _ => f (Nat.succ m)) n
theorem fN_eq {α : Type} (f : Nat → α) (n : Nat) : fN f n = f n := by cases n <;> rfl
noncomputable def hg1 (b : Nat) : W (GK M1 Obj) := glW .free (d8 (b % 8)) (.mk fun o k => k o)
noncomputable def hs1 (b : Nat) : W (SK M1 Obj) := slW .free (d8 (b % 8)) (.mk fun _ o k => k o)
noncomputable def hg2 (b : Nat) : W (GK M2 Obj) := glW .free (d8 (b % 8)) (fN hg1 (b / 8))
noncomputable def hs2 (b : Nat) : W (SK M2 Obj) := slW .nil (d8 (b % 8)) (fN hs1 (b / 8))
noncomputable def hg3 (b : Nat) : W (GK M3 Obj) := glW .free (d8 (b % 8)) (fN hg2 (b / 8))
noncomputable def hs3 (b : Nat) : W (SK M3 Obj) := slW .nil (d8 (b % 8)) (fN hs2 (b / 8))
noncomputable def hg4 (b : Nat) : W (GK M4 Obj) := glW .free (d8 (b % 8)) (fN hg3 (b / 8))
noncomputable def hs4 (b : Nat) : W (SK M4 Obj) := slW .nil (d8 (b % 8)) (fN hs3 (b / 8))
noncomputable def hg5 (b : Nat) : W (GK M5 Obj) := glW .free (d8 (b % 8)) (fN hg4 (b / 8))
noncomputable def hs5 (b : Nat) : W (SK M5 Obj) := slW .nil (d8 (b % 8)) (fN hs4 (b / 8))
noncomputable def hg6 (b : Nat) : W (GK M6 Obj) := glW .free (d8 (b % 8)) (fN hg5 (b / 8))
noncomputable def hs6 (b : Nat) : W (SK M6 Obj) := slW .nil (d8 (b % 8)) (fN hs5 (b / 8))
theorem hg1_ok (b : Nat) (m : M1) (k : Obj → Ans) : (hg1 b).get m k = k ((gl .free fun o _ => o : M1 → List D8 → Obj) m (dg 1 b)) := by
  unfold hg1
  exact glW_ok (α := Obj) .free (d8 (b % 8)) [] (.mk fun o k => k o) (fun o _ => o) (fun _ _ => rfl) m k
theorem hs1_ok (b : Nat) (m : M1) (o : Obj) (k : M1 → Ans) : (hs1 b).get m o k = (sl .free fun _ _ o k => k o : M1 → List D8 → Obj → (M1 → Ans) → Ans) m (dg 1 b) o k := by
  unfold hs1
  exact slW_ok (α := Obj) .free (d8 (b % 8)) [] (.mk fun _ o k => k o) (fun _ _ o k => k o) (fun _ _ _ => rfl) m o k
theorem hg2_ok (b : Nat) (m : M2) (k : Obj → Ans) : (hg2 b).get m k = k ((gl .free (gl .free fun o _ => o) : M2 → List D8 → Obj) m (dg 2 b)) := by
  unfold hg2
  rw [fN_eq]
  exact glW_ok .free _ (dg 1 (b / 8)) _ _ (fun a k => hg1_ok (b / 8) a k) m k
theorem hs2_ok (b : Nat) (m : M2) (o : Obj) (k : M2 → Ans) : (hs2 b).get m o k = (sl .nil (sl .free fun _ _ o k => k o) : M2 → List D8 → Obj → (M2 → Ans) → Ans) m (dg 2 b) o k := by
  unfold hs2
  rw [fN_eq]
  exact slW_ok .nil _ (dg 1 (b / 8)) _ _ (fun a o k => hs1_ok (b / 8) a o k) m o k
theorem hg3_ok (b : Nat) (m : M3) (k : Obj → Ans) : (hg3 b).get m k = k ((gl .free (gl .free (gl .free fun o _ => o)) : M3 → List D8 → Obj) m (dg 3 b)) := by
  unfold hg3
  rw [fN_eq]
  exact glW_ok .free _ (dg 2 (b / 8)) _ _ (fun a k => hg2_ok (b / 8) a k) m k
theorem hs3_ok (b : Nat) (m : M3) (o : Obj) (k : M3 → Ans) : (hs3 b).get m o k = (sl .nil (sl .nil (sl .free fun _ _ o k => k o)) : M3 → List D8 → Obj → (M3 → Ans) → Ans) m (dg 3 b) o k := by
  unfold hs3
  rw [fN_eq]
  exact slW_ok .nil _ (dg 2 (b / 8)) _ _ (fun a o k => hs2_ok (b / 8) a o k) m o k
theorem hg4_ok (b : Nat) (m : M4) (k : Obj → Ans) : (hg4 b).get m k = k ((gl .free (gl .free (gl .free (gl .free fun o _ => o))) : M4 → List D8 → Obj) m (dg 4 b)) := by
  unfold hg4
  rw [fN_eq]
  exact glW_ok .free _ (dg 3 (b / 8)) _ _ (fun a k => hg3_ok (b / 8) a k) m k
theorem hs4_ok (b : Nat) (m : M4) (o : Obj) (k : M4 → Ans) : (hs4 b).get m o k = (sl .nil (sl .nil (sl .nil (sl .free fun _ _ o k => k o))) : M4 → List D8 → Obj → (M4 → Ans) → Ans) m (dg 4 b) o k := by
  unfold hs4
  rw [fN_eq]
  exact slW_ok .nil _ (dg 3 (b / 8)) _ _ (fun a o k => hs3_ok (b / 8) a o k) m o k
theorem hg5_ok (b : Nat) (m : M5) (k : Obj → Ans) : (hg5 b).get m k = k ((gl .free (gl .free (gl .free (gl .free (gl .free fun o _ => o)))) : M5 → List D8 → Obj) m (dg 5 b)) := by
  unfold hg5
  rw [fN_eq]
  exact glW_ok .free _ (dg 4 (b / 8)) _ _ (fun a k => hg4_ok (b / 8) a k) m k
theorem hs5_ok (b : Nat) (m : M5) (o : Obj) (k : M5 → Ans) : (hs5 b).get m o k = (sl .nil (sl .nil (sl .nil (sl .nil (sl .free fun _ _ o k => k o)))) : M5 → List D8 → Obj → (M5 → Ans) → Ans) m (dg 5 b) o k := by
  unfold hs5
  rw [fN_eq]
  exact slW_ok .nil _ (dg 4 (b / 8)) _ _ (fun a o k => hs4_ok (b / 8) a o k) m o k
theorem hg6_ok (b : Nat) (m : M6) (k : Obj → Ans) : (hg6 b).get m k = k ((gl .free (gl .free (gl .free (gl .free (gl .free (gl .free fun o _ => o))))) : M6 → List D8 → Obj) m (dg 6 b)) := by
  unfold hg6
  rw [fN_eq]
  exact glW_ok .free _ (dg 5 (b / 8)) _ _ (fun a k => hg5_ok (b / 8) a k) m k
theorem hs6_ok (b : Nat) (m : M6) (o : Obj) (k : M6 → Ans) : (hs6 b).get m o k = (sl .nil (sl .nil (sl .nil (sl .nil (sl .nil (sl .free fun _ _ o k => k o))))) : M6 → List D8 → Obj → (M6 → Ans) → Ans) m (dg 6 b) o k := by
  unfold hs6
  rw [fN_eq]
  exact slW_ok .nil _ (dg 5 (b / 8)) _ _ (fun a o k => hs5_ok (b / 8) a o k) m o k
/-- reads block b -/
noncomputable def hgW (b : Nat) : W (GK HP Obj) := W.use (fun f => Bool.rec (motive := fun _ => W (GK HP Obj)) (.mk fun h k => k (hget h b)) (.mk fun h k => T.rec (motive := fun _ => (Obj → Ans) → Ans) (fun k => f .nil k) (fun _ v _ _ _ k => f v k) h k) (Nat.ble b 262143)) (hg6 b)
noncomputable def hsW (b : Nat) : W (SK HP Obj) := W.use (fun f => Bool.rec (motive := fun _ => W (SK HP Obj)) (.mk fun h o k => hsetK b o h k) (.mk fun h o k => T.rec (motive := fun _ => Obj → (HP → Ans) → Ans) (fun o k => f .nil o fun m => k (.n .l m .l)) (fun a v c _ _ o k => f v o fun m => k (.n a m c)) h o k) (Nat.ble b 262143)) (hs6 b)
theorem bits0 {b : Nat} (h : Nat.ble b 262143 = true) : bits (b / 262144) = [] := by
  have : b / 262144 = 0 := Nat.div_eq_of_lt (Nat.lt_succ_of_le (Nat.le_of_ble_eq_true h))
  rw [this]; rfl
theorem hgW_ok (b : Nat) (h : HP) (k : Obj → Ans) : (hgW b).get h k = k (hget h b) := by
  unfold hgW
  rw [W.use_eq]
  cases hb : Nat.ble b 262143 with
  | false => rfl
  | true =>
    unfold hget
    rw [bits0 hb]
    cases h with
    | l => exact hg6_ok b .nil k
    | n a v c => exact hg6_ok b v k
theorem hsW_ok (b : Nat) (o : Obj) (h : HP) (k : HP → Ans) : (hsW b).get h o k = k (hset b o h) := by
  refine Eq.trans ?_ (hsetK_eq b o h k)
  unfold hsW
  rw [W.use_eq]
  cases hb : Nat.ble b 262143 with
  | false => rfl
  | true =>
    unfold hsetK
    rw [bits0 hb]
    cases h with
    | l => exact hs6_ok b .nil o _
    | n a v c => exact hs6_ok b v o _
noncomputable def hgK (b : Nat) (h : HP) (k : Obj → Ans) : Ans := W.rec (motive := fun _ => HP → (Obj → Ans) → Ans) (fun g h k => g h k) (hgW b) h k
noncomputable def hsK (b : Nat) (o : Obj) (h : HP) (k : HP → Ans) : Ans := W.rec (motive := fun _ => HP → Obj → (HP → Ans) → Ans) (fun g h o k => g h o k) (hsW b) h o k
theorem hgK_eq (b : Nat) (h : HP) (k : Obj → Ans) : hgK b h k = k (hget h b) := by
  refine Eq.trans ?_ (hgW_ok b h k)
  unfold hgK; cases hgW b; rfl
theorem hsK_eq (b : Nat) (o : Obj) (h : HP) (k : HP → Ans) : hsK b o h k = k (hset b o h) := by
  refine Eq.trans ?_ (hsW_ok b o h k)
  unfold hsK; cases hsW b; rfl
end Go.X

set_option linter.unusedVariables false
namespace Go.X
/-! ## Operations, fast -/
noncomputable def ptrC (z : Ans) (v : V) (k : Nat → Nat → Ans) : Ans := V.rec (motive_1 := fun _ => Ans → (Nat → Nat → Ans) → Ans) (motive_2 := fun _ => Unit) (fun z k => z) (fun _ z k => z) (fun _ _ z k => z) (fun _ _ z k => z) (fun b o z k => k b o) (fun z k => z) (fun _ _ _ _ _ _ z k => z) (fun z k => z) (fun _ _ _ z k => z) (fun _ z k => z) (fun z k => z) (fun _ _ _ z k => z) (fun z k => z) (fun _ _ _ z k => z) (fun z k => z) (fun _ _ z k => z) (fun _ _ z k => z) () (fun _ _ _ _ => ()) v z k
theorem ptrC_mk (z : Ans) (b : Nat) (o : Nat) (k : Nat → Nat → Ans) : ptrC z (.ptr b o) k = k b o := rfl
noncomputable def tupC (z : Ans) (v : V) (k : List V → Ans) : Ans := V.rec (motive_1 := fun _ => Ans → (List V → Ans) → Ans) (motive_2 := fun _ => Unit) (fun z k => z) (fun _ z k => z) (fun _ _ z k => z) (fun _ _ z k => z) (fun _ _ z k => z) (fun z k => z) (fun _ _ _ _ _ _ z k => z) (fun z k => z) (fun _ _ _ z k => z) (fun _ z k => z) (fun z k => z) (fun _ _ _ z k => z) (fun z k => z) (fun _ _ _ z k => z) (fun z k => z) (fun _ _ z k => z) (fun l _ z k => k l) () (fun _ _ _ _ => ()) v z k
theorem tupC_mk (z : Ans) (l : List V) (k : List V → Ans) : tupC z (.tup l) k = k l := rfl
noncomputable def aggC (z : Ans) (v : V) (k : List V → Ans) : Ans := V.rec (motive_1 := fun _ => Ans → (List V → Ans) → Ans) (motive_2 := fun _ => Unit) (fun z k => z) (fun _ z k => z) (fun _ _ z k => z) (fun _ _ z k => z) (fun _ _ z k => z) (fun z k => z) (fun _ _ _ _ _ _ z k => z) (fun z k => z) (fun _ _ _ z k => z) (fun _ z k => z) (fun z k => z) (fun _ _ _ z k => z) (fun z k => z) (fun _ _ _ z k => z) (fun z k => z) (fun l _ z k => k l) (fun _ _ z k => z) () (fun _ _ _ _ => ()) v z k
theorem aggC_mk (z : Ans) (l : List V) (k : List V → Ans) : aggC z (.agg l) k = k l := rfl
noncomputable def strC (z : Ans) (v : V) (k : Nat → Nat → Ans) : Ans := V.rec (motive_1 := fun _ => Ans → (Nat → Nat → Ans) → Ans) (motive_2 := fun _ => Unit) (fun z k => z) (fun _ z k => z) (fun _ _ z k => z) (fun s l z k => k s l) (fun _ _ z k => z) (fun z k => z) (fun _ _ _ _ _ _ z k => z) (fun z k => z) (fun _ _ _ z k => z) (fun _ z k => z) (fun z k => z) (fun _ _ _ z k => z) (fun z k => z) (fun _ _ _ z k => z) (fun z k => z) (fun _ _ z k => z) (fun _ _ z k => z) () (fun _ _ _ _ => ()) v z k
theorem strC_mk (z : Ans) (s : Nat) (l : Nat) (k : Nat → Nat → Ans) : strC z (.str s l) k = k s l := rfl
noncomputable def slcC (z : Ans) (v : V) (k : Nat → Nat → Nat → Nat → Nat → Bool → Ans) : Ans := V.rec (motive_1 := fun _ => Ans → (Nat → Nat → Nat → Nat → Nat → Bool → Ans) → Ans) (motive_2 := fun _ => Unit) (fun z k => z) (fun _ z k => z) (fun _ _ z k => z) (fun _ _ z k => z) (fun _ _ z k => z) (fun z k => z) (fun b o l c e x z k => k b o l c e x) (fun z k => z) (fun _ _ _ z k => z) (fun _ z k => z) (fun z k => z) (fun _ _ _ z k => z) (fun z k => z) (fun _ _ _ z k => z) (fun z k => z) (fun _ _ z k => z) (fun _ _ z k => z) () (fun _ _ _ _ => ()) v z k
theorem slcC_mk (z : Ans) (b : Nat) (o : Nat) (l : Nat) (c : Nat) (e : Nat) (x : Bool) (k : Nat → Nat → Nat → Nat → Nat → Bool → Ans) : slcC z (.slc b o l c e x) k = k b o l c e x := rfl
noncomputable def sqN (n : Nat) (k : Nat → Ans) : Ans := Nat.rec (motive := fun _ => (Nat → Ans) → Ans) (fun k => k 0) (fun m _ k => k (Nat.succ m)) n k
theorem sqN_eq (n : Nat) (k : Nat → Ans) : sqN n k = k n := by cases n <;> rfl
noncomputable def sqB (b : Bool) (k : Bool → Ans) : Ans := Bool.rec (motive := fun _ => Ans) (k false) (k true) b
theorem sqB_eq (b : Bool) (k : Bool → Ans) : sqB b k = k b := by cases b <;> rfl
noncomputable def seqW (v : V) : (V → Ans) → Ans := V.rec (motive_1 := fun _ => (V → Ans) → Ans) (motive_2 := fun _ => (List V → Ans) → Ans) (fun k => k .junk) (fun b k => sqB b fun b => k (.bool b)) (fun i n k => sqI n fun n => k (.int i n)) (fun s l k => sqN s fun s => sqN l fun l => k (.str s l)) (fun b o k => sqN b fun b => sqN o fun o => k (.ptr b o)) (fun k => k .nilp) (fun b o l c e x k => sqN b fun b => sqN o fun o => sqN l fun l => sqN c fun c => sqN e fun e => sqB x fun x => k (.slc b o l c e x)) (fun k => k .nils) (fun b o e k => sqN b fun b => sqN o fun o => sqN e fun e => k (.capv b o e)) (fun r k => sqN r fun r => k (.map r)) (fun k => k .nilm) (fun f _ ih k => ih fun l => k (.fn f l)) (fun k => k .nilf) (fun t _ ih k => ih fun v => k (.ifc t v)) (fun k => k .nili) (fun _ ih k => ih fun l => k (.agg l)) (fun _ ih k => ih fun l => k (.tup l)) (fun k => k []) (fun _ _ ih1 ih2 k => ih1 fun v => ih2 fun l => k (v :: l)) v
noncomputable def seqWs (l : List V) : (List V → Ans) → Ans := V.rec_1 (motive_1 := fun _ => (V → Ans) → Ans) (motive_2 := fun _ => (List V → Ans) → Ans) (fun k => k .junk) (fun b k => sqB b fun b => k (.bool b)) (fun i n k => sqI n fun n => k (.int i n)) (fun s l k => sqN s fun s => sqN l fun l => k (.str s l)) (fun b o k => sqN b fun b => sqN o fun o => k (.ptr b o)) (fun k => k .nilp) (fun b o l c e x k => sqN b fun b => sqN o fun o => sqN l fun l => sqN c fun c => sqN e fun e => sqB x fun x => k (.slc b o l c e x)) (fun k => k .nils) (fun b o e k => sqN b fun b => sqN o fun o => sqN e fun e => k (.capv b o e)) (fun r k => sqN r fun r => k (.map r)) (fun k => k .nilm) (fun f _ ih k => ih fun l => k (.fn f l)) (fun k => k .nilf) (fun t _ ih k => ih fun v => k (.ifc t v)) (fun k => k .nili) (fun _ ih k => ih fun l => k (.agg l)) (fun _ ih k => ih fun l => k (.tup l)) (fun k => k []) (fun _ _ ih1 ih2 k => ih1 fun v => ih2 fun l => k (v :: l)) l
theorem seqW_eq (v : V) : ∀ k : V → Ans, seqW v k = k v := V.rec (motive_1 := fun v => ∀ k : V → Ans, seqW v k = k v) (motive_2 := fun l => ∀ k : List V → Ans, seqWs l k = k l) (fun k => rfl) (fun b k => by show (sqB b fun b => k (.bool b)) = _; simp only [sqB_eq]) (fun i n k => by show (sqI n fun n => k (.int i n)) = _; simp only [sqI_eq]) (fun s l k => by show (sqN s fun s => sqN l fun l => k (.str s l)) = _; simp only [sqN_eq]) (fun b o k => by show (sqN b fun b => sqN o fun o => k (.ptr b o)) = _; simp only [sqN_eq]) (fun k => rfl) (fun b o l c e x k => by show (sqN b fun b => sqN o fun o => sqN l fun l => sqN c fun c => sqN e fun e => sqB x fun x => k (.slc b o l c e x)) = _; simp only [sqB_eq, sqN_eq]) (fun k => rfl) (fun b o e k => by show (sqN b fun b => sqN o fun o => sqN e fun e => k (.capv b o e)) = _; simp only [sqN_eq]) (fun r k => by show (sqN r fun r => k (.map r)) = _; simp only [sqN_eq]) (fun k => rfl) (fun f l ih k => by show (seqWs l fun l => k (.fn f l)) = _; rw [ih]) (fun k => rfl) (fun t v ih k => by show (seqW v fun v => k (.ifc t v)) = _; rw [ih]) (fun k => rfl) (fun l ih k => by show (seqWs l fun l => k (.agg l)) = _; rw [ih]) (fun l ih k => by show (seqWs l fun l => k (.tup l)) = _; rw [ih]) (fun k => rfl) (fun v l ih1 ih2 k => by show (seqW v fun v => seqWs l fun l => k (v :: l)) = _; rw [ih1, ih2]) v
theorem seqWs_eq (l : List V) : ∀ k : List V → Ans, seqWs l k = k l := V.rec_1 (motive_1 := fun v => ∀ k : V → Ans, seqW v k = k v) (motive_2 := fun l => ∀ k : List V → Ans, seqWs l k = k l) (fun k => rfl) (fun b k => by show (sqB b fun b => k (.bool b)) = _; simp only [sqB_eq]) (fun i n k => by show (sqI n fun n => k (.int i n)) = _; simp only [sqI_eq]) (fun s l k => by show (sqN s fun s => sqN l fun l => k (.str s l)) = _; simp only [sqN_eq]) (fun b o k => by show (sqN b fun b => sqN o fun o => k (.ptr b o)) = _; simp only [sqN_eq]) (fun k => rfl) (fun b o l c e x k => by show (sqN b fun b => sqN o fun o => sqN l fun l => sqN c fun c => sqN e fun e => sqB x fun x => k (.slc b o l c e x)) = _; simp only [sqB_eq, sqN_eq]) (fun k => rfl) (fun b o e k => by show (sqN b fun b => sqN o fun o => sqN e fun e => k (.capv b o e)) = _; simp only [sqN_eq]) (fun r k => by show (sqN r fun r => k (.map r)) = _; simp only [sqN_eq]) (fun k => rfl) (fun f l ih k => by show (seqWs l fun l => k (.fn f l)) = _; rw [ih]) (fun k => rfl) (fun t v ih k => by show (seqW v fun v => k (.ifc t v)) = _; rw [ih]) (fun k => rfl) (fun l ih k => by show (seqWs l fun l => k (.agg l)) = _; rw [ih]) (fun l ih k => by show (seqWs l fun l => k (.tup l)) = _; rw [ih]) (fun k => rfl) (fun v l ih1 ih2 k => by show (seqW v fun v => seqWs l fun l => k (v :: l)) = _; rw [ih1, ih2]) l
noncomputable def seqOW (ob : Obj) (k : Obj → Ans) : Ans := Obj.rec (motive := fun _ => (Obj → Ans) → Ans) (fun k => k .free)
  (fun vs e h k => seqWs vs fun vs => sqN h fun h => k (.cells vs e h))
  (fun s l e h k => sqN s fun s => sqN l fun l => sqN h fun h => k (.bytes s l e h))
  (fun kt es c k => seqO (.map kt es c) k) (fun s l p k => sqN p fun p => k (.siter s l p)) (fun m s seen l k => seqO (.miter m s seen l) k) (fun s p d k => k (.loop s p d)) (fun k => k .dfr) ob k
theorem seqOW_eq (ob : Obj) (k : Obj → Ans) : seqOW ob k = k ob := by
  cases ob <;> simp only [seqOW, seqWs_eq, sqN_eq, seqO_eq]
/-- the one outcome -/
noncomputable def oneF (a : Ans) (k : KV) : Ans := Ans.rec (motive := fun _ => KV → Ans) (fun w _ => .stuck w)
  (fun l k => List.rec (motive := fun _ => KV → Ans) (fun _ => .stuck "no outcome") (fun f r _ k => List.rec (motive := fun _ => Fin → KV → Ans) (fun f k => Fin.rec (motive := fun _ => KV → Ans) (fun v h n _ _ k => k v h n) f k) (fun g s _ f k => one (.ok (f :: g :: s)) fun r => k r.v r.hp r.nx) r f k) l k) a k
theorem oneF_eq (a : Ans) (k : KV) : oneF a k = one a fun r => k r.v r.hp r.nx := by
  cases a with
  | stuck w => rfl
  | ok l => cases l with
    | nil => rfl
    | cons f r => cases r with
      | nil => cases f; rfl
      | cons g s => rfl
noncomputable def doF (G : Calls) (e : Eff) (hp : HP) (nx : Nat) (k : KV) : Ans := Eff.rec (motive := fun _ => Calls → HP → Nat → KV → Ans)
  (fun w _ _ _ _ => .stuck w)
  (fun v _ hp nx k => seqW v fun v => k v hp nx)
  (fun ob v _ hp nx k => seqOW ob fun ob => hsK nx ob hp fun h => seqW v fun v => sqN (nx + 1) fun n => k v h n)
  (fun b ob v _ hp nx k => seqOW ob fun ob => hsK b ob hp fun h => seqW v fun v => k v h nx)
  (fun b ob p v _ hp nx k => seqOW ob fun ob => hsK b ob hp fun h => seqOW p fun p => hsK nx p h fun h => seqW v fun v => sqN (nx + 1) fun n => k v h n)
  (fun f args G hp nx k => oneF (G.call f args hp nx) k)
  (fun l args G hp nx k => oneF (G.round l args hp nx) k)
  (fun b l _ hp nx k => forks b hp nx k l) e G hp nx k
theorem doF_eq (G : Calls) (e : Eff) (hp : HP) (nx : Nat) (k : KV) : doF G e hp nx k = doEff G e hp nx k := by
  cases e <;> simp only [doF, doEff, seqW_eq, seqV_eq, seqOW_eq, hsK_eq, putH_eq, sqN_eq, seqN_eq, oneF_eq]
/-! readers -/
abbrev RK := List V → EF → (V → Ans) → Ans
noncomputable def locW (n : Nat) : W RK := Nat.rec (motive := fun _ => W RK) (.mk fun l _ k => List.rec (motive := fun _ => (V → Ans) → Ans) (fun k => k .junk) (fun v _ _ k => k v) l k)
  (fun _ ih => W.use (fun f => .mk fun l e k => List.rec (motive := fun _ => EF → (V → Ans) → Ans) (fun _ k => k .junk) (fun _ r _ e k => f r e k) l e k) ih) n
theorem locW_ok : ∀ (n : Nat) (l : List V) (e : EF) (k : V → Ans), (locW n).get l e k = k (getLoc n l)
  | 0, l, e, k => by cases l <;> rfl
  | n + 1, l, e, k => by
    show (W.use (fun f => W.mk fun l e k => List.rec (motive := fun _ => EF → (V → Ans) → Ans) (fun _ k => k V.junk) (fun _ r _ e k => f r e k) l e k : _ → W RK) (locW n)).get l e k = _
    rw [W.use_eq]
    cases l with
    | nil => rfl
    | cons v r => exact locW_ok n r e k
noncomputable def rkW (s : Src0) : W RK := match s with
  | .loc k => locW k
  | .env i => W.use (fun g => .mk fun _ e k => g e k) (fgW i)
  | .const v => .mk fun _ _ k => k v
theorem rkW_ok (s : Src0) (l : List V) (e : EF) (k : V → Ans) : (rkW s).get l e k = k (rdS s l e) := by
  cases s with
  | loc n => exact locW_ok n l e k
  | env i =>
    unfold rkW
    simp only [W.use_eq]
    exact fgW_ok i e k
  | const v => rfl
/-- the same of an operand -/
noncomputable def rk (sl : List Nat) (past : List (Option Tmp)) (x : Operand) : W RK := rkW (opdSrc sl past x)
theorem rk_ok (sl : List Nat) (past : List (Option Tmp)) (x : Operand) (l : List V) (e : EF) (k : V → Ans) : (rk sl past x).get l e k = k (rdS (opdSrc sl past x) l e) := rkW_ok _ l e k
end Go.X

set_option linter.unusedVariables false
namespace Go.X
/-! ## Operations, fast: each is as `doEff` has it -/
section
variable (C : Cfg) (sl : List Nat) (past : List (Option Tmp))
/-- how an operation is done: the plain way -/
noncomputable def genW (o : Op) : W OP := W.use (fun ef => .mk fun G l e hp nx k => doF G (ef ⟨fun x => rdS (opdSrc sl past x) l e, hget hp, nx⟩) hp nx k) (effW o C)
def OkW (o : Op) (w : W OP) : Prop := ∀ (G : Calls) (l : List V) (e : EF) (hp : HP) (nx : Nat) (k : KV), w.get G l e hp nx k = doEff G (eff o C ⟨fun x => rdS (opdSrc sl past x) l e, hget hp, nx⟩) hp nx k
theorem genW_ok (o : Op) : OkW C sl past o (genW C sl past o) := by
  intro G l e hp nx k
  unfold genW
  rw [W.use_eq]
  simp only [W.get_mk, effW_get, doF_eq]
noncomputable def moveW (x : Operand) : W OP := W.use (fun r => .mk fun _ l e hp nx k => r l e fun v => k v hp nx) (rk sl past x)
theorem moveW_ok (o : Op) (x : Operand) (ho : ∀ c, eff o C c = .val (c.rd x)) : OkW C sl past o (moveW sl past x) := by
  intro G l e hp nx k
  unfold moveW
  rw [W.use_eq, ho]
  simp only [W.get_mk, rk_ok, doEff, seqV_eq]
/-! numbers -/
noncomputable def kN (i : IntKind) : Nat := IntKind.rec (motive := fun _ => Nat) 0 1 2 3 4 5 6 7 i
noncomputable def int2 (z : Ans) (v w : V) (k : IntKind → Int → Int → Ans) : Ans := intC z v fun i a => intC z w fun j b => bif2 (Nat.beq (kN i) (kN j)) (k i a b) z
theorem kN_eq (i j : IntKind) : Nat.beq (kN i) (kN j) = keq i j := by cases i <;> cases j <;> rfl
theorem intC_ok (z : Ans) (v : V) (k : IntKind → Int → Ans) (h : ∀ i a, v = .int i a → k i a = z) : intC z v k = z := by
  cases v <;> first | rfl | exact h _ _ rfl
theorem int2_ok (z : Ans) (v w : V) (k : IntKind → Int → Int → Ans) (h : ∀ i a b, v = .int i a → w = .int i b → k i a b = z) : int2 z v w k = z := by
  refine intC_ok z v _ fun i a hv => intC_ok z w _ fun j b hw => ?_
  rw [bif2_eq, kN_eq]
  cases hk : keq i j with
  | false => rfl
  | true =>
    obtain rfl : i = j := of_decide_eq_true ((keq_eq i j).symm.trans hk)
    exact h i a b hv hw
noncomputable def wrapK (i : IntKind) (n : Int) (k : V → Ans) : Ans := Int.rec (motive := fun _ => IntKind → (V → Ans) → Ans)
  (fun m i k => sqN m fun m => bif2 (Nat.ble m (maxNat i)) (k (.int i (.ofNat m))) (sqI (i.wrap (.ofNat m)) fun n => k (.int i n)))
  (fun m i k => sqI (i.wrap (.negSucc m)) fun n => k (.int i n)) n i k
theorem wrapK_eq (i : IntKind) (n : Int) (k : V → Ans) : wrapK i n k = k (.int i (wrapX i n)) := by
  cases n with
  | ofNat m =>
    simp only [wrapK, sqN_eq, sqI_eq, bif2_eq, wrapX]
    cases Nat.ble m (maxNat i) <;> rfl
  | negSucc m => simp only [wrapK, sqI_eq, wrapX]
noncomputable def subI (a b : Int) : Int := Int.rec (motive := fun _ => Int → Int) (fun m b => Int.rec (motive := fun _ => Nat → Int) (fun n m => Bool.rec (motive := fun _ => Int) (Int.subNatNat m n) (.ofNat (Nat.sub m n)) (Nat.ble n m)) (fun n m => .ofNat (Nat.add m (Nat.succ n))) b m) (fun m b => .negSucc m - b) a b
theorem subI_eq (a b : Int) : subI a b = a - b := by
  cases a with
  | negSucc m => rfl
  | ofNat m => cases b with
    | negSucc n => rfl
    | ofNat n =>
      show Bool.rec (motive := fun _ => Int) (Int.subNatNat m n) (.ofNat (Nat.sub m n)) (Nat.ble n m) = _
      cases h : Nat.ble n m with
      | false => exact (Int.subNatNat_eq_coe (m := m) (n := n)) ▸ rfl
      | true =>
        have : n ≤ m := Nat.le_of_ble_eq_true h
        show (Int.ofNat (m - n)) = Int.ofNat m - Int.ofNat n
        simp only [Int.ofNat_eq_natCast]; omega
abbrev BK := Ans → IntKind → Int → Int → (V → Ans) → Ans
noncomputable def binK (op : BinOp) : W BK := match op with
  | .add => .mk fun _ i a b k => wrapK i (addI a b) k
  | .sub => .mk fun _ i a b k => wrapK i (subI a b) k
  | .lss => .mk fun _ i a b k => sqB (ltI a b) fun c => k (.bool c)
  | .leq => .mk fun _ i a b k => sqB (ltI b a) fun c => k (.bool (!c))
  | .gtr => .mk fun _ i a b k => sqB (ltI b a) fun c => k (.bool c)
  | .geq => .mk fun _ i a b k => sqB (ltI a b) fun c => k (.bool (!c))
  | .eql => .mk fun _ i a b k => sqB (eqI a b) fun c => k (.bool c)
  | .neq => .mk fun _ i a b k => sqB (eqI a b) fun c => k (.bool (!c))
  | .mul => .mk fun _ i a b k => wrapK i (a * b) k
  | _ => .mk fun z _ _ _ _ => z
noncomputable def binW (op : BinOp) (t : TypeId) (x y : Operand) (u : TypeId) : W OP :=
  W.use (fun g => W.use (fun rx => W.use (fun ry => W.use (fun f => .mk fun G l e hp nx k => rx l e fun v => ry l e fun w =>
    int2 (g G l e hp nx k) v w fun i a b => f (g G l e hp nx k) i a b fun v => k v hp nx) (binK op)) (rk sl past y)) (rk sl past x)) (genW C sl past (.binOp op t x y u))
theorem binK_ok (op : BinOp) (z : Ans) (i : IntKind) (a b : Int) (k : V → Ans) (h : ∀ v, binII op i a i b = .val v → k v = z) : (binK op).get z i a b k = z := by
  have hk : keq i i = true := by cases i <;> rfl
  have h' : isShift op = false → ∀ v, intOp op i a b = .val v → k v = z := fun hs v hv => h v (by simp only [binII, hs, hk, cond]; exact hv)
  cases op <;> (try rfl) <;> simp only [binK, W.get_mk, wrapK_eq, addI_eq, subI_eq, sqB_eq, ltI_eq, eqI_eq] <;> exact h' rfl _ rfl
theorem binW_ok (op : BinOp) (t : TypeId) (x y : Operand) (u : TypeId) : OkW C sl past (.binOp op t x y u) (binW C sl past op t x y u) := by
  intro G l e hp nx k
  have hg := genW_ok C sl past (.binOp op t x y u) G l e hp nx k
  unfold binW
  simp only [W.use_eq, W.get_mk, rk_ok]
  rw [hg]
  refine int2_ok _ _ _ _ fun i a b hx hy => binK_ok op _ i a b _ fun v hv => ?_
  have he : eff (.binOp op t x y u) C ⟨fun x => rdS (opdSrc sl past x) l e, hget hp, nx⟩ = .val v := by
    show effBin op t x y C.P _ = _
    simp only [effBin, hx, hy, binI, hv]
  rw [he]
  simp only [doEff, seqV_eq]
theorem ptrC_ok (z : Ans) (v : V) (k : Nat → Nat → Ans) (h : ∀ b o, v = .ptr b o → k b o = z) : ptrC z v k = z := by
  cases v <;> first | rfl | exact h _ _ rfl
theorem tupC_ok (z : Ans) (v : V) (k : List V → Ans) (h : ∀ l, v = .tup l → k l = z) : tupC z v k = z := by
  cases v <;> first | rfl | exact h _ rfl
theorem slcC_ok (z : Ans) (v : V) (k : Nat → Nat → Nat → Nat → Nat → Bool → Ans) (h : ∀ b o l c e x, v = .slc b o l c e x → k b o l c e x = z) : slcC z v k = z := by
  cases v <;> first | rfl | exact h _ _ _ _ _ _ rfl
noncomputable def nilW (x : Operand) : W OP := W.use (fun g => W.use (fun rx => .mk fun G l e hp nx k => rx l e fun v => ptrC (g G l e hp nx k) v fun b o => k v hp nx) (rk sl past x)) (genW C sl past (.nilCheck x))
theorem nilW_ok (x : Operand) : OkW C sl past (.nilCheck x) (nilW C sl past x) := by
  intro G l e hp nx k
  have hg := genW_ok C sl past (.nilCheck x) G l e hp nx k
  unfold nilW
  simp only [W.use_eq, W.get_mk, rk_ok]
  rw [hg]
  refine ptrC_ok _ _ _ fun b o hv => ?_
  have he : eff (.nilCheck x) C ⟨fun x => rdS (opdSrc sl past x) l e, hget hp, nx⟩ = .val (.ptr b o) := by
    show effNil x C.P _ = _
    simp only [effNil, hv]
  rw [he, hv]
  simp only [doEff, seqV_eq]
noncomputable def fieldAddrW (s : TypeId) (x : Operand) (f : Nat) : W OP := match fieldOff C.P s f with
  | some d => W.use (fun g => W.use (fun rx => .mk fun G l e hp nx k => rx l e fun v => ptrC (g G l e hp nx k) v fun b o => sqN (Nat.add o d) fun o => k (.ptr b o) hp nx) (rk sl past x)) (genW C sl past (.fieldAddr s x f))
  | none => genW C sl past (.fieldAddr s x f)
theorem fieldAddrW_ok (s : TypeId) (x : Operand) (f : Nat) : OkW C sl past (.fieldAddr s x f) (fieldAddrW C sl past s x f) := by
  unfold fieldAddrW
  cases hd : fieldOff C.P s f with
  | none => exact genW_ok C sl past _
  | some d =>
    intro G l e hp nx k
    have hg := genW_ok C sl past (.fieldAddr s x f) G l e hp nx k
    simp only [W.use_eq, W.get_mk, rk_ok]
    rw [hg]
    refine ptrC_ok _ _ _ fun b o hv => ?_
    have he : eff (.fieldAddr s x f) C ⟨fun x => rdS (opdSrc sl past x) l e, hget hp, nx⟩ = .val (.ptr b (o + d)) := by
      show effFieldAddr s x f C.P _ = _
      simp only [effFieldAddr, hv, hd]
    rw [he, sqN_eq]
    simp only [doEff, seqV_eq]
    rfl
noncomputable def nthW (n : Nat) : W (List V → Ans → (V → Ans) → Ans) := Nat.rec (motive := fun _ => W (List V → Ans → (V → Ans) → Ans)) (.mk fun l z k => List.rec (motive := fun _ => Ans → (V → Ans) → Ans) (fun z _ => z) (fun v _ _ _ k => k v) l z k)
  (fun _ ih => W.use (fun f => .mk fun l z k => List.rec (motive := fun _ => Ans → (V → Ans) → Ans) (fun z _ => z) (fun _ r _ z k => f r z k) l z k) ih) n
theorem nthW_ok : ∀ (n : Nat) (l : List V) (z : Ans) (k : V → Ans) (h : ∀ v, getL l n = some v → k v = z), (nthW n).get l z k = z
  | 0, l, z, k, h => by
    cases l with
    | nil => rfl
    | cons v r => exact h v rfl
  | n + 1, l, z, k, h => by
    show (W.use (fun f => W.mk fun l z k => List.rec (motive := fun _ => Ans → (V → Ans) → Ans) (fun z _ => z) (fun _ r _ z k => f r z k) l z k : _ → W (List V → Ans → (V → Ans) → Ans)) (nthW n)).get l z k = _
    rw [W.use_eq]
    cases l with
    | nil => rfl
    | cons v r => exact nthW_ok n r z k h
noncomputable def extractW (x : Operand) (i : Nat) : W OP := W.use (fun g => W.use (fun rx => W.use (fun f => .mk fun G l e hp nx k => rx l e fun v => tupC (g G l e hp nx k) v fun vs => f vs (g G l e hp nx k) fun v => k v hp nx) (nthW i)) (rk sl past x)) (genW C sl past (.extract x i))
theorem extractW_ok (x : Operand) (i : Nat) : OkW C sl past (.extract x i) (extractW C sl past x i) := by
  intro G l e hp nx k
  have hg := genW_ok C sl past (.extract x i) G l e hp nx k
  unfold extractW
  simp only [W.use_eq, W.get_mk, rk_ok]
  rw [hg]
  refine tupC_ok _ _ _ fun vs hv => nthW_ok i vs _ _ fun v hn => ?_
  have he : eff (.extract x i) C ⟨fun x => rdS (opdSrc sl past x) l e, hget hp, nx⟩ = .val v := by
    show effExtract x i C.P _ = _
    simp only [effExtract, hv, hn]
  rw [he]
  simp only [doEff, seqV_eq]
/-! memory -/
noncomputable def nthD (n : Nat) (l : List V) (z : Ans) (k : V → Ans) : Ans := Nat.rec (motive := fun _ => List V → Ans → (V → Ans) → Ans) (fun l z k => List.rec (motive := fun _ => Ans → (V → Ans) → Ans) (fun z _ => z) (fun v _ _ _ k => k v) l z k)
  (fun _ ih l z k => List.rec (motive := fun _ => (List V → Ans → (V → Ans) → Ans) → Ans → (V → Ans) → Ans) (fun _ z _ => z) (fun _ r _ ih z k => ih r z k) l ih z k) n l z k
theorem nthD_ok (z : Ans) (k : V → Ans) : ∀ (n : Nat) (l : List V) (h : ∀ v, getL l n = some v → k v = z), nthD n l z k = z
  | 0, l, h => by
    cases l with
    | nil => rfl
    | cons v r => exact h v rfl
  | n + 1, l, h => by
    cases l with
    | nil => rfl
    | cons v r => exact nthD_ok z k n r h
noncomputable def rowC (z : Ans) (ob : Obj) (kc : List V → TypeId → Nat → Ans) (kb : Nat → Nat → TypeId → Nat → Ans) : Ans := Obj.rec (motive := fun _ => Ans → (List V → TypeId → Nat → Ans) → (Nat → Nat → TypeId → Nat → Ans) → Ans) (fun z _ _ => z) (fun vs e h _ kc _ => kc vs e h) (fun s l e h _ _ kb => kb s l e h) (fun _ _ _ z _ _ => z) (fun _ _ _ z _ _ => z) (fun _ _ _ _ z _ _ => z) (fun _ _ _ z _ _ => z) (fun z _ _ => z) ob z kc kb
theorem rowC_ok (z : Ans) (ob : Obj) (kc : List V → TypeId → Nat → Ans) (kb : Nat → Nat → TypeId → Nat → Ans) (h : ∀ vs e h, ob = .cells vs e h → kc vs e h = z) (h' : ∀ s l e h, ob = .bytes s l e h → kb s l e h = z) : rowC z ob kc kb = z := by
  cases ob <;> first | rfl | exact h _ _ _ rfl | exact h' _ _ _ _ rfl
def isOne : Lay → Bool | .one => true | _ => false
noncomputable def loadW (t : TypeId) (a : Operand) : W OP := match isOne (lay C.P t) with
  | true => W.use (fun g => W.use (fun ra => .mk fun G l e hp nx k => ra l e fun v => ptrC (g G l e hp nx k) v fun b o => hgK b hp fun ob =>
      rowC (g G l e hp nx k) ob (fun vs _ _ => nthD o vs (g G l e hp nx k) fun v => k v hp nx)
        (fun s n _ _ => bif2 (Nat.ble (Nat.succ o) n) (sqN (sGet s n o) fun q => k (.int .u8 (.ofNat q)) hp nx) (g G l e hp nx k))) (rk sl past a)) (genW C sl past (.load t a))
  | false => genW C sl past (.load t a)
theorem loadW_ok (t : TypeId) (a : Operand) : OkW C sl past (.load t a) (loadW C sl past t a) := by
  unfold loadW
  cases hl : lay C.P t with
  | bad => exact genW_ok C sl past _
  | agg n => exact genW_ok C sl past _
  | one =>
    intro G l e hp nx k
    have hg := genW_ok C sl past (.load t a) G l e hp nx k
    simp only [isOne, W.use_eq, W.get_mk, rk_ok, hgK_eq]
    rw [hg]
    refine ptrC_ok _ _ _ fun b o hv => rowC_ok _ _ _ _ (fun vs e' h' hob => nthD_ok _ _ o vs fun v hn => ?_) fun s n e' h' hob => ?_
    · have he : eff (.load t a) C ⟨fun x => rdS (opdSrc sl past x) l e, hget hp, nx⟩ = .val v := by
        show effLoad t a C.P _ = _
        simp only [effLoad, hv, hl, hob, loadX, partL, hn]
      rw [he]
      simp only [doEff, seqV_eq]
    · rw [bif2_eq]
      show (bif Nat.ble (o + 1) n then _ else _) = _
      cases hb : Nat.ble (o + 1) n with
      | false => rfl
      | true =>
        have he : eff (.load t a) C ⟨fun x => rdS (opdSrc sl past x) l e, hget hp, nx⟩ = .val (.int .u8 (Int.ofNat (sGet s n o))) := by
          show effLoad t a C.P _ = _
          simp only [effLoad, hv, hl, hob, loadX, hb, cond]
        rw [he]
        simp only [doEff, seqV_eq, sqN_eq, cond]
end
end Go.X

set_option linter.unusedVariables false
namespace Go.X
section
variable (C : Cfg) (sl : List Nat) (past : List (Option Tmp))
/-! lengths -/
noncomputable def lenC (z : Ans) (v : V) (ks : Nat → Ans) (kl : Nat → Ans) : Ans := V.rec (motive_1 := fun _ => Ans → (Nat → Ans) → (Nat → Ans) → Ans) (motive_2 := fun _ => Unit) (fun z ks kl => z) (fun _ z ks kl => z) (fun _ _ z ks kl => z) (fun _ l z ks kl => ks l) (fun _ _ z ks kl => z) (fun z ks kl => z) (fun _ _ l _ _ _ z ks kl => kl l) (fun z ks kl => kl 0) (fun _ _ _ z ks kl => z) (fun _ z ks kl => z) (fun z ks kl => z) (fun _ _ _ z ks kl => z) (fun z ks kl => z) (fun _ _ _ z ks kl => z) (fun z ks kl => z) (fun _ _ z ks kl => z) (fun _ _ z ks kl => z) () (fun _ _ _ _ => ()) v z ks kl
theorem lenC_ok (z : Ans) (v : V) (ks kl : Nat → Ans) (h1 : ∀ s l, v = .str s l → ks l = z) (h2 : ∀ b o l c e x, v = .slc b o l c e x → kl l = z) (h3 : v = .nils → kl 0 = z) : lenC z v ks kl = z := by
  cases v <;> first | rfl | exact h1 _ _ rfl | exact h2 _ _ _ _ _ _ rfl | exact h3 rfl
inductive LenK where | str | slc | no
def lenK (P : Program) (ts : List TypeId) : LenK := match ts with
  | t :: _ => (match P.underlying t with | some .string => .str | some (.slice _) => .slc | _ => .no)
  | [] => .no
noncomputable def lenW (q : Call) (x : Operand) : W OP := match lenK C.P q.argTypes.toList with
  | .str => W.use (fun g => W.use (fun rx => .mk fun G l e hp nx k => rx l e fun v => lenC (g G l e hp nx k) v (fun n => k (.int .i64 (.ofNat n)) hp nx) (fun _ => g G l e hp nx k)) (rk sl past x)) (genW C sl past (.call q))
  | .slc => W.use (fun g => W.use (fun rx => .mk fun G l e hp nx k => rx l e fun v => lenC (g G l e hp nx k) v (fun _ => g G l e hp nx k) (fun n => k (.int .i64 (.ofNat n)) hp nx)) (rk sl past x)) (genW C sl past (.call q))
  | .no => genW C sl past (.call q)
theorem lenW_ok (q : Call) (x : Operand) (hc : q.callee = .builtin .len) (hx : q.args.toList = [x]) : OkW C sl past (.call q) (lenW C sl past q x) := by
  have he : ∀ c : Cx, eff (.call q) C c = effLen q.argTypes.toList x C.P c := by
    intro c
    show effCall q C c = _
    unfold effCall
    rw [hc]
    simp only [effBuiltin, hx]
  unfold lenW lenK
  cases ht : q.argTypes.toList with
  | nil => exact genW_ok C sl past _
  | cons t r =>
    simp only
    cases hu : C.P.underlying t with
    | none => exact genW_ok C sl past _
    | some d =>
      cases d <;> (try exact genW_ok C sl past _)
      · intro G l e hp nx k
        have hg := genW_ok C sl past (.call q) G l e hp nx k
        simp only [W.use_eq, W.get_mk, rk_ok]
        rw [hg]
        refine lenC_ok _ _ _ _ (fun s n hv => ?_) (fun _ _ _ _ _ _ _ => rfl) (fun _ => rfl)
        rw [he, ht]
        simp only [effLen, hu, hv, lenX, doEff, seqV_eq]
      · intro G l e hp nx k
        have hg := genW_ok C sl past (.call q) G l e hp nx k
        simp only [W.use_eq, W.get_mk, rk_ok]
        rw [hg]
        refine lenC_ok _ _ _ _ (fun _ _ _ => rfl) (fun b o n c e' x' hv => ?_) (fun hv => ?_)
        · rw [he, ht]
          simp only [effLen, hu, hv, lenX, doEff, seqV_eq]
        · rw [he, ht]
          simp only [effLen, hu, hv, lenX, doEff, seqV_eq]
/-! calls -/
noncomputable def rdsW : List Operand → W (List V → EF → (List V → Ans) → Ans)
  | [] => .mk fun _ _ k => k []
  | x :: r => W.use (fun f => W.use (fun rx => .mk fun l e k => rx l e fun v => f l e fun vs => k (v :: vs)) (rk sl past x)) (rdsW r)
theorem rdsW_ok (l : List V) (e : EF) (hp : Nat → Obj) (nx : Nat) : ∀ (xs : List Operand) (k : List V → Ans), (rdsW sl past xs).get l e k = k (rds xs ⟨fun x => rdS (opdSrc sl past x) l e, hp, nx⟩)
  | [], k => rfl
  | x :: r, k => by
    unfold rdsW
    simp only [W.use_eq, W.get_mk, rk_ok, rdsW_ok l e hp nx r]
    rfl
def hasBody (P : Program) (f : FuncId) : Bool := match P.funcs[f]? with | some fn => (match fn.body with | some _ => true | none => false) | none => false
noncomputable def callW (q : Call) (f : FuncId) : W OP := match hasBody C.P f with
  | true => W.use (fun rs => .mk fun G l e hp nx k => rs l e fun vs => oneF (G.call f vs hp nx) k) (rdsW sl past q.args.toList)
  | false => genW C sl past (.call q)
theorem callW_ok (q : Call) (f : FuncId) (hc : q.callee = .value (.func f)) : OkW C sl past (.call q) (callW C sl past q f) := by
  unfold callW
  cases hb : hasBody C.P f with
  | false => exact genW_ok C sl past _
  | true =>
    intro G l e hp nx k
    simp only [W.use_eq, W.get_mk, rdsW_ok sl past l e (hget hp) nx]
    have he : eff (.call q) C ⟨fun x => rdS (opdSrc sl past x) l e, hget hp, nx⟩ = .call f (rds q.args.toList ⟨fun x => rdS (opdSrc sl past x) l e, hget hp, nx⟩) := by
      show effCall q C _ = _
      unfold effCall
      rw [hc]
      simp only [opdSrc, rdS, List.append_nil, callX]
      unfold hasBody at hb
      cases hf : C.P.funcs[f]? with
      | none => rw [hf] at hb; cases hb
      | some fn =>
        rw [hf] at hb
        simp only at hb ⊢
        cases hd : fn.body with
        | none => rw [hd] at hb; cases hb
        | some _ => rfl
    rw [he, oneF_eq]
    rfl
/-! picks, new cells -/
noncomputable def boolC (z : Ans) (v : V) (a b : Ans) : Ans := V.rec (motive_1 := fun _ => Ans → Ans → Ans → Ans) (motive_2 := fun _ => Unit) (fun z a b => z) (fun c z a b => Bool.rec (motive := fun _ => Ans) b a c) (fun _ _ z a b => z) (fun _ _ z a b => z) (fun _ _ z a b => z) (fun z a b => z) (fun _ _ _ _ _ _ z a b => z) (fun z a b => z) (fun _ _ _ z a b => z) (fun _ z a b => z) (fun z a b => z) (fun _ _ _ z a b => z) (fun z a b => z) (fun _ _ _ z a b => z) (fun z a b => z) (fun _ _ z a b => z) (fun _ _ z a b => z) () (fun _ _ _ _ => ()) v z a b
theorem boolC_ok (z : Ans) (v : V) (a b : Ans) (h1 : v = .bool true → a = z) (h2 : v = .bool false → b = z) : boolC z v a b = z := by
  cases v <;> (try rfl)
  rename_i c
  cases c
  · exact h2 rfl
  · exact h1 rfl
noncomputable def pickW (c a b : Operand) : W OP := W.use (fun g => W.use (fun rc => W.use (fun ra => W.use (fun rb => .mk fun G l e hp nx k => rc l e fun v => boolC (g G l e hp nx k) v (ra l e fun v => k v hp nx) (rb l e fun v => k v hp nx)) (rk sl past b)) (rk sl past a)) (rk sl past c)) (genW C sl past (.pick c a b))
theorem pickW_ok (c a b : Operand) : OkW C sl past (.pick c a b) (pickW C sl past c a b) := by
  intro G l e hp nx k
  have hg := genW_ok C sl past (.pick c a b) G l e hp nx k
  unfold pickW
  simp only [W.use_eq, W.get_mk, rk_ok]
  rw [hg]
  refine boolC_ok _ _ _ _ (fun hv => ?_) (fun hv => ?_)
  · show _ = doEff G (effPick c a b C.P _) hp nx k
    simp only [effPick, hv, doEff, seqV_eq]
  · show _ = doEff G (effPick c a b C.P _) hp nx k
    simp only [effPick, hv, doEff, seqV_eq]
noncomputable def allocW (t : TypeId) : W OP := match zeroL C.P t with
  | some z => .mk fun G l e hp nx k => hsK nx (.cells z t 0) hp fun h => sqN (nx + 1) fun n => k (.ptr nx 0) h n
  | none => genW C sl past (.alloc t)
theorem allocW_ok (t : TypeId) : OkW C sl past (.alloc t) (allocW C sl past t) := by
  unfold allocW
  cases hz : zeroL C.P t with
  | none => exact genW_ok C sl past _
  | some z =>
    intro G l e hp nx k
    simp only [W.get_mk, hsK_eq, sqN_eq]
    show _ = doEff G (effAlloc t C.P _) hp nx k
    simp only [effAlloc, hz, doEff, putH_eq, seqV_eq, seqN_eq]
/-! rows -/
def slcEs : Sq → Option Nat | .slice es _ _ => some es | _ => none
noncomputable def indexAddrW (t : TypeId) (x i : Operand) : W OP := match slcEs (sqOf C.P t) with
  | some es => W.use (fun g => W.use (fun rx => W.use (fun ri => .mk fun G l e hp nx k => rx l e fun v => slcC (g G l e hp nx k) v fun b o len _ es' _ =>
      ri l e fun w => intC (g G l e hp nx k) w fun _ n => natC (g G l e hp nx k) n fun n => bif2 (Nat.ble (Nat.succ n) len) (bif2 (Nat.beq es es') (sqN (Nat.add o (Nat.mul n es)) fun q => k (.ptr b q) hp nx) (g G l e hp nx k)) (g G l e hp nx k))
      (rk sl past i)) (rk sl past x)) (genW C sl past (.indexAddr t x i))
  | none => genW C sl past (.indexAddr t x i)
theorem indexAddrW_ok (t : TypeId) (x i : Operand) : OkW C sl past (.indexAddr t x i) (indexAddrW C sl past t x i) := by
  unfold indexAddrW
  cases hs : sqOf C.P t with
  | none => exact genW_ok C sl past _
  | array n es la => exact genW_ok C sl past _
  | str => exact genW_ok C sl past _
  | slice es la u =>
    intro G l e hp nx k
    have hg := genW_ok C sl past (.indexAddr t x i) G l e hp nx k
    simp only [slcEs, W.use_eq, W.get_mk, rk_ok]
    rw [hg]
    refine slcC_ok _ _ _ fun b o len c es' ex hv => intC_ok _ _ _ fun j n hw => ?_
    cases n with
    | negSucc n => rfl
    | ofNat n =>
      show bif2 _ _ _ = _
      rw [bif2_eq, bif2_eq]
      have he : eff (.indexAddr t x i) C ⟨fun x => rdS (opdSrc sl past x) l e, hget hp, nx⟩ = bif Nat.ble (n + 1) len then bif Nat.beq es es' then .val (.ptr b (o + n * es)) else .bad "indexAddr: size" else .bad "indexAddr: out of range" := by
        show effIndexAddr t x i C.P _ = _
        simp only [effIndexAddr, hs, hv, hw, natV]
      rw [he]
      show (bif Nat.ble (n + 1) len then _ else _) = _
      cases Nat.ble (n + 1) len with
      | false => rfl
      | true =>
        cases Nat.beq es es' with
        | false => rfl
        | true =>
          simp only [cond, doEff, seqV_eq, sqN_eq]
          rfl
/-! the dispatch -/
noncomputable def opF (o : Op) : W OP := match o with
  | .move x => moveW sl past x
  | .assign x => moveW sl past x
  | .binOp op t x y u => binW C sl past op t x y u
  | .nilCheck x => nilW C sl past x
  | .fieldAddr s x f => fieldAddrW C sl past s x f
  | .extract x i => extractW C sl past x i
  | .load t a => loadW C sl past t a
  | .pick c a b => pickW C sl past c a b
  | .alloc t => allocW C sl past t
  | .indexAddr t x i => indexAddrW C sl past t x i
  | .call q => (match q.callee with
    | .builtin .len => (match q.args.toList with
      | [x] => lenW C sl past q x
      | _ => genW C sl past (.call q))
    | .value (.func f) => callW C sl past q f
    | _ => genW C sl past (.call q))
  | o => genW C sl past o
theorem opF_ok (o : Op) : OkW C sl past o (opF C sl past o) := by
  unfold opF
  split
  · exact moveW_ok C sl past _ _ fun _ => rfl
  · exact moveW_ok C sl past _ _ fun _ => rfl
  · exact binW_ok C sl past _ _ _ _ _
  · exact nilW_ok C sl past _
  · exact fieldAddrW_ok C sl past _ _ _
  · exact extractW_ok C sl past _ _
  · exact loadW_ok C sl past _ _
  · exact pickW_ok C sl past _ _ _
  · exact allocW_ok C sl past _
  · exact indexAddrW_ok C sl past _ _ _
  · split
    · rename_i q _ hc
      split
      · rename_i x hx
        exact lenW_ok C sl past q x hc hx
      · exact genW_ok C sl past _
    · rename_i q _ f hc
      exact callW_ok C sl past q f hc
    · exact genW_ok C sl past _
  · exact genW_ok C sl past _
end
end Go.X

set_option linter.unusedVariables false
namespace Go.X
/-! ### regions -/
noncomputable def pushG (i : Option Nat) (v : V) (loc : List V) (e : EF) (hp : HP) (nx : Nat) (k : KL) : Ans := match i with
  | some i => seqV v fun v => fsetK i e v fun e => k (v :: loc) e hp nx
  | none => k (v :: loc) e hp nx
/-- what is pushed, its place looked for ahead -/
abbrev PK := V → List V → EF → HP → Nat → KL → Ans
noncomputable def pushW (i : Option Nat) : W PK := match i with
  | some i => W.use (fun s => .mk fun v loc e hp nx k => s e v fun e => k (v :: loc) e hp nx) (fsW i)
  | none => .mk fun v loc e hp nx k => k (v :: loc) e hp nx
theorem pushW_ok (i : Option Nat) (v : V) (loc : List V) (e : EF) (hp : HP) (nx : Nat) (k : KL) : (pushW i).get v loc e hp nx k = pushG i v loc e hp nx k := by
  cases i with
  | none => rfl
  | some i =>
    unfold pushW pushG
    simp only
    rw [W.use_eq]
    show ((fsW i).get e v fun e => k (v :: loc) e hp nx) = _
    simp only [fsW_ok, seqV_eq, fsetK_eq]
inductive ML where
  | nil : ML
  | loc (f : OP) (r : ML) : ML
  | glb (s : SK EF V) (f : OP) (r : ML) : ML
  | und (p : PK) (r : ML) : ML
  | grd (p : PK) (g : RK) (want : Bool) (f : OP) (r : ML) : ML
noncomputable def compR (C : Cfg) (sl : List Nat) : List ROp → ML
  | [] => .nil
  | o :: r => match o.never with
    | true => W.use (fun p => .und p (compR C sl r)) (pushW o.glob)
    | false => match o.guard with
      | none => (match o.glob with
        | none => W.use (fun f => .loc f (compR C sl r)) (opF C sl o.past o.op)
        | some i => W.use (fun s => W.use (fun f => .glb s f (compR C sl r)) (opF C sl o.past o.op)) (fsW i))
      | some (x, want) => W.use (fun p => W.use (fun g => W.use (fun f => .grd p g want f (compR C sl r)) (opF C sl o.past o.op)) (rk sl o.past x)) (pushW o.glob)
def wantV (v : V) (want : Bool) : Option Bool := match v with | .bool b => some (b == want) | .junk => none | _ => some false
/-- what a guard says: z (not known), a (yes), b (no) -/
noncomputable def guardC (v : V) (want : Bool) (z a b : Ans) : Ans := V.rec (motive_1 := fun _ => Bool → Ans → Ans → Ans → Ans) (motive_2 := fun _ => Unit) (fun want z a b => z) (fun c want z a b => Bool.rec (motive := fun _ => Ans) (Bool.rec (motive := fun _ => Ans) a b want) (Bool.rec (motive := fun _ => Ans) b a want) c) (fun _ _ want z a b => b) (fun _ _ want z a b => b) (fun _ _ want z a b => b) (fun want z a b => b) (fun _ _ _ _ _ _ want z a b => b) (fun want z a b => b) (fun _ _ _ want z a b => b) (fun _ want z a b => b) (fun want z a b => b) (fun _ _ _ want z a b => b) (fun want z a b => b) (fun _ _ _ want z a b => b) (fun want z a b => b) (fun _ _ want z a b => b) (fun _ _ want z a b => b) () (fun _ _ _ _ => ()) v want z a b
theorem guardC_eq (v : V) (want : Bool) (z a b : Ans) : guardC v want z a b = (match wantV v want with | none => z | some true => a | some false => b) := by
  cases v <;> (try rfl)
  rename_i c
  cases c <;> cases want <;> rfl
abbrev RT := Calls → KE → List V → EF → HP → Nat → Ans
noncomputable def runM (m : ML) (G : Calls) (k : KE) (l : List V) (e : EF) (hp : HP) (nx : Nat) : Ans := ML.rec (motive := fun _ => RT)
  (fun _ k _ e hp nx => k e hp nx)
  (fun f _ ih G k l e hp nx => f G l e hp nx fun v hp nx => ih G k (v :: l) e hp nx)
  (fun s f _ ih G k l e hp nx => f G l e hp nx fun v hp nx => s e v fun e => ih G k (v :: l) e hp nx)
  (fun p _ ih G k l e hp nx => p Go.X.und l e hp nx fun l e hp nx => ih G k l e hp nx)
  (fun p g want f _ ih G k l e hp nx => g l e fun v => guardC v want (.stuck "guard")
    (f G l e hp nx fun v hp nx => p v l e hp nx fun l e hp nx => ih G k l e hp nx)
    (p Go.X.und l e hp nx fun l e hp nx => ih G k l e hp nx))
  m G k l e hp nx
theorem pushG_eq (o : ROp) (v : V) (loc : List V) (e : EF) (hp : HP) (nx : Nat) (k : KL) : pushG o.glob v loc e hp nx k = pushR o v loc e hp nx k := rfl
theorem runM_ok (C : Cfg) (G : Calls) (sl : List Nat) (k : KE) : ∀ (r : List ROp) (l : List V) (e : EF) (hp : HP) (nx : Nat), runM (compR C sl r) G k l e hp nx = seqOps C G sl r l e hp nx fun _ e hp nx => k e hp nx
  | [], l, e, hp, nx => rfl
  | o :: r, l, e, hp, nx => by
    simp only [seqOps, stepOp, wantR, compR]
    cases hn : o.never with
    | true =>
      simp only
      rw [W.use_eq]
      show (pushW o.glob).get Go.X.und l e hp nx (fun l e hp nx => runM (compR C sl r) G k l e hp nx) = _
      rw [pushW_ok, pushG_eq]
      congr 1
      funext l e hp nx
      exact runM_ok C G sl k r l e hp nx
    | false =>
      simp only
      cases hg : o.guard with
      | none =>
        simp only
        cases hgl : o.glob with
        | none =>
          simp only
          rw [W.use_eq]
          show (opF C sl o.past o.op).get G l e hp nx (fun v hp nx => runM (compR C sl r) G k (v :: l) e hp nx) = _
          rw [opF_ok]
          congr 1
          funext v hp nx
          simp only [pushR, hgl]
          exact runM_ok C G sl k r (v :: l) e hp nx
        | some i =>
          simp only
          rw [W.use_eq, W.use_eq]
          show (opF C sl o.past o.op).get G l e hp nx (fun v hp nx => (fsW i).get e v fun e => runM (compR C sl r) G k (v :: l) e hp nx) = _
          rw [opF_ok]
          congr 1
          funext v hp nx
          rw [fsW_ok]
          simp only [pushR, hgl, seqV_eq, fsetK_eq]
          exact runM_ok C G sl k r (v :: l) _ hp nx
      | some p =>
        obtain ⟨x, want⟩ := p
        simp only
        rw [W.use_eq, W.use_eq, W.use_eq]
        show ((rk sl o.past x).get l e fun v => guardC v want (Ans.stuck "guard")
          ((opF C sl o.past o.op).get G l e hp nx fun v hp nx => (pushW o.glob).get v l e hp nx fun l e hp nx => runM (compR C sl r) G k l e hp nx)
          ((pushW o.glob).get Go.X.und l e hp nx fun l e hp nx => runM (compR C sl r) G k l e hp nx)) = _
        rw [rk_ok, opF_ok, guardC_eq]
        simp only [pushW_ok, pushG_eq]
        have ih : (fun l e hp nx => runM (compR C sl r) G k l e hp nx) = fun l e hp nx => seqOps C G sl r l e hp nx fun _ e hp nx => k e hp nx := by
          funext l e hp nx; exact runM_ok C G sl k r l e hp nx
        rw [ih]
        cases rdS (opdSrc sl o.past x) l e <;> rfl
end Go.X

set_option linter.unusedVariables false
namespace Go.X
/-! ## Code as it is run -/
inductive M where
  | skip : M
  | reg (m : ML) : M
  | draw (fc : FC) (ops : Array Oper) : M
  | bad (w : String) : M
  | seq (a b : M) : M
  | cond (c : RK) (a b : M) : M
  | block (id : Nat) (a : M) : M
  | fork (id : Nat) (a : M) : M
  | loop (a : M) : M
  | exit (id : Nat) : M
  | goto (l : Nat) : M
  | ret : M
  | scope (fc : FC) (b : Code) (a : M) : M
  | range (fc : FC) (g : Operand) (ps : List Tmp) (asg body : Code) : M
inductive Sc where
  | none : Sc
  | some (fc : FC) (b : Code) : Sc
noncomputable def comp (C : Cfg) (fc : FC) (c : Code) : M := match c with
  | .skip => .skip
  | .label _ => .skip
  | .region _ ops draw => (match dstsOk fc.N ops with
    | false => .bad "slots"
    | true => (match draw with
      | false => .reg (compR C fc.msk (resolveR fc.msk ops (upto ops.size []) []))
      | true => .draw fc ops))
  | .seq a b => .seq (comp C fc a) (comp C fc b)
  | .cond c a b => W.use (fun r => .cond r (comp C fc a) (comp C fc b)) (rk fc.msk [] c)
  | .block id c => (match codeForks c with
    | false => .block id (comp C fc c)
    | true => .fork id (comp C fc c))
  | .loop c => .loop (comp C fc c)
  | .exit id => .exit id
  | .goto l => .goto l
  | .ret => .ret
  | .scope b => .scope fc b (comp C fc b)
  | .refuse w => .bad w
  | .rangeFunc g ps asg body => .range fc g ps.toList asg body
abbrev KX := Ex → EF → HP → Nat → List Nat → Ans
abbrev XT := List LoopS → Option Nat → EF → HP → Nat → List Nat → KX → Ans
abbrev NK := EF → HP → Nat → List Nat → Ans
noncomputable def normK (a : NK) (k : KX) (ex : Ex) : NK := fun e hp nx mk =>
  Ex.rec (motive := fun _ => NK → KX → NK) (fun a _ => a) (fun i _ k => k (.exit i)) (fun l _ k => k (.goto l)) (fun _ k => k .ret) ex a k e hp nx mk
noncomputable def exitM (id : Nat) (k : KX) (ex : Ex) : NK := fun e hp nx mk =>
  Ex.rec (motive := fun _ => Nat → KX → NK) (fun _ k => k .norm) (fun i id k => Bool.rec (motive := fun _ => NK) (k (.exit i)) (k .norm) (Nat.beq i id)) (fun l _ k => k (.goto l)) (fun _ k => k .ret) ex id k e hp nx mk
/-! calls -/
inductive IL where
  | nil (i : Nat) : IL
  | skip (r : IL) : IL
  | put (s : SK EF V) (r : IL) : IL
noncomputable def ilOf (sl : List Nat) : Nat → Nat → IL
  | 0, i => .nil i
  | n + 1, i => match ixOf i sl 0 with
    | none => .skip (ilOf sl n (i + 1))
    | some j => W.use (fun s => .put s (ilOf sl n (i + 1))) (fsW j)
noncomputable def envF (sl : List Nat) (il : IL) (args : List V) (t : EF) (k : EF → Ans) : Ans := IL.rec (motive := fun _ => List Nat → List V → EF → (EF → Ans) → Ans)
  (fun i sl args t k => envOf sl args i t k)
  (fun _ ih sl args t k => List.rec (motive := fun _ => (List Nat → List V → EF → (EF → Ans) → Ans) → List Nat → EF → (EF → Ans) → Ans) (fun _ _ t k => k t) (fun _ r _ ih sl t k => ih sl r t k) args ih sl t k)
  (fun s _ ih sl args t k => List.rec (motive := fun _ => (List Nat → List V → EF → (EF → Ans) → Ans) → List Nat → EF → (EF → Ans) → Ans) (fun _ _ t k => k t) (fun v r _ ih sl t k => s t v fun t => ih sl r t k) args ih sl t k)
  il sl args t k
inductive FS where
  | one (r : RK) : FS
  | gen : FS
inductive FnM where
  | bad (w : String) : FnM
  | mk (fn : Func) (sl : List Nat) (il : IL) (m : M) (fs : FS) : FnM
noncomputable def fsOf (sl : List Nat) (l : List ResultVar) : FS := match l with
  | [.tmp t] => W.use (fun r => .one r) (rk sl [] (.tmp t))
  | _ => .gen
noncomputable def fnW (C : Cfg) (g : FuncId) : FnM := match C.P.funcs[g]? with
  | none => .bad "no function"
  | some fn => (match fn.body with
    | none => .bad "no body"
    | some c => .mk fn (fnMask fn) (ilOf (fnMask fn) (fn.params.size + fn.nfree) 0) (comp C ⟨g, fn.ntmps, fnMask fn, none⟩ c) (fsOf (fnMask fn) fn.results.toList))
noncomputable def finM (P : Program) (fn : Func) (sl : List Nat) (fs : FS) (e : EF) (hp : HP) (nx : Nat) (mk : List Nat) : Ans := FS.rec (motive := fun _ => Program → Func → List Nat → EF → HP → Nat → List Nat → Ans)
  (fun r P fn sl e hp nx mk => List.rec (motive := fun _ => RK → Program → Func → List Nat → EF → HP → Nat → Ans) (fun r _ _ _ e hp nx => r [] e fun v => .ok [⟨v, hp, nx, .norm, .nil⟩]) (fun d ds _ _ P fn sl e hp nx => finish P sl fn ⟨e, hp, nx, d :: ds⟩ (d :: ds)) mk r P fn sl e hp nx)
  (fun P fn sl e hp nx mk => finish P sl fn ⟨e, hp, nx, mk⟩ mk) fs P fn sl e hp nx mk
noncomputable def retM (P : Program) (fn : Func) (sl : List Nat) (fs : FS) : KX := fun ex e hp nx mk =>
  Ex.rec (motive := fun _ => Program → Func → List Nat → FS → EF → HP → Nat → List Nat → Ans) finM (fun _ _ _ _ _ _ _ _ _ => .stuck "a jump out of a function") (fun _ _ _ _ _ _ _ _ _ => .stuck "a jump out of a function") finM ex P fn sl fs e hp nx mk
noncomputable def callM (C : Cfg) (ih : Sc → M → XT) (L : List LoopS) (g : FuncId) (args : List V) (hp : HP) (nx : Nat) : Ans := FnM.rec (motive := fun _ => Cfg → (Sc → M → XT) → List LoopS → List V → HP → Nat → Ans)
  (fun w _ _ _ _ _ _ => .stuck w)
  (fun fn sl il m fs C ih L args hp nx => envF sl il args ef0 fun env => ih .none m L none env hp nx [] (retM C.P fn sl fs))
  (fnW C g) C ih L args hp nx
noncomputable def roundM (C : Cfg) (ih : Sc → M → XT) (L : List LoopS) (l : Nat) (args : List V) (hp : HP) (nx : Nat) : Ans := match hget hp l, findLp l L with
  | .loop .ready _ _, some s => LoopS.rec (motive := fun _ => Ans) (fun _ fid N msk env ps asg body => setPs msk N ps args env fun env =>
      ih .none (comp C ⟨fid, N, msk, none⟩ asg) L (some l) env hp nx [] fun ex env hp nx mk => (match ex with
      | .norm => (match hget hp l with
        | .loop .ready pd d => putH l (.loop .busy pd d) hp fun h =>
            ih .none (comp C ⟨fid, N, msk, none⟩ body) L (some l) env h nx mk fun ex env hp nx mk => endRound l ex ⟨env, hp, nx, mk⟩
        | _ => .stuck "round")
      | _ => .stuck "round: assign")) s
  | _, _ => .stuck "yield: no loop that is ready"
noncomputable def enterM (C : Cfg) (ih : Sc → M → XT) (L : List LoopS) (fc : FC) (g : Operand) (ps : List Tmp) (asg body : Code) (env : EF) (k : KX) (d : Nat) (hp : HP) (nx : Nat) (marks : List Nat) : Ans :=
  putH nx (.loop .ready .norm d) hp fun hp => seqN (nx + 1) fun nx' => match rdS (opdSrc fc.msk [] g) [] env with
  | .fn (.func q) cap => one (callM C ih (⟨nx, fc.fid, fc.N, fc.msk, env, ps, asg, body⟩ :: L) q (.fn (.yield nx) [] :: cap) hp nx') fun r => endLoop nx r env marks fun ex st => k ex st.env st.hp st.nx st.marks
  | _ => .stuck "range: value"
noncomputable def callKM (C : Cfg) (ih : Sc → M → XT) (L : List LoopS) (g : FuncId) (args : List V) (hp : HP) (nx : Nat) : Ans := List.rec (motive := fun _ => Ans)
  (List.rec (motive := fun _ => Ans) (callM C ih L g args hp nx)
    (fun _ _ _ => match xFind args hp nx (C.exact g) with
    | some M => xRun M hp
    | none => callM C ih L g args hp nx) (C.exact g))
  (fun _ _ _ => match memoFind args hp (C.memo g) with
  | some M => memoRun M hp nx
  | none => match xFind args hp nx (C.exact g) with
    | some M => xRun M hp
    | none => callM C ih L g args hp nx) (C.memo g)
noncomputable def callsM (C : Cfg) (ih : Sc → M → XT) (L : List LoopS) : Calls := ⟨callKM C ih L, roundM C ih L⟩
noncomputable def condM (v : V) (a b : Ans) : Ans := V.rec (motive_1 := fun _ => Ans → Ans → Ans) (motive_2 := fun _ => Unit) (fun a b => .stuck "cond") (fun c a b => Bool.rec (motive := fun _ => Ans) b a c) (fun _ _ a b => .stuck "cond") (fun _ _ a b => .stuck "cond") (fun _ _ a b => .stuck "cond") (fun a b => .stuck "cond") (fun _ _ _ _ _ _ a b => .stuck "cond") (fun a b => .stuck "cond") (fun _ _ _ a b => .stuck "cond") (fun _ a b => .stuck "cond") (fun a b => .stuck "cond") (fun _ _ _ a b => .stuck "cond") (fun a b => .stuck "cond") (fun _ _ _ a b => .stuck "cond") (fun a b => .stuck "cond") (fun _ _ a b => .stuck "cond") (fun _ _ a b => .stuck "cond") () (fun _ _ _ _ => ()) v a b
abbrev IH := Sc → M → XT
noncomputable def exM (C : Cfg) (ih : Sc → M → XT) (m : M) : XT := M.rec (motive := fun _ => Cfg → IH → XT)
  (fun _ _ _ _ e hp nx mk k => k .norm e hp nx mk)
  (fun m C ih L _ e hp nx mk k => runM m (callsM C ih L) (fun e hp nx => k .norm e hp nx mk) [] e hp nx)
  (fun fc ops C ih L _ e hp nx mk k => drawR C (callsM C ih L) fc ops e hp nx fun e hp nx => k .norm e hp nx mk)
  (fun w _ _ _ _ _ _ _ _ _ => .stuck w)
  (fun a b _ _ _ ih L ar e hp nx mk k => ih .none a L ar e hp nx mk (normK (fun e hp nx mk => ih .none b L ar e hp nx mk k) k))
  (fun c a b _ _ _ ih L ar e hp nx mk k => c [] e fun v => condM v (ih .none a L ar e hp nx mk k) (ih .none b L ar e hp nx mk k))
  (fun id a _ _ ih L ar e hp nx mk k => ih .none a L ar e hp nx mk (exitM id k))
  (fun id a _ _ ih L ar e hp nx mk k => outsA (outK id mk fun ex st => k ex st.env st.hp st.nx st.marks)
    (ih .none a L ar e hp nx mk fun ex e hp nx mk' => bif listEq Nat.beq mk' mk then .ok [⟨und, hp, nx, ex, e⟩] else .stuck "marks"))
  (fun a _ _ ih L ar e hp nx mk k => ih .none a L ar e hp nx mk (normK (fun e hp nx mk => ih .none (.loop a) L ar e hp nx mk k) k))
  (fun id _ _ _ _ e hp nx mk k => k (.exit id) e hp nx mk)
  (fun l _ _ _ _ e hp nx mk k => k (.goto l) e hp nx mk)
  (fun _ _ _ _ e hp nx mk k => k .ret e hp nx mk)
  (fun fc b a _ _ ih L ar e hp nx mk k => ih (.some fc b) a L ar e hp nx mk k)
  (fun fc g ps asg body C ih L ar e hp nx mk k => (match ar with
      | none => putH nx .dfr hp fun hp => seqN (nx + 1) fun nx' => enterM C ih L fc g ps asg body e k nx hp nx' (nx :: mk)
      | some l0 => (match hget hp l0 with
        | .loop _ _ d => enterM C ih L fc g ps asg body e k d hp nx mk
        | _ => .stuck "range: around")))
  m C ih
noncomputable def gotoM (C : Cfg) (ih : IH) (fc : FC) (b : Code) (L : List LoopS) (ar : Option Nat) (k : KX) (ex : Ex) : NK := fun e hp nx mk =>
  Ex.rec (motive := fun _ => Cfg → IH → FC → Code → List LoopS → Option Nat → KX → NK) (fun _ _ _ _ _ _ k => k .norm) (fun i _ _ _ _ _ _ k => k (.exit i))
    (fun l C ih fc b L ar k e hp nx mk => match findLabel b l with
      | some r => ih (.some fc b) (comp C fc r) L ar e hp nx mk k
      | none => k (.goto l) e hp nx mk) (fun _ _ _ _ _ _ k => k .ret) ex C ih fc b L ar k e hp nx mk
noncomputable def scM (C : Cfg) (ih : Sc → M → XT) (sc : Sc) (m : M) : XT := Sc.rec (motive := fun _ => Cfg → IH → M → XT)
  exM
  (fun fc b C ih m L ar e hp nx mk k => ih .none m L ar e hp nx mk (gotoM C ih fc b L ar k))
  sc C ih m
noncomputable def exec (C : Cfg) (n : Nat) : Sc → M → XT := Nat.rec (motive := fun _ => Sc → M → XT) (fun _ _ _ _ _ _ _ _ _ => .stuck "fuel") (fun _ ih => scM C ih) n
noncomputable def callTopF (C : Cfg) (fuel : Nat) (g : FuncId) (args : List V) (hp : HP) (nx : Nat) : Ans := callM C (exec C fuel) [] g args hp nx
end Go.X

namespace Go.X
/-! ## The fast run is the run -/
def scOf (fc : FC) : Option Code → Sc | none => .none | some b => .some fc b
def kx (k : Ex → St → Ans) : KX := fun ex e hp nx mk => k ex ⟨e, hp, nx, mk⟩
def arFC (fc : FC) (ar : Option Nat) : FC := ⟨fc.fid, fc.N, fc.msk, ar⟩
def ExEq (C : Cfg) (x : Sc → M → XT) (e : evT) : Prop := ∀ (L : List LoopS) (fc : FC) (ar : Option Nat) (sc : Option Code) (c : Code) (env : EF) (hp : HP) (nx : Nat) (mk : List Nat) (k : Ex → St → Ans),
  x (scOf fc sc) (comp C fc c) L ar env hp nx mk (kx k) = e L (arFC fc ar) sc c ⟨env, hp, nx, mk⟩ k
theorem ExEq.go {C : Cfg} {x : Sc → M → XT} {e : evT} (h : ExEq C x e) (L : List LoopS) (fc : FC) (ar : Option Nat) (c : Code) (env : EF) (hp : HP) (nx : Nat) (mk : List Nat) (k : Ex → St → Ans) (k' : KX) (hk : ∀ ex e hp nx mk, k' ex e hp nx mk = k ex ⟨e, hp, nx, mk⟩) :
    x .none (comp C fc c) L ar env hp nx mk k' = e L (arFC fc ar) none c ⟨env, hp, nx, mk⟩ k := by
  obtain rfl : k' = kx k := by funext ex e hp nx mk; exact hk ex e hp nx mk
  exact h L fc ar none c env hp nx mk k
theorem ilOf_ok (sl : List Nat) (k : EF → Ans) : ∀ (n i : Nat) (args : List V) (t : EF), envF sl (ilOf sl n i) args t k = envOf sl args i t k
  | 0, i, args, t => rfl
  | n + 1, i, args, t => by
    unfold ilOf
    cases hx : ixOf i sl 0 with
    | none =>
      cases args with
      | nil => rfl
      | cons v r =>
        show envF sl (ilOf sl n (i + 1)) r t k = _
        rw [ilOf_ok sl k n (i + 1) r t]
        simp only [envOf, hx]
    | some j =>
      cases args with
      | nil => simp only; rw [W.use_eq]; rfl
      | cons v r =>
        simp only
        rw [W.use_eq]
        show ((fsW j).get t v fun t => envF sl (ilOf sl n (i + 1)) r t k) = _
        simp only [fsW_ok, seqV_eq, fsetK_eq, ilOf_ok sl k n (i + 1) r, envOf, hx]
theorem finM_ok (P : Program) (fn : Func) (e : EF) (hp : HP) (nx : Nat) (mk : List Nat) :
    finM P fn (fnMask fn) (fsOf (fnMask fn) fn.results.toList) e hp nx mk = finish P (fnMask fn) fn ⟨e, hp, nx, mk⟩ mk := by
  have gen : finM P fn (fnMask fn) .gen e hp nx mk = finish P (fnMask fn) fn ⟨e, hp, nx, mk⟩ mk := rfl
  unfold fsOf
  split
  · rename_i t hr
    rw [W.use_eq]
    cases mk with
    | nil =>
      show ((rk (fnMask fn) [] (.tmp t)).get [] e fun v => Ans.ok [⟨v, hp, nx, .norm, .nil⟩]) = _
      rw [rk_ok]
      simp only [finish, hr, resX, seqV_eq]
    | cons d ds => rfl
  · exact gen
theorem callM_ok {C : Cfg} {x : Sc → M → XT} {e : evT} (h : ExEq C x e) (L : List LoopS) (g : FuncId) (args : List V) (hp : HP) (nx : Nat) : callM C x L g args hp nx = callF C e L g args hp nx := by
  unfold callM callF fnW
  cases C.P.funcs[g]? with
  | none => rfl
  | some fn =>
    simp only
    cases fn.body with
    | none => rfl
    | some c =>
      show (envF _ (ilOf _ _ _) args ef0 fun env => _) = _
      rw [ilOf_ok]
      congr 1
      funext env
      refine h.go L ⟨g, fn.ntmps, fnMask fn, none⟩ none c env hp nx [] _ _ fun ex e hp nx mk => ?_
      cases ex <;> (try rfl) <;> exact finM_ok C.P fn e hp nx mk
theorem roundM_ok {C : Cfg} {x : Sc → M → XT} {e : evT} (h : ExEq C x e) (L : List LoopS) (l : Nat) (args : List V) (hp : HP) (nx : Nat) : roundM C x L l args hp nx = roundF e L l args hp nx := by
  unfold roundM roundF
  cases hget hp l with
  | loop st pd d =>
    cases st with
    | ready =>
      cases findLp l L with
      | none => rfl
      | some s =>
        obtain ⟨_, fid, N, msk, env, ps, asg, body⟩ := s
        simp only
        congr 1
        funext env
        refine h.go L ⟨fid, N, msk, none⟩ (some l) asg env hp nx [] _ _ fun ex e hp nx mk => ?_
        cases ex with
        | norm =>
          simp only
          cases hget hp l with
          | loop st pd d =>
            cases st with
            | ready =>
              simp only
              congr 1
              funext h'
              exact h.go L ⟨fid, N, msk, none⟩ (some l) body e h' nx mk _ _ fun ex e hp nx mk => rfl
            | _ => rfl
          | _ => rfl
        | _ => rfl
    | _ => rfl
  | _ => rfl
theorem callKM_ok {C : Cfg} {x : Sc → M → XT} {e : evT} (h : ExEq C x e) (L : List LoopS) (g : FuncId) (args : List V) (hp : HP) (nx : Nat) : callKM C x L g args hp nx = callK C e L g args hp nx := by
  unfold callKM callK
  rw [callM_ok h L]
  cases C.memo g with
  | nil => cases C.exact g with
    | nil => rfl
    | cons M r => rfl
  | cons M r => rfl
theorem callsM_ok {C : Cfg} {x : Sc → M → XT} {e : evT} (h : ExEq C x e) (L : List LoopS) : callsM C x L = ⟨callK C e L, roundF e L⟩ := by
  unfold callsM
  congr 1
  · funext g args hp nx; exact callKM_ok h L g args hp nx
  · funext l args hp nx; exact roundM_ok h L l args hp nx
theorem enterM_ok {C : Cfg} {x : Sc → M → XT} {e : evT} (h : ExEq C x e) (L : List LoopS) (fc : FC) (ar : Option Nat) (g : Operand) (ps : List Tmp) (asg body : Code) (env : EF) (k : Ex → St → Ans) (d : Nat) (hp : HP) (nx : Nat) (mk : List Nat) :
    enterM C x L fc g ps asg body env (kx k) d hp nx mk = enterF C e L (arFC fc ar) g ps asg body env k d hp nx mk := by
  unfold enterM enterF
  simp only [callM_ok h]
  rfl
theorem condM_eq (v : V) (a b : Ans) : condM v a b = (match v with | .bool true => a | .bool false => b | _ => .stuck "cond") := by
  cases v <;> (try rfl)
  rename_i c; cases c <;> rfl
theorem exec_ok (C : Cfg) : ∀ n, ExEq C (exec C n) (ev C n)
  | 0 => fun L fc ar sc c env hp nx mk k => by cases sc <;> rfl
  | n + 1 => fun L fc ar sc c env hp nx mk k => by
    have ih : ExEq C (exec C n) (ev C n) := exec_ok C n
    show scM C (exec C n) (scOf fc sc) (comp C fc c) L ar env hp nx mk (kx k) = _
    cases sc with
    | some b =>
      show exec C n .none (comp C fc c) L ar env hp nx mk _ = _
      show _ = ev C n L (arFC fc ar) none c ⟨env, hp, nx, mk⟩ fun ex st => _
      refine ih.go L fc ar c env hp nx mk _ _ fun ex e hp nx mk => ?_
      cases ex with
      | goto l =>
        show (match findLabel b l with
          | some r => exec C n (.some fc b) (comp C fc r) L ar e hp nx mk (kx k)
          | none => kx k (.goto l) e hp nx mk) = _
        simp only
        cases findLabel b l with
        | none => rfl
        | some r => exact ih L fc ar (some b) r e hp nx mk k
      | _ => rfl
    | none =>
      show exM C (exec C n) (comp C fc c) L ar env hp nx mk (kx k) = _
      cases c with
      | skip => rfl
      | label _ => rfl
      | region p ops draw =>
        unfold comp
        show _ = bif !(dstsOk fc.N ops) then _ else _
        cases dstsOk fc.N ops with
        | false => rfl
        | true =>
          cases draw with
          | false =>
            show runM (compR C fc.msk _) (callsM C (exec C n) L) _ [] env hp nx = _
            rw [runM_ok, callsM_ok ih]
            rfl
          | true =>
            show drawR C (callsM C (exec C n) L) fc ops env hp nx (fun e hp nx => kx k .norm e hp nx mk) = drawR C ⟨callK C (ev C n) L, roundF (ev C n) L⟩ (arFC fc ar) ops env hp nx (fun e hp nx => kx k .norm e hp nx mk)
            rw [callsM_ok ih]
            rfl
      | seq a b =>
        rw [ev]
        refine ih.go L fc ar a env hp nx mk _ _ fun ex e hp nx mk => ?_
        cases ex with
        | norm => exact ih.go L fc ar b e hp nx mk _ _ fun _ _ _ _ _ => rfl
        | _ => rfl
      | cond c a b =>
        rw [ev]
        unfold comp
        rw [W.use_eq]
        show (rk fc.msk [] c).get [] env (fun v => condM v (exec C n .none (comp C fc a) L ar env hp nx mk (kx k)) (exec C n .none (comp C fc b) L ar env hp nx mk (kx k))) = _
        rw [rk_ok, condM_eq, ih.go L fc ar a env hp nx mk k (kx k) fun _ _ _ _ _ => rfl, ih.go L fc ar b env hp nx mk k (kx k) fun _ _ _ _ _ => rfl]
        rfl
      | block id c =>
        rw [ev]
        unfold comp
        cases codeForks c with
        | false =>
          refine ih.go L fc ar c env hp nx mk _ _ fun ex e hp nx mk => ?_
          cases ex with
          | exit i =>
            show Bool.rec (motive := fun _ => EF → HP → Nat → List Nat → Ans) _ _ (Nat.beq i id) e hp nx mk = exitK id k (.exit i) ⟨e, hp, nx, mk⟩
            simp only [exitK]
            cases Nat.beq i id <;> rfl
          | _ => rfl
        | true =>
          show outsA _ (exec C n .none (comp C fc c) L ar env hp nx mk _) = _
          rw [ih.go L fc ar c env hp nx mk (fun ex st' => bif listEq Nat.beq st'.marks mk then Ans.ok [⟨und, st'.hp, st'.nx, ex, st'.env⟩] else Ans.stuck "marks") _ fun _ _ _ _ _ => rfl]
          rfl
      | loop c =>
        rw [ev]
        refine ih.go L fc ar c env hp nx mk _ _ fun ex e hp nx mk => ?_
        cases ex with
        | norm => exact ih.go L fc ar (.loop c) e hp nx mk _ _ fun _ _ _ _ _ => rfl
        | _ => rfl
      | exit id => rfl
      | goto l => rfl
      | ret => rfl
      | scope b =>
        rw [ev]
        exact ih L fc ar (some b) b env hp nx mk k
      | refuse w => rfl
      | rangeFunc g ps asg body =>
        rw [ev]
        cases ar with
        | none =>
          show (putH nx .dfr hp fun hp => seqN (nx + 1) fun nx' => enterM C (exec C n) L fc g ps.toList asg body env (kx k) nx hp nx' (nx :: mk)) = _
          simp only [enterM_ok ih L fc none]
          rfl
        | some l0 =>
          show (match hget hp l0 with | .loop _ _ d => enterM C (exec C n) L fc g ps.toList asg body env (kx k) d hp nx mk | _ => .stuck "range: around") = _
          simp only [enterM_ok ih L fc (some l0)]
          rfl
theorem callTopF_ok (C : Cfg) (fuel : Nat) (g : FuncId) (args : List V) (hp : HP) (nx : Nat) : callTopF C fuel g args hp nx = callTop C fuel g args hp nx := callM_ok (exec_ok C fuel) [] g args hp nx
end Go.X

namespace Go.X
open Go.ChangeShapes Go.WideShapes Go.ChangeAt Go.RowKit
/-! ## A start that knows tables (package variables whose cells are numbers) -/
def tabSz (g : Nat) : List Tab → Nat
  | [] => 0
  | t :: r => bif Nat.beq t.g g then t.vs.length else tabSz g r
def φT (ts : List Tab) : Ph := fun g => if g < 1000 then some (g, 0, tabSz g ts) else none
def TabIn (w : World) (t : Tab) : Prop := ∃ c : Array Value, w.heap[t.g]? = some (.cells c t.e (0, 0)) ∧ c.size = t.vs.length ∧ ∀ (i : Nat) (k : IntKind) (n : Int), t.vs[i]? = some (V.int k n) → c[i]? = some (Value.int k n)
theorem tabSz_ok : ∀ {ts : List Tab}, tabsOk ts = true → ∀ t ∈ ts, t.g < 1000 ∧ allL isInt t.vs = true ∧ tabSz t.g ts = t.vs.length
  | [], _, _, h => by cases h
  | u :: r, hk, t, ht => by
    simp only [tabsOk, Bool.and_eq_true] at hk
    obtain ⟨⟨⟨k1, k2⟩, k3⟩, k4⟩ := hk
    rcases List.mem_cons.1 ht with rfl | ht
    · exact ⟨Nat.le_of_ble_eq_true k1, k2, by simp [tabSz, Nat.beq_refl]⟩
    · obtain ⟨a, b, c⟩ := tabSz_ok k4 t ht
      refine ⟨a, b, ?_⟩
      have h1 := allL_ok k3 t ht
      have h2 : Nat.beq u.g t.g = false := by
        cases hb : Nat.beq u.g t.g with
        | false => rfl
        | true =>
          have := Nat.eq_of_beq_eq_true hb
          rw [this, Nat.beq_refl] at h1; cases h1
      simp only [tabSz, h2, cond]; exact c
theorem tab_at {t : Tab} (hv : allL isInt t.vs = true) {c : Array Value} (hs : c.size = t.vs.length)
    (hc : ∀ (i : Nat) (k : IntKind) (n : Int), t.vs[i]? = some (V.int k n) → c[i]? = some (Value.int k n)) {i : Nat} (hi : i < c.size) : ∃ k n, t.vs[i]? = some (.int k n) ∧ c[i]? = some (.int k n) := by
  have h1 : t.vs[i]? = some (t.vs[i]'(by omega)) := List.getElem?_eq_getElem _
  obtain ⟨k, n, e⟩ := isInt_eq (allL_ok hv _ (List.getElem_mem (by omega : i < t.vs.length)))
  rw [e] at h1
  exact ⟨k, n, h1, hc i k n h1⟩
theorem rel_tabs (P : Program) {ts : List Tab} (hk : tabsOk ts = true) {w : World} (hw : ∀ t ∈ ts, TabIn w t) : RelH P (φT ts) (hget (tabHp ts)) w := by
  refine ⟨fun b hb => ?_, fun b b' B o s B' o' s' hb hb' hne e e' => ?_, fun b m since seen last kt es cl hb => ?_⟩
  · obtain ⟨t, ht, rfl, e⟩ := tab_get hb
    obtain ⟨g1, g2, g3⟩ := tabSz_ok hk t ht
    obtain ⟨c, c1, c2, c3⟩ := hw t ht
    refine ⟨t.g, 0, tabSz t.g ts, by simp [φT, g1], ?_, ?_⟩
    · rcases Nat.lt_or_ge t.g w.heap.size with h | h
      · exact h
      · rw [Array.getElem?_eq_none h] at c1; cases c1
    · rw [e]
      refine ⟨c, c1, by omega, by omega, fun i v hv => ?_, fun x hx => ?_, fun h => absurd rfl h⟩
      · obtain ⟨k, n, e1⟩ := isInt_eq (allL_ok g2 v (List.mem_of_getElem? hv))
        subst e1
        exact ⟨_, by rw [Nat.zero_add]; exact c3 i k n hv, .int _ _⟩
      · obtain ⟨i, hi, rfl⟩ := Array.mem_iff_getElem.1 (Array.mem_toList_iff.1 hx)
        obtain ⟨k, n, _, h2⟩ := tab_at g2 c2 c3 hi
        rw [Array.getElem?_eq_getElem hi] at h2
        rw [Option.some.inj h2]; rfl
  · simp only [φT] at e e'
    split at e <;> split at e' <;> simp_all
  · obtain ⟨t, _, _, e⟩ := tab_get (b := b) (by rw [hb]; simp)
    rw [e] at hb; cases hb
/-- at the end the tables are as they were -/
def allTrueT (ts : List Tab) : Ans → Bool | .ok l => allL (fun r => isTrueV r.v && tabsKept ts r.hp) l | .stuck _ => false
theorem baseT (ts : List Tab) : Base (φT ts) 1000 := ⟨Nat.le_refl _, fun g hg => ⟨tabSz g ts, by simp [φT, hg]⟩, fun b hb => by simp [φT]; omega⟩
theorem tab_kept {P : Program} {φ : Ph} {H : Nat → Obj} {w w' : World} {t : Tab} (hv : allL isInt t.vs = true) (h0 : TabIn w t) (hR : RelH P φ H w') (hφ : φ t.g = some (t.g, 0, t.vs.length)) (hH : beqO (H t.g) (.cells t.vs t.e 0) = true) :
    w'.heap[t.g]? = w.heap[t.g]? := by
  obtain ⟨c, c1, c2, c3⟩ := h0
  have hx := beqO_cells hH
  obtain ⟨B, off, sz, g1, g2, g3⟩ := hR.obj t.g (by rw [hx]; simp)
  rw [hφ] at g1
  cases g1
  rw [hx] at g3
  obtain ⟨d, d1, d2, d3, d4, _, _⟩ := g3
  rw [d1, c1]
  congr 2
  apply Array.ext (by omega)
  intro i hi hi'
  obtain ⟨k, n, e1, e2⟩ := tab_at hv c2 c3 hi'
  obtain ⟨x, x1, x2⟩ := d4 i _ e1
  rw [Nat.zero_add] at x1
  cases x2
  rw [Array.getElem?_eq_getElem hi] at x1
  rw [Array.getElem?_eq_getElem hi'] at e2
  rw [Option.some.inj x1, Option.some.inj e2]
/-- a function without arguments that X finds true, from a memory that knows tables -/
theorem true_of_tabs {C : Cfg} (hC : CfgOk C) (hM : MemosOk C) (hm : C.P.follows .mixedOrders = true) {ts : List Tab} (hk : tabsOk ts = true) {fuel f : Nat} (h : allTrueT ts (callTop C fuel f [] (tabHp ts) 1000) = true) (w : World) (hw : ∀ t ∈ ts, TabIn w t) :
    Go.Calls C.P f #[] w fun e w' => e = .returned (.bool true) ∧ Below w.heap.size w w' := by
  cases hc : callTop C fuel f [] (tabHp ts) 1000 with
  | stuck s => rw [hc] at h; cases h
  | ok l =>
    rw [hc] at h
    have := callF_ok (ev_ok hC hM hm fuel) (L := []) hc (φ := φT ts) (w := w) (args' := #[]) (rel_tabs _ hk hw) (baseT ts) (fun lp s hs => by simp [findLp] at hs) .nil 0
    refine (callsIn_wide.1 this).mono fun e w' hp => ?_
    cases e with
    | panicked _ => exact hp.elim
    | outgrown => exact hp.elim
    | returned v =>
      obtain ⟨r, hr, φ', h1, h2, h3⟩ := hp
      have hv := allL_ok h r hr
      simp only [Bool.and_eq_true] at hv
      obtain ⟨hv, hkept⟩ := hv
      refine ⟨?_, ⟨h3.os, h3.tape, h3.output, h3.size, fun B hB => ?_⟩⟩
      · cases hrv : r.v <;> rw [hrv] at hv <;> (try (cases hv; done))
        rename_i b
        cases b with
        | false => cases hv
        | true => rw [hrv] at h1; cases h1; rfl
      · by_cases ht : ∃ t ∈ ts, t.g = B
        · obtain ⟨t, ht, rfl⟩ := ht
          obtain ⟨g1, g2, g3⟩ := tabSz_ok hk t ht
          exact tab_kept g2 (hw t ht) h2 (by rw [h3.ext t.g g1]; simp [φT, g1, g3]) (allL_ok hkept t ht)
        · refine h3.keep B hB fun b B' o s hb hφ e => ht ?_
          obtain ⟨t, ht, rfl, _⟩ := tab_get hb
          have g1 := (tabSz_ok hk t ht).1
          simp only [φT, if_pos g1] at hφ
          simp only [Option.some.injEq, Prod.mk.injEq] at hφ
          exact ⟨t, ht, hφ.1.trans e⟩
end Go.X

namespace Go.X
/-! ## Answers that are known by a run -/
def memoB (M : Memo) : Ans → Bool
  | .ok l => allL (fun r => beqV r.v M.v && Nat.ble r.nx (1000 + M.n) && allL (fun x => beqO x.2 (hget r.hp (1000 + x.1))) M.objs && tabsKept M.ts r.hp) l
  | .stuck _ => false
theorem mkHp_le {P : Program} {φ : Ph} {hp : HP} {w : World} (hR : RelH P φ (hget hp) w) {ts : List Tab} (hk : tabsKept ts hp = true) : ∀ l : List (Nat × Obj), allL (fun x => beqO x.2 (hget hp (1000 + x.1))) l = true → Le (hget (mkHp ts l)) (hget hp)
  | [], _ => fun b hb => by
    obtain ⟨t, ht, rfl, e⟩ := tab_get hb
    have := beqO_cells (allL_ok hk t ht)
    exact .inl (by rw [mkHp, e, this])
  | x :: r, h => fun b hb => by
    have h1 := allL_ok h x (List.mem_cons_self ..)
    have h2 : allL (fun x => beqO x.2 (hget hp (1000 + x.1))) r = true := by
      simp only [allL] at h
      cases hx : beqO x.2 (hget hp (1000 + x.1)) with
      | false => rw [hx] at h; cases h
      | true => rw [hx] at h; exact h
    rw [mkHp] at hb ⊢
    by_cases e : b = 1000 + x.1
    · subst e
      rw [hget_set_same]
      exact beqO_le hR h1
    · rw [hget_set_ne _ _ e] at hb ⊢
      exact mkHp_le hR hk r h2 b hb
theorem memo_of_run {C : Cfg} (hC : CfgOk C) (hM : MemosOk C) (hm : C.P.follows .mixedOrders = true) {fuel : Nat} {f : FuncId} {M : Memo} (h : memoB M (callTop C fuel f M.args (tabHp M.ts) 1000) = true) : MemoOk C.P f M := by
  intro φ w args' m hR hb ha
  cases hc : callTop C fuel f M.args (tabHp M.ts) 1000 with
  | stuck s => rw [hc] at h; cases h
  | ok l =>
    rw [hc] at h
    have := callF_ok (ev_ok hC hM hm fuel) (L := []) hc (φ := φ) (w := w) (args' := args') hR hb (fun lp s hs => by simp [findLp] at hs) ha m
    refine this.mono fun e w' hp => ?_
    cases e with
    | panicked _ => exact hp.elim
    | outgrown => exact hp.elim
    | returned v =>
      obtain ⟨r, hr, ho⟩ := hp
      have hv := allL_ok h r hr
      simp only [Bool.and_eq_true] at hv
      obtain ⟨⟨⟨h1, h2⟩, h3⟩, h4⟩ := hv
      exact ⟨_, List.mem_singleton.2 rfl, ho.weak (beqV_eq h1).symm (Nat.le_of_ble_eq_true h2) (fun φ' hR' => mkHp_le hR' h4 _ h3)⟩
def memoXB (M : MemoX) : Ans → Bool
  | .ok l => allL (fun r => beqV r.v M.v && Nat.ble r.nx M.nx2 && allL (fun x => beqO x.2 (hget r.hp x.1)) M.post && tabsKept M.ts r.hp) l
  | .stuck _ => false
theorem memoX_of_run {C : Cfg} (hC : CfgOk C) (hM : MemosOk C) (hm : C.P.follows .mixedOrders = true) {fuel : Nat} {f : FuncId} {M : MemoX} (h : memoXB M (callTop C fuel f M.args (mkX M.ts M.pre) M.nx) = true) : MemoXOk C.P f M := by
  intro φ w args' m hR hb ha
  cases hc : callTop C fuel f M.args (mkX M.ts M.pre) M.nx with
  | stuck s => rw [hc] at h; cases h
  | ok l =>
    rw [hc] at h
    have := callF_ok (ev_ok hC hM hm fuel) (L := []) hc (φ := φ) (w := w) (args' := args') hR hb (fun lp s hs => by simp [findLp] at hs) ha m
    refine this.mono fun e w' hp => ?_
    cases e with
    | panicked _ => exact hp.elim
    | outgrown => exact hp.elim
    | returned v =>
      obtain ⟨r, hr, ho⟩ := hp
      have hv := allL_ok h r hr
      simp only [Bool.and_eq_true] at hv
      obtain ⟨⟨⟨h1, h2⟩, h3⟩, h4⟩ := hv
      exact ⟨_, List.mem_singleton.2 rfl, ho.weak (beqV_eq h1).symm (Nat.le_of_ble_eq_true h2) (fun φ' hR' => mkX_le hR' h4 _ h3)⟩
def memoL {α : Type} : List (Nat × α) → FuncId → List α
  | [], _ => []
  | x :: r, f => bif Nat.beq x.1 f then x.2 :: memoL r f else memoL r f
def extL : List (Nat × Ext) → FuncId → Option Ext
  | [], _ => none
  | x :: r, f => bif Nat.beq x.1 f then some x.2 else extL r f
theorem memoL_mem {α : Type} {M : α} {f : FuncId} : ∀ {l : List (Nat × α)}, M ∈ memoL l f → (f, M) ∈ l
  | [], h => by cases h
  | x :: r, h => by
    simp only [memoL] at h
    cases h1 : Nat.beq x.1 f with
    | false => rw [h1] at h; exact List.mem_cons_of_mem _ (memoL_mem h)
    | true =>
      rw [h1] at h
      have := Nat.eq_of_beq_eq_true h1
      rcases List.mem_cons.1 h with rfl | h
      · rw [← this]; exact List.mem_cons_self ..
      · exact List.mem_cons_of_mem _ (memoL_mem h)
theorem extL_mem {x : Ext} {f : FuncId} : ∀ {l : List (Nat × Ext)}, extL l f = some x → (f, x) ∈ l
  | [], h => by cases h
  | y :: r, h => by
    simp only [extL] at h
    cases h1 : Nat.beq y.1 f with
    | false => rw [h1] at h; exact List.mem_cons_of_mem _ (extL_mem h)
    | true =>
      rw [h1] at h
      have := Nat.eq_of_beq_eq_true h1
      cases h
      rw [← this]; exact List.mem_cons_self ..
theorem memoL_ok {P : Program} {e : FuncId → Option Ext} {l : List (Nat × Memo)} {l2 : List (Nat × MemoX)} (h : ∀ x ∈ l, x.2.ok = true ∧ MemoOk P x.1 x.2) (h2 : ∀ x ∈ l2, x.2.ok = true ∧ MemoXOk P x.1 x.2) : MemosOk ⟨P, e, memoL l, memoL l2⟩ :=
  ⟨fun f M hM => h (f, M) (memoL_mem hM), fun f M hM => h2 (f, M) (memoL_mem hM)⟩
theorem extL_ok {P : Program} {m : FuncId → List Memo} {m2 : FuncId → List MemoX} {l : List (Nat × Ext)} (hn : (P.funcs.toList.all fun fn => !(fn.name == "runtime.NumGoroutine")) = true) (h : ∀ x ∈ l, ExtOk P x.1 x.2) : CfgOk ⟨P, extL l, m, m2⟩ where
  num := fun f fn hf => by
    have h1 := List.all_eq_true.1 hn fn (by rw [Array.mem_toList_iff]; exact Array.mem_of_getElem? hf)
    simpa using h1
  ext := fun f x hx => h (f, x) (extL_mem hx)
end Go.X

namespace Go.X
open Go.ChangeShapes Go.WideShapes Go.ChangeAt Go.RowKit
/-! ## Tables out of what a row lays -/
theorem laid_get {P : Program} {w : World} : ∀ {l : List (String × DataW Unit)} {ps : List MemPlace} {i : Nat} {n : String} {d : DataW Unit}, DataW.LaidVars P w l ps → l[i]? = some (n, d) →
    ∃ g t cs fuel p, P.globalNamed n = some g ∧ (P.globals[g]?).map (·.type) = some t ∧ w.var? P n = some cs ∧ DataW.trod (fun _ => ()) P w 0 (fun _ => true) false fuel t cs.toList = some (d, p)
  | [], _, i, _, _, _, h => by cases i <;> cases h
  | (n0, d0) :: r, ps, 0, n, d, hl, h => by
    obtain ⟨g, t, cs, fuel, p, q, h1, h2, h3, h4, _⟩ := hl
    cases h
    exact ⟨g, t, cs, fuel, p, h1, h2, h3, h4⟩
  | (n0, d0) :: r, ps, i + 1, n, d, hl, h => by
    obtain ⟨g, t, cs, fuel, p, q, _, _, _, _, h5, _⟩ := hl
    exact laid_get h5 (by simpa using h)
theorem laidMet_of {P : Program} {laid : List (String × DataW Unit)} {w : World} (h : laidMetH P laid w) : laidMet P (laid.filter fun x => x.2.handleName?.isNone) w := by
  unfold laidMetH at h
  split at h
  · rename_i e
    have : laid.filter (fun x => x.2.handleName?.isNone) = laid := by
      rw [List.filter_eq_self]
      intro x hx
      cases hh : x.2.handleName? with
      | none => rfl
      | some s =>
        have : x ∈ laid.filter (fun x => x.2.handleName?.isSome) := List.mem_filter.2 ⟨hx, by rw [hh]; rfl⟩
        rw [e] at this; cases this
    rw [this]; exact h
  · exact h.1
theorem tabIn_array {P : Program} {w : World} {t : Tab} {n : String} {k : IntKind} {m : Nat} {e : TypeId} {zs : List Int} {laid : List (String × DataW Unit)} {i : Nat}
    (hw : w.ShapedOpen P) (hL : laidMetH P laid w) (hn : P.globalNamed n = some t.g) (ht : (P.globals[t.g]?).map (·.type) = some t.e) (hu : P.underlying t.e = some (.array m e)) (hue : P.underlying e = some (.int k))
    (hc : P.cellsOf e = 1) (hd : (laid.filter fun x => x.2.handleName?.isNone)[i]? = some (n, .agg (zs.map fun z => .lit (.int k z))))
    (h0 : (((begin P (fun _ _ => 0) default).world.heap[t.g]?).bind Go.Obj.row?).map (fun x => (x.1.size, x.2)) = some (m, t.e)) (hg : t.g < P.globals.size) (hvs : t.vs = zs.map (V.int k)) (hm : zs.length = m) : TabIn w t := by
  obtain ⟨ps, hl, _, _⟩ := laidMet_of hL
  obtain ⟨g, t', cs, fuel, p, h1, h2, h3, h4⟩ := laid_get hl hd
  rw [hn] at h1; cases h1
  rw [ht] at h2; cases h2
  cases hz : ((begin P (fun _ _ => 0) default).world.heap[t.g]?).bind Go.Obj.row? with
  | none => rw [hz] at h0; cases h0
  | some x =>
    rw [hz] at h0
    simp only [Option.map_some, Option.some.injEq, Prod.mk.injEq] at h0
    obtain ⟨zero, ty⟩ := x
    simp only at h0
    obtain ⟨h01, rfl⟩ := h0
    obtain ⟨cs', c1, c2, _⟩ := hw.1 t.g zero t.e hg hz
    have : cs' = cs := by
      simp only [World.var?, hn, Option.bind_some, c1] at h3
      exact Option.some.inj h3
    subst this
    refine ⟨cs', c1, by rw [c2, h01, hvs, List.length_map, hm], fun j k' z hj => ?_⟩
    obtain ⟨xs, m', _, ex, _, hxl, hel⟩ := DataW.trod_array hu h4
    have ex1 : xs.map (·.1) = zs.map fun z => (DataW.lit (.int k z) : DataW Unit) := (DataW.agg.inj (Prod.mk.inj ex).1).symm
    rw [hvs, List.getElem?_map] at hj
    cases hzj : zs[j]? with
    | none => rw [hzj] at hj; cases hj
    | some z' =>
      rw [hzj] at hj
      simp only [Option.map_some, Option.some.injEq, V.int.injEq] at hj
      obtain ⟨rfl, rfl⟩ := hj
      have hjm : j < m := by
        have : j < zs.length := by
          apply Nat.lt_of_not_le; intro h; rw [List.getElem?_eq_none h] at hzj; cases hzj
        omega
      have hE := hel j hjm
      rw [hc, Nat.mul_one, List.getElem?_eq_getElem (by omega)] at hE
      obtain ⟨z, e1, e2, _⟩ := DataW.trod_int hue hE
      have e4 : (xs.map (·.1))[j]? = (zs.map fun z => (DataW.lit (.int k z) : DataW Unit))[j]? := by rw [ex1]
      rw [List.getElem?_map, List.getElem?_map, List.getElem?_eq_getElem (by omega : j < xs.length), hzj, e2] at e4
      simp only [Option.map_some, Option.some.injEq, DataW.lit.injEq, Lit.int.injEq, true_and] at e4
      subst e4
      have : cs'.toList[j]? = some (.int k z) := by
        have h0 : ((cs'.toList.drop j).take 1)[0]? = some (.int k z) := by rw [e1]; rfl
        simpa using h0
      simpa using this
variable {H : Type} {enc : TypeId × Value → H}
theorem returnsInHanded_of_change_and_shaped {a : Assume} {C : Checked} {os : Os} {f : FuncId} {fn : Func} {s : ChangeSpec} {conds : List PathCond} {apart fresh handsOn again : Bool} {X : World → Array Value → Prop}
    (hX : ∀ (w w' : World) (args : Array Value), w.heap = w'.heap → X w args → X w' args)
    (own : ownKnob C.prog.godebug = none) (started : os.Started) (noInit : C.prog.inits.idxOf? f = none) (hfn : C.prog.funcs[f]? = some fn)
    (witness : ∃ (w : World) (tape : Tape) (i : Input), w.os = os ∧ (w.forCall tape i).Shaped C.prog ∧ i.vars = [] ∧ Input.okWide C.prog (w.forCall tape i) .any w.heap.size f i ∧
      ((s.pre enc C.prog fn conds apart (w.forCall tape i).memory i.args ∧ X (w.forCall tape i).memory i.args) ∧ sizedMet enc C.prog fn (OpenSpec.ofChange s) apart (w.forCall tape i).memory i.args) ∧ a.holds C.prog (lone (Frame.enter C.prog f i.args .normal) [] (w.forCall tape i)))
    (contract : ∀ (W : World) (base : Nat) (args : Array Value) (ds gs : List (DataW H)) (before : List MemPlace),
      (∀ (j : Nat) t v, fn.params[j]? = some t → args[j]? = some v → Value.okWide C.prog W .any base t v) →
      DataW.Whole enc C.prog fn.params.toList s.vars apart W args.toList ds gs before →
      conds.all (PathCond.test C.prog ⟨fn.params.toList, ds, s.plain.varTypes C.prog, gs⟩) = true →
      W.ShapedOpen C.prog → X W args →
      Go.Calls C.prog f args W fun e W' => ∃ v, e = .returned v ∧ s.post enc C.prog fn apart fresh handsOn again W args v W') :
    ReturnsInHanded a C os f .any (fun w args => (s.pre enc C.prog fn conds apart w args ∧ X w args) ∧ sizedMet enc C.prog fn (OpenSpec.ofChange s) apart w args) (s.post enc C.prog fn apart fresh handsOn again) := by
  refine returnsInHanded_of_calls own started noInit witness ?_
  intro w tape i _ hsh _ hok hpre _
  obtain ⟨_, _, _, fn', hfn', _, _, _, _, hval⟩ := hok
  have e : fn' = fn := Option.some.inj (hfn'.symm.trans hfn)
  subst e
  obtain ⟨⟨⟨ds, gs, before, hw, hc⟩, hx⟩, hz⟩ := hpre
  have hw' := DataW.Whole.of_heap (w' := w.forCall tape i) (by rfl) hw
  refine (contract (w.forCall tape i) w.heap.size i.args ds gs before hval hw' hc hsh (hX _ _ _ (by rfl) hx)).mono fun e W' ⟨v, he, hp⟩ => ?_
  subst he
  exact ChangeSpec.post_blind hp
end Go.X
