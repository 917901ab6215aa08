/-
  Code of X: what it finds, the machine does. No conditions. An executor of its own, proved sound against the model; nothing here is of one program.
-/
import Derived.Test.YtmhjdchoeeikaaaGreatDoorXg
import Derived.RangeFuncRecord
set_option linter.unusedVariables false
namespace Go.X
def exitOf : Ex → Exit
  | .norm => .normal
  | .exit i => .exit i
  | .goto l => .goto l
  | .ret => .ret
def MarkR (φ : Ph) (d : Nat) (df : Deferred) : Prop := ∃ B sz, φ d = some (B, 0, sz) ∧ df.target = .collected B
def AroundR (φ : Ph) (ro : Option Nat) : Option Nat → Prop
  | none => ro = none
  | some l0 => ∃ B sz, φ l0 = some (B, 0, sz) ∧ ro = some B
structure StR (P : Program) (fc : FC) (φ : Ph) (st : St) (a : Act) (w : World) (ro : Option Nat) : Prop where
  rel : RelH P φ (hget st.hp) w
  base : Base φ st.nx
  env : EnvR φ fc.msk fc.N st.env a.tmps
  marks : All2 (MarkR φ) st.marks a.defers
  around : AroundR φ ro fc.around
def LR (L : List LoopS) (φ : Ph) (w : World) : Prop := ∀ lp s, findLp lp L = some s → ∃ B sz q, φ lp = some (B, 0, sz) ∧ w.heap[B]? = some (.loop q) ∧ q.params.toList = s.ps ∧ q.assign = s.asg ∧ q.body = s.body ∧ EnvR φ s.msk s.N s.env q.tmps
theorem MarkR.mono {φ φ' : Ph} (h : Ex.below φ φ') {l : List Nat} {m : List Deferred} (hm : All2 (MarkR φ) l m) : All2 (MarkR φ') l m :=
  hm.mono fun _ _ ⟨B, sz, h1, h2⟩ => ⟨B, sz, h _ _ h1, h2⟩
theorem AroundR.mono {φ φ' : Ph} (h : Ex.below φ φ') {ro ar : Option Nat} (ha : AroundR φ ro ar) : AroundR φ' ro ar := by
  cases ar with
  | none => exact ha
  | some l0 => obtain ⟨B, sz, h1, h2⟩ := ha; exact ⟨B, sz, h _ _ h1, h2⟩
theorem LR.step {L : List LoopS} {φ φ' : Ph} {H H' : Nat → Obj} {nx nx' : Nat} {w w' : World} (h : LR L φ w) (hb : Base φ nx) (s : Stp φ H nx w φ' H' nx' w') : LR L φ' w' := by
  intro lp x hx
  obtain ⟨B, sz, q, h1, h2, h3, h4, h5, h6⟩ := h lp x hx
  obtain ⟨q', k1, _, k3, k4, k5, k6, _⟩ := s.loops B q h2
  have hbl := hb.below s
  exact ⟨B, sz, q', hbl _ _ h1, k1, by rw [k4]; exact h3, by rw [k5]; exact h4, by rw [k6]; exact h5, by rw [k3]; exact h6.mono hbl⟩
/-- code that stands within a scope -/
def ScopedWp (F : Fence) (n : Nat) (P : Program) (body c : Code) (Q : Exit → Act → World → Prop) (a : Act) (w : World) : Prop :=
  ∀ (b : Frame) (k : List Item) (cs : List Frame), b.roundOf = F.round → F.fn b.fn → F.room (cs.length + 1 + n) →
    ∃ e a' w', Q e a' w' ∧ ArrivesIn (Machine.fenced P F) P (lone (b.atR a (.code c :: .inScope body :: k)) cs w) b k cs e a' w'
def Kont (P : Program) (fc : FC) (φ : Ph) (st : St) (w : World) (ro : Option Nat) (l : List Fin) (k : Ex → St → Ans) (Q : Exit → Act → World → Prop) : Prop :=
  ∀ ex st' l', k ex st' = .ok l' → (∀ r ∈ l', r ∈ l) → ∀ φ' a' w', StR P fc φ' st' a' w' ro → Stp φ (hget st.hp) st.nx w φ' (hget st'.hp) st'.nx w' → Q (exitOf ex) a' w'
def EvOk (C : Cfg) (e : evT) : Prop := ∀ L fc sc c st k l, e L fc sc c st k = .ok l → ∀ φ a w ro Q m, StR C.P fc φ st a w ro → LR L φ w → Kont C.P fc φ st w ro l k Q →
  match sc with | none => c.wpIn (Fr ro) m C.P Q a w | some b => ScopedWp (Fr ro) m C.P b c Q a w

/-! ## Calls -/
section
variable {P : Program} {φ : Ph} {H : Nat → Obj} {w : World}
/-- a block of which nothing is known is turned -/
theorem RelH.put_other (h : RelH P φ H w) {B : Nat} (hn : ∀ b B' o s, H b ≠ .free → φ b = some (B', o, s) → B' ≠ B) (g : Go.Obj) : RelH P φ H (World.put w B g) := by
  refine ⟨fun b hb => ?_, h.inj, ?_⟩
  · obtain ⟨B', off, sz, h1, h2, h3⟩ := h.obj b hb
    exact ⟨B', off, sz, h1, by simpa [World.put] using h2, by rw [put_ne _ _ (hn b B' off sz hb h1)]; exact h3⟩
  · intro b m since seen last kt es cl h1 h2 B1 o s M o' s' R L seen' e1 e2 g1 g2
    rw [put_ne _ _ (hn b _ _ _ (by rw [h1]; simp) e1)] at g1
    rw [put_ne _ _ (hn m _ _ _ (by rw [h2]; simp) e2)] at g2
    exact h.iter b m since seen last kt es cl h1 h2 _ _ _ _ _ _ R L seen' e1 e2 g1 g2
theorem resX_ok {msk : List Nat} {N : Nat} {st : St} {tm : Array Value} (hR : RelH P φ (hget st.hp) w) (hb : Base φ st.nx) (he : EnvR φ msk N st.env tm) {g : ResultVar → Sem Value} (g1 : ∀ t, g (.tmp t) = pure (tm.getD t undef))
    (g2 : ∀ a t, g (.cell a t) = (asAddr (tm.getD a undef) >>= fun x => loadVar t x)) : ∀ {rs : List ResultVar} {vs : List V}, resX P msk st rs = some vs →
    ∃ cs, (rs.mapM g).run P w = .ok cs w ∧ VRs φ vs cs
  | [], vs, h => by simp [resX] at h; subst h; exact ⟨[], rfl, .nil⟩
  | r :: rs, vs, h => by
    have hrd : ∀ x, VR φ (rdS (opdSrc msk [] x) [] st.env) (Act.eval ⟨tm, []⟩ x) := fun x => rd_ok (a := ⟨tm, []⟩) hb he (fun t k _ hk => by simp [locIx] at hk) x
    cases r with
    | tmp t =>
      simp only [resX] at h
      cases hr : resX P msk st rs with
      | none => rw [hr] at h; cases h
      | some l =>
        rw [hr] at h
        simp only [Option.some.injEq] at h
        subst h
        obtain ⟨cs, h1, h2⟩ := resX_ok hR hb he g1 g2 hr
        refine ⟨tm.getD t undef :: cs, ?_, .cons _ _ _ _ (hrd (.tmp t)) h2⟩
        rw [List.mapM_cons]
        simp only [g1, Sem.run_bind, Sem.run_pure, Result.andThen, h1]
    | cell a t =>
      simp only [resX] at h
      have ha := hrd (.tmp a)
      cases hv : rdS (opdSrc msk [] (.tmp a)) [] st.env <;> rw [hv] at h <;> (try (simp at h; done))
      rename_i b o
      rw [hv] at ha
      simp only at h
      cases hl : loadX (lay P t) (hget st.hp b) o <;> rw [hl] at h <;> (try (simp at h; done))
      rename_i v
      simp only at h
      cases hr : resX P msk st rs with
      | none => rw [hr] at h; cases h
      | some l =>
        rw [hr] at h
        simp only [Option.some.injEq] at h
        subst h
        obtain ⟨cs, h1, h2⟩ := resX_ok hR hb he g1 g2 hr
        simp only [Act.eval] at ha
        generalize hx : tm.getD a undef = x at ha
        cases ha with
        | ptr _ _ B off sz hφ =>
          obtain ⟨y, hy, hvy⟩ := run_loadX hR hφ (ob := hget st.hp b) rfl hl
          refine ⟨y :: cs, ?_, .cons _ _ _ _ hvy h2⟩
          rw [List.mapM_cons]
          have hA : (asAddr (.pointer (some ⟨B, off + o, none⟩))).run P w = .ok ⟨B, off + o, none⟩ w := rfl
          simp only [g2, hx, hA, Sem.run_bind, Sem.run_pure, Result.andThen, hy, h1]
def tupV : List V → V | [v] => v | l => .tup l
theorem results_ok {msk : List Nat} {N : Nat} {st : St} {fn : Func} {tm : Array Value} (hR : RelH P φ (hget st.hp) w) (hb : Base φ st.nx) (he : EnvR φ msk N st.env tm) {vs : List V} (h : resX P msk st fn.results.toList = some vs) :
    ∃ v, (results fn tm).run P w = .ok v w ∧ VR φ (tupV vs) v := by
  have key : ∀ (g : ResultVar → Sem Value), (∀ t, g (.tmp t) = pure (tm.getD t undef)) → (∀ a t, g (.cell a t) = (asAddr (tm.getD a undef) >>= fun x => loadVar t x)) →
      ∃ cs : List Value, (do let vs ← fn.results.mapM g; pure (if h : vs.size = 1 then vs[0] else .tuple vs) : Sem Value).run P w = .ok (if h : cs.toArray.size = 1 then cs.toArray[0] else .tuple cs.toArray) w ∧ VRs φ vs cs := by
    intro g g1 g2
    obtain ⟨cs, h1, h2⟩ := resX_ok hR hb he g1 g2 h
    refine ⟨cs, ?_, h2⟩
    simp only [Array.mapM_eq_mapM_toList, Sem.run_bind, Sem.run_map, h1, Result.andThen, Sem.run_pure]
  obtain ⟨cs, h1, h2⟩ : ∃ cs : List Value, (results fn tm).run P w = .ok (if h : cs.toArray.size = 1 then cs.toArray[0] else .tuple cs.toArray) w ∧ VRs φ vs cs := by
    unfold results
    exact key _ (fun _ => rfl) (fun _ _ => rfl)
  refine ⟨if h : cs.toArray.size = 1 then cs.toArray[0] else .tuple cs.toArray, h1, ?_⟩
  · cases h2 with
    | nil => exact .tup [] [] .nil
    | cons v x l xs hv ht =>
      cases ht with
      | nil => exact hv
      | cons v' x' l' xs' hv' ht' =>
        rw [dif_neg (by simp)]
        exact .tup _ _ (.cons _ _ _ _ hv (.cons _ _ _ _ hv' ht'))
theorem finish_ok {φ0 : Ph} {H0 : Nat → Obj} {nx0 : Nat} {w0 : World} {m : Nat} {fn : Func} {msk : List Nat} {N : Nat} {tm : Array Value} {l : List Fin} : ∀ (marks : List Nat) (st : St) (l' : List Fin) (df : List Deferred) (φ : Ph) (w : World),
    finish P msk fn st marks = .ok l' → (∀ r ∈ l', r ∈ l) → RelH P φ (hget st.hp) w → Base φ st.nx → EnvR φ msk N st.env tm → All2 (MarkR φ) marks df → Stp φ0 H0 nx0 w0 φ (hget st.hp) st.nx w →
    LeavesInM Fence.wide m P fn tm (retPost P φ0 H0 nx0 w0 l) df .returning w
  | [], st, l', df, φ, w, h, hs, hR, hb, he, hm, hst => by
    cases hm
    simp only [finish] at h
    split at h
    · rename_i v hv
      rw [seqV_eq] at h
      simp only [Ans.ok.injEq] at h
      subst h
      obtain ⟨x, h1, h2⟩ := results_ok hR hb he hv
      exact ⟨x, h1, ⟨v, st.hp, st.nx, .norm, .nil⟩, hs _ (by simp), φ, h2, hR, hst⟩
    · rename_i vs hne hv
      rw [seqV_eq] at h
      simp only [Ans.ok.injEq] at h
      subst h
      obtain ⟨x, h1, h2⟩ := results_ok hR hb he hv
      refine ⟨x, h1, ⟨.tup vs, st.hp, st.nx, .norm, .nil⟩, hs _ (by simp), φ, ?_, hR, hst⟩
      cases vs with
      | nil => exact h2
      | cons a r => cases r with
        | nil => exact absurd rfl (hne a)
        | cons b r => exact h2
    · cases h
  | d :: ds, st, l', df, φ, w, h, hs, hR, hb, he, hm, hst => by
    cases hm with
    | cons _ df0 _ dfs hd ht =>
      simp only [finish] at h
      split at h
      · rename_i hd'
        rw [putH_eq] at h
        obtain ⟨B, sz, h1, h2⟩ := hd
        have hne : hget st.hp d ≠ .free := by rw [hd']; simp
        obtain ⟨B', off, sz', e1, e2, e3⟩ := hR.obj d hne
        rw [h1] at e1; cases e1
        rw [hd'] at e3
        obtain ⟨_, hg⟩ := e3
        refine ⟨by simp, .inl ⟨B, World.put w B (.deferred none), h2, run_takeDeferred hg, ?_⟩⟩
        have hR1 : RelH P φ (upd (hget st.hp) d .free) w := hR.sub (sub_free _ _)
        have hoth : ∀ b B' o s, upd (hget st.hp) d .free b ≠ .free → φ b = some (B', o, s) → B' ≠ B := by
          intro b B' o s hb' hφ
          by_cases e : b = d
          · subst e; rw [upd_same] at hb'; exact absurd rfl hb'
          · rw [upd_ne _ _ e] at hb'
            exact hR.inj b d _ _ _ _ _ _ hb' hne e hφ h1
        have hR2 := hR1.put_other hoth (.deferred none)
        have hs2 : Stp φ (hget st.hp) st.nx w φ (upd (hget st.hp) d .free) st.nx (World.put w B (.deferred none)) :=
          Stp.set st.nx hne h1 .free (fun m hm => by obtain ⟨_, _, _, e⟩ := hm; cases e) _ (fun q hq => by rw [hg] at hq; cases hq)
        rw [← hget_set] at hR2 hs2
        exact finish_ok ds ⟨st.env, _, st.nx, []⟩ l' dfs φ _ h hs hR2 hb he ht (hst.trans hs2)
      · cases h
end
def envL (msk : List Nat) : List V → Nat → EF → EF
  | [], _, t => t
  | v :: r, i, t => envL msk r (i + 1) (setEnv msk t (some i) v)
theorem envOf_eq (msk : List Nat) : ∀ (l : List V) (i : Nat) (t : EF) (k : EF → Ans), envOf msk l i t k = k (envL msk l i t)
  | [], _, _, _ => rfl
  | v :: r, i, t, k => by
    simp only [envOf, envL, setEnv]
    cases ixOf i msk 0 with
    | some j => simp only [seqV_eq, fsetK_eq, envOf_eq msk r]
    | none => simp only [envOf_eq msk r]
theorem ef0_get (i : Nat) : fget i ef0 = und := by
  unfold fget ef0 e8
  simp only [dg, gl]
  cases d8 (i % 8) <;> cases d8 (i / 8 % 8) <;> rfl
theorem envL_get (msk : List Nat) : ∀ (l : List V) (i : Nat) (t : EF) (j x : Nat), ixOf j msk 0 = some x → fget x (envL msk l i t) = if i ≤ j ∧ j < i + l.length then (l[j - i]?).getD und else fget x t
  | [], i, t, j, x, _ => by simp [envL]; intro h1 h2; omega
  | v :: r, i, t, j, x, hx => by
    simp only [envL]
    rw [envL_get msk r (i + 1) _ j x hx]
    have hlt := (ixOf_ok _ _ _ _ hx).1
    by_cases h1 : i = j
    · subst h1
      rw [if_neg (by omega), if_pos (by simp)]
      simp only [setEnv, hx]
      rw [fget_set hlt hlt, if_pos rfl]; simp
    · by_cases h2 : i + 1 ≤ j ∧ j < i + 1 + r.length
      · rw [if_pos h2, if_pos (by simp; omega)]
        rw [show j - i = (j - (i + 1)) + 1 by omega]; simp
      · rw [if_neg h2, if_neg (by simp; omega)]
        simp only [setEnv]
        cases hi : ixOf i msk 0 with
        | none => rfl
        | some y =>
          simp only
          have hy := (ixOf_ok _ _ _ _ hi).1
          rw [fget_set hy hlt, if_neg (fun e => h1 (ixOf_inj (by rw [e]; exact hi) hx))]
theorem env_args {φ : Ph} {msk : List Nat} {N : Nat} {args : List V} {args' : Array Value} (h : VRs φ args args'.toList) : EnvR φ msk N (envL msk args 0 ef0) (args' ++ Array.replicate (N - args'.size) undef) := by
  refine ⟨by simp; omega, fun t x hx => ?_⟩
  rw [envL_get msk _ _ _ _ _ hx]
  have hlen : args'.size = args.length := by have := h.length; simpa using this
  by_cases ht : t < args.length
  · rw [if_pos (by omega)]
    have hg : args[t - 0]? = some args[t] := by simp
    rw [hg]
    obtain ⟨x, hx, hv⟩ := h.get t (v := args[t]) (by simp)
    have : (args' ++ Array.replicate (N - args'.size) undef).getD t undef = x := by
      rw [Array.getD_eq_getD_getElem?, Array.getElem?_append_left (by omega)]
      rw [Array.getElem?_toList] at hx
      rw [hx]; rfl
    rw [this]; exact hv
  · rw [if_neg (by omega), ef0_get]
    have : (args' ++ Array.replicate (N - args'.size) undef).getD t undef = undef := by
      rw [Array.getD_eq_getD_getElem?, Array.getElem?_append_right (by omega), Array.getElem?_replicate]
      split <;> rfl
    rw [this]; exact .tup [] [] .nil
theorem callF_ok {C : Cfg} {e : evT} (hev : EvOk C e) {L : List LoopS} {g : FuncId} {args : List V} {hp : HP} {nx : Nat} {l : List Fin} (h : callF C e L g args hp nx = .ok l) {φ : Ph} {w : World} {args' : Array Value}
    (hR : RelH C.P φ (hget hp) w) (hb : Base φ nx) (hL : LR L φ w) (ha : VRs φ args args'.toList) (m : Nat) : CallsIn Fence.wide m C.P g args' w (retPost C.P φ (hget hp) nx w l) := by
  unfold callF at h
  split at h
  · rename_i fn hf
    split at h
    · rename_i c hc
      rw [envOf_eq] at h
      refine callsIn_of_wp_marks hf hc trivial ?_
      have := hev L _ none c _ _ l h φ ⟨args' ++ Array.replicate (fn.ntmps - args'.size) undef, []⟩ w none (bodyPostM Fence.wide m C.P fn (retPost C.P φ (hget hp) nx w l)) m ⟨hR, hb, env_args ha, .nil, rfl⟩ hL ?_
      · exact this
      · intro ex st' l' hk hsub φ' a' w' hst hs
        have fin : finish C.P (fnMask fn) fn st' st'.marks = .ok l' → LeavesInM Fence.wide m C.P fn a'.tmps (retPost C.P φ (hget hp) nx w l) a'.defers .returning w' := fun hfin =>
          finish_ok st'.marks st' l' a'.defers φ' w' hfin hsub hst.rel hst.base hst.env hst.marks hs
        cases ex with
        | norm => exact fin hk
        | ret => exact fin hk
        | exit i => cases hk
        | goto t => cases hk
    · cases h
  · cases h
end Go.X

namespace Go.X
theorem setPs_ok {φ : Ph} {msk : List Nat} {N : Nat} : ∀ {ps : List Tmp} {args : List V} {env : EF} {k : EF → Ans} {l : List Fin} {args' : List Value} {tm : Array Value}, setPs msk N ps args env k = .ok l → VRs φ args args' → EnvR φ msk N env tm →
    ps.length = args.length ∧ ∃ env', k env' = .ok l ∧ EnvR φ msk N env' ((ps.zip args').foldl (fun tmps (x : Tmp × Value) => tmps.setIfInBounds x.1 x.2) tm)
  | [], [], env, k, l, args', tm, h, ha, he => by
    cases ha
    exact ⟨rfl, env, h, he⟩
  | p :: ps, v :: vs, env, k, l, args', tm, h, ha, he => by
    cases ha with
    | cons _ x _ xs hv ht =>
      simp only [setPs] at h
      cases hn : Nat.ble (p + 1) N with
      | false => rw [hn] at h; cases h
      | true =>
        rw [hn] at h
        simp only [cond_true] at h
        have hp := Nat.le_of_ble_eq_true hn
        have he' := he.set hv (d := p) (Nat.lt_of_lt_of_le hp he.1)
        have h' : setPs msk N ps vs (setEnv msk env (some p) v) k = .ok l := by
          simp only [setEnv]
          cases hj : ixOf p msk 0 with
          | none => rw [hj] at h; exact h
          | some j => rw [hj] at h; simp only [seqV_eq, fsetK_eq] at h; exact h
        obtain ⟨h1, env', h2, h3⟩ := setPs_ok h' ht he'
        exact ⟨by simp [h1], env', h2, h3⟩
  | [], _ :: _, _, _, _, _, _, h, _, _ => by simp [setPs] at h
  | _ :: _, [], _, _, _, _, _, h, _, _ => by simp [setPs] at h
theorem fold_zip (ps : Array Tmp) (args : Array Value) (tm : Array Value) : (ps.zip args).foldl (fun tmps (t, a) => tmps.setIfInBounds t a) tm = (ps.toList.zip args.toList).foldl (fun tmps (x : Tmp × Value) => tmps.setIfInBounds x.1 x.2) tm := by
  rw [← Array.foldl_toList, Array.toList_zip]
theorem jumpOf_none {ex : Ex} : (jumpOf ex).isNone = isNorm ex := by cases ex <;> rfl
/-- a loop's record turned -/
theorem loop_put {P : Program} {φ : Ph} {H : Nat → Obj} {w : World} {lp B sz : Nat} {st : LoopState} {pd : Ex} {d : Nat} {q : Loop} (hR : RelH P φ H w) (hl : H lp = .loop st pd d) (hφ : φ lp = some (B, 0, sz)) (hq : w.heap[B]? = some (.loop q))
    (st' : LoopState) (pd' : Ex) :
    RelH P φ (upd H lp (.loop st' pd' d)) (World.put w B (.loop { q with state := st', pending := jumpOf pd' })) ∧
    ∀ nx, Stp φ H nx w φ (upd H lp (.loop st' pd' d)) nx (World.put w B (.loop { q with state := st', pending := jumpOf pd' })) := by
  have hne : H lp ≠ .free := by rw [hl]; simp
  obtain ⟨B', off, sz', e1, e2, e3⟩ := hR.obj lp hne
  rw [hφ] at e1; cases e1
  rw [hl] at e3
  obtain ⟨_, r, g1, g2, g3, sz', g4⟩ := e3
  rw [hq] at g1; cases g1
  refine ⟨hR.set hne hφ ⟨rfl, _, rfl, rfl, rfl, sz', g4⟩ (hR.iter_set hne hφ rfl), fun nx => Stp.set nx hne hφ _ (fun m hm => by obtain ⟨_, _, _, e⟩ := hm; cases e) _ (fun r hr => ?_)⟩
  rw [hq] at hr; cases hr
  exact ⟨_, rfl, rfl, rfl, rfl, rfl, rfl, rfl⟩
/-- what is known of a loop's record -/
theorem loop_of {P : Program} {φ : Ph} {H : Nat → Obj} {w : World} {lp : Nat} {st : LoopState} {pd : Ex} {d : Nat} (hR : RelH P φ H w) (hl : H lp = .loop st pd d) :
    ∃ B sz q, φ lp = some (B, 0, sz) ∧ w.heap[B]? = some (.loop q) ∧ q.state = st ∧ q.pending = jumpOf pd ∧ ∃ sz, φ d = some (q.defers, 0, sz) := by
  obtain ⟨B, off, sz, e1, e2, e3⟩ := hR.obj lp (by rw [hl]; simp)
  rw [hl] at e3
  obtain ⟨h0, r, g1, g2, g3, sz', g4⟩ := e3
  subst h0
  exact ⟨B, sz, r, e1, g1, g2, g3, sz', g4⟩
section
variable {C : Cfg} {e : evT} {L : List LoopS} {φ : Ph} {w : World} {hp : HP} {nx : Nat} {l : List Fin}
theorem roundF_ok (hev : EvOk C e) {lp : Nat} {args : List V} (h : roundF e L lp args hp nx = .ok l) {args' : Array Value}
    (hR : RelH C.P φ (hget hp) w) (hb : Base φ nx) (hL : LR L φ w) (ha : VRs φ args args'.toList) :
    ∃ B sz q, φ lp = some (B, 0, sz) ∧ w.heap[B]? = some (.loop q) ∧ args'.size = q.params.size ∧
      ∀ m, RoundIn Fence.wide m C.P B q.fn ((q.params.zip args').foldl (fun tmps (t, a) => tmps.setIfInBounds t a) q.tmps) q.assign q.body w (retPost C.P φ (hget hp) nx w l) := by
  unfold roundF at h
  split at h
  · rename_i pd0 d0 s hl0 hs
    obtain ⟨B, sz, q, q1, q2, q3, q4, q5, q6⟩ := hL lp s hs
    obtain ⟨hlen, env', hk, he'⟩ := setPs_ok h ha q6
    have hsz : args'.size = q.params.size := by
      have h1 := ha.length
      rw [Array.length_toList] at h1
      rw [h1, ← hlen, ← q3, Array.length_toList]
    refine ⟨B, sz, q, q1, q2, hsz, fun m => ?_⟩
    refine roundIn_of_wpIn trivial ?_
    rw [q4, q5, fold_zip, q3]
    have hfr : (Fence.wide.inRound B) = Fr (some B) := rfl
    rw [hfr]
    refine hev L _ none s.asg _ _ l hk φ ⟨_, []⟩ w (some B) _ m ⟨hR, hb, he', .nil, ⟨B, sz, q1, rfl⟩⟩ hL ?_
    intro ex st1 l1 hk1 hsub1 φ1 a1 w1 hst1 hs1
    cases ex with
    | exit i => cases hk1
    | goto t => cases hk1
    | ret => cases hk1
    | norm =>
      simp only at hk1
      split at hk1
      · rename_i pd1 d1 hl1
        rw [putH_eq] at hk1
        obtain ⟨B1, sz1, r1, e1, e2, e3, e4, _⟩ := loop_of hst1.rel hl1
        have hbl := hb.below hs1
        have e1' := hbl _ _ q1
        rw [e1'] at e1; cases e1
        obtain ⟨p1, p2⟩ := loop_put hst1.rel hl1 e1' e2 .busy pd1
        have hq' : ({ r1 with state := .busy, pending := jumpOf pd1 } : Loop) = { r1 with state := .busy } := by rw [← e4]
        rw [hq', ← hget_set] at p1
        have p2 := p2 st1.nx
        rw [hq', ← hget_set] at p2
        refine ⟨World.put w1 B (.loop { r1 with state := .busy }), run_beginRound e2 e3, ?_⟩
        have hL1 : LR L φ1 w1 := hL.step hb hs1
        refine hev L _ none s.body _ _ l1 hk1 φ1 a1 _ (some B) _ m ⟨p1, hst1.base, hst1.env, hst1.marks, hst1.around⟩ (hL1.step hst1.base p2) ?_
        intro ex st2 l2 hk2 hsub2 φ2 a2 w2 hst2 hs2
        replace hk2 : endRound lp ex st2 = .ok l2 := hk2
        unfold endRound at hk2
        split at hk2
        · rename_i pd2 d2 hl2
          rw [putH_eq] at hk2
          simp only [Ans.ok.injEq] at hk2
          subst hk2
          obtain ⟨B2, sz2, r2, f1, f2, f3, f4, _⟩ := loop_of hst2.rel hl2
          have f1' := (hst1.base.below (p2.trans hs2)) _ _ e1'
          rw [f1'] at f1; cases f1
          obtain ⟨g1, g2⟩ := loop_put hst2.rel hl2 f1' f2 (stOf ex) ex
          have g2 := g2 st2.nx
          have hst : ({ r2 with state := stOf ex, pending := jumpOf ex } : Loop) = { r2 with state := if (jumpOf ex).isNone then .ready else .done, pending := jumpOf ex } := by
            cases ex <;> rfl
          rw [hst, ← hget_set] at g1 g2
          have fin : ∀ j, j = jumpOf ex → ∃ v w', (Instr.endRound B j).run C.P w2 = .ok v w' ∧ retPost C.P φ (hget hp) nx w l (.returned v) w' := by
            rintro j rfl
            refine ⟨_, _, run_endRound _ f2, _, hsub1 _ (hsub2 _ (List.mem_singleton.2 rfl)), φ2, ?_, g1, (hs1.trans (p2.trans hs2)).trans g2⟩
            rw [jumpOf_none]; exact .bool _
          cases ex with
          | norm => exact fin none rfl
          | ret => exact fin (some .ret) rfl
          | exit i => exact fin (some (.exit i)) rfl
          | goto t => exact fin (some (.goto t)) rfl
        · cases hk2
      · cases hk1
  · cases h
theorem gok (hev : EvOk C e) (L : List LoopS) : GOk C.P ⟨callF C e L, roundF e L⟩ (LR L) where
  mono := fun _ _ _ _ _ _ _ _ h hb s => h.step hb s
  call := fun _ _ _ _ _ h _ _ _ hR hb hL ha m => callF_ok hev h hR hb hL ha m
  round := fun _ _ _ _ _ h _ _ _ hR hb hL ha => roundF_ok hev h hR hb hL ha
end
end Go.X

namespace Go.X
/-! ## Calls whose answers are known -/
def tabHp : List Tab → HP
  | [] => .l
  | t :: r => hset t.g (.cells t.vs t.e 0) (tabHp r)
def isInt : V → Bool | .int _ _ => true | _ => false
def tabsOk : List Tab → Bool
  | [] => true
  | t :: r => Nat.ble (t.g + 1) 1000 && allL isInt t.vs && allL (fun u => !(Nat.beq u.g t.g)) r && tabsOk r
theorem tab_get : ∀ {ts : List Tab} {b : Nat}, hget (tabHp ts) b ≠ .free → ∃ t ∈ ts, t.g = b ∧ hget (tabHp ts) b = .cells t.vs t.e 0
  | [], b, h => absurd (hget_l b) h
  | t :: r, b, h => by
    by_cases e : b = t.g
    · subst e
      exact ⟨t, List.mem_cons_self .., rfl, by rw [tabHp, hget_set_same]⟩
    · have e1 : hget (tabHp (t :: r)) b = hget (tabHp r) b := by rw [tabHp, hget_set_ne _ _ e]
      rw [e1] at h ⊢
      obtain ⟨u, hu, e2, e3⟩ := tab_get h
      exact ⟨u, List.mem_cons_of_mem _ hu, e2, e3⟩
theorem isInt_eq {v : V} (h : isInt v = true) : ∃ k n, v = .int k n := by
  cases v <;> first | exact ⟨_, _, rfl⟩ | cases h
theorem beqO_cells {o : Obj} {vs : List V} {e : TypeId} (h : beqO o (.cells vs e 0) = true) : o = .cells vs e 0 := by
  unfold beqO at h
  split at h <;> (try (cases h; done)) <;> (rename_i h1; try (cases h1; done))
  rename_i a e1 h2 _ _ _
  cases h1
  cases h3 : Nat.beq e1 e <;> rw [h3] at h <;> (try (cases h; done))
  cases h4 : Nat.beq h2 0 <;> rw [h4] at h <;> (try (cases h; done))
  rw [Nat.eq_of_beq_eq_true h3, Nat.eq_of_beq_eq_true h4, beqVs_eq h]

mutual
def ground : V → Bool
  | .bool _ | .int _ _ | .str _ _ | .nilp | .nils | .nilm | .nilf | .nili => true
  | .ifc _ v => ground v
  | .agg l => grounds l
  | _ => false
def grounds : List V → Bool
  | [] => true
  | v :: r => bif ground v then grounds r else false
end
mutual
theorem VR.ground {φ ψ : Ph} : ∀ {v : V} {x : Value}, VR φ v x → ground v = true → VR ψ v x := by
  intro v x h hg
  cases h <;> first | (simp only [Go.X.ground] at hg; cases hg; done) | skip
  · exact .bool _
  · exact .int _ _
  · exact .str _ _ (by assumption)
  · exact .nilp
  · exact .nils
  · exact .nilm
  · exact .nilf
  · rename_i t v x h
    exact .ifc _ _ _ (VR.ground h (by simpa only [Go.X.ground] using hg))
  · exact .nili
  · rename_i l cs h h1
    exact .agg _ _ (VRs.ground h (by simpa only [Go.X.ground] using hg)) h1
theorem VRs.ground {φ ψ : Ph} : ∀ {l : List V} {xs : List Value}, VRs φ l xs → grounds l = true → VRs ψ l xs := by
  intro l xs h hg
  cases h with
  | nil => exact .nil
  | cons v x l xs h t =>
    simp only [grounds] at hg
    cases h1 : Go.X.ground v with
    | false => rw [h1] at hg; cases hg
    | true =>
      rw [h1] at hg
      exact .cons _ _ _ _ (VR.ground h h1) (VRs.ground t hg)
end
section pre
variable {d : Nat}
theorem shVs_get : ∀ (l : List V) (i : Nat), (shVs d l)[i]? = (l[i]?).map (shV d)
  | [], i => by simp [shVs]
  | v :: r, 0 => by simp [shVs]
  | v :: r, i + 1 => by simp [shVs, shVs_get r i]
theorem shVs_len : ∀ (l : List V), (shVs d l).length = l.length
  | [] => rfl
  | v :: r => by simp [shVs, shVs_len r]
theorem shEs_mem : ∀ {es : List Ent} {e : Ent}, e ∈ shEs d es → ∃ e' ∈ es, e'.key = e.key
  | [], e, h => by simp [shEs] at h
  | a :: r, e, h => by
    simp only [shEs, List.mem_cons] at h
    rcases h with rfl | h
    · exact ⟨a, by simp, rfl⟩
    · obtain ⟨e', h1, h2⟩ := shEs_mem h
      exact ⟨e', by simp [h1], h2⟩
theorem shEs_pw : ∀ {es : List Ent}, es.Pairwise (fun a b => keyEq a.key b.key = false) → (shEs d es).Pairwise (fun a b => keyEq a.key b.key = false)
  | [], _ => by simp [shEs]
  | a :: r, h => by
    obtain ⟨h1, h2⟩ := List.pairwise_cons.1 h
    simp only [shEs]
    refine List.pairwise_cons.2 ⟨fun e he => ?_, shEs_pw h2⟩
    obtain ⟨e', k1, k2⟩ := shEs_mem he
    rw [← k2]; exact h1 e' k1
end pre
section shift
variable {φ ψ : Ph} {d : Nat}
mutual
theorem VR.shift (H : ∀ b y, φ b = some y → ψ (shB d b) = some y) : ∀ {v : V} {x : Value}, VR φ v x → VR ψ (shV d v) x := by
  intro v x h
  cases h with
  | junk => exact .junk _
  | bool => exact .bool _
  | int => exact .int _ _
  | str s l hs => exact .str _ _ hs
  | ptr b o B off sz hb => exact .ptr _ _ _ _ _ (H _ _ hb)
  | nilp => exact .nilp
  | slcE b o len cap es B off sz ao hb ho hl hc => exact .slcE _ _ _ _ _ _ _ _ _ (H _ _ hb) ho hl hc
  | slcN b o len c es B off sz ao cap hb ho hl hc he => exact .slcN _ _ _ _ _ _ _ _ _ _ (H _ _ hb) ho hl hc he
  | nils => exact .nils
  | capv b o es B off sz cap hb hc he => exact .capv _ _ _ _ _ _ _ (H _ _ hb) hc he
  | map r R sz hb => exact .map _ _ _ (H _ _ hb)
  | nilm => exact .nilm
  | fnF f l cs hl => exact .fnF _ _ _ (VRs.shift H hl)
  | fnY r R sz hb => exact .junk _
  | nilf => exact .nilf
  | ifc t v x hv => exact .ifc _ _ _ (VR.shift H hv)
  | nili => exact .nili
  | agg l cs hl h1 => exact .agg _ _ (VRs.shift H hl) h1
  | tup l cs hl => exact .tup _ _ (VRs.shift H hl)
theorem VRs.shift (H : ∀ b y, φ b = some y → ψ (shB d b) = some y) : ∀ {l : List V} {xs : List Value}, VRs φ l xs → VRs ψ (shVs d l) xs := by
  intro l xs h
  cases h with
  | nil => exact .nil
  | cons v x l xs hv ht => exact .cons _ _ _ _ (VR.shift H hv) (VRs.shift H ht)
end
theorem shEs_all2 (H : ∀ b y, φ b = some y → ψ (shB d b) = some y) : ∀ {es : List Ent} {l : List MapEntry}, All2 (EntR φ) es l → All2 (EntR ψ) (shEs d es) l
  | _, _, .nil => .nil
  | _, _, .cons _ _ _ _ h t => .cons _ _ _ _ ⟨h.1, VR.shift H h.2⟩ (shEs_all2 H t)
theorem ObjR.shift (H : ∀ b y, φ b = some y → ψ (shB d b) = some y) {P : Program} {o : Obj} {g : Option Go.Obj} {off sz : Nat} (hr : ObjR P φ o g off sz) : ObjR P ψ (shO d o) g off sz := by
  cases o with
  | cells vs e hi =>
    obtain ⟨c, h1, h2, h3, h4, h5, h6⟩ := hr
    refine ⟨c, h1, h2, by rw [shVs_len]; exact h3, fun i v hv => ?_, h5, h6⟩
    rw [shVs_get] at hv
    cases hx : vs[i]? with
    | none => rw [hx] at hv; cases hv
    | some u =>
      rw [hx] at hv
      cases hv
      obtain ⟨x, k1, k2⟩ := h4 i u hx
      exact ⟨x, k1, VR.shift H k2⟩
  | bytes s l e hi => exact hr
  | map kt es cl =>
    obtain ⟨h0, L, l, h1, h2, h3, h4, h5, h6⟩ := hr
    refine ⟨h0, L, l, h1, h2, shEs_all2 H h3, fun e he => ?_, shEs_pw h5, h6⟩
    obtain ⟨e', k1, k2⟩ := shEs_mem he
    rw [← k2]; exact h4 e' k1
  | _ => trivial
end shift
theorem shVs_int {d : Nat} : ∀ {vs : List V}, allL isInt vs = true → shVs d vs = vs
  | [], _ => rfl
  | v :: r, h => by
    simp only [allL] at h
    cases hv : isInt v with
    | false => rw [hv] at h; cases h
    | true =>
      rw [hv] at h
      obtain ⟨k, n, rfl⟩ := isInt_eq hv
      simp only [shVs, shV, shVs_int h]
def mkHp (ts : List Tab) : List (Nat × Obj) → HP
  | [] => tabHp ts
  | x :: r => hset (1000 + x.1) x.2 (mkHp ts r)
def memoHp (d nx : Nat) (hp : HP) : List (Nat × Obj) → HP
  | [] => hp
  | x :: r => hset (nx + x.1) (shO d x.2) (memoHp d nx hp r)
theorem memoPut_eq (d nx : Nat) (hp : HP) : ∀ (l : List (Nat × Obj)) (k : HP → Ans), memoPut d nx hp k l = k (memoHp d nx hp l)
  | [], k => rfl
  | x :: r, k => by
    simp only [memoPut, seqO_eq, hsetK_eq, memoHp, memoPut_eq d nx hp r]
theorem memoRun_eq (M : Memo) (hp : HP) (nx : Nat) : memoRun M hp nx = .ok [⟨shV (nx - 1000) M.v, memoHp (nx - 1000) nx hp M.objs, nx + M.n, .norm, .nil⟩] := by
  simp only [memoRun, seqN_eq, seqV_eq, memoPut_eq]
def Memo.ok (M : Memo) : Bool := grounds M.args && tabsOk M.ts
def MemoOk (P : Program) (f : FuncId) (M : Memo) : Prop := ∀ φ w (args' : Array Value) m, RelH P φ (hget (tabHp M.ts)) w → Base φ 1000 → VRs φ M.args args'.toList →
  CallsIn Fence.wide m P f args' w (retPost P φ (hget (tabHp M.ts)) 1000 w [⟨M.v, mkHp M.ts M.objs, 1000 + M.n, .norm, .nil⟩])
theorem mkHp_old (ts : List Tab) {b : Nat} (hb : b < 1000) : ∀ l, hget (mkHp ts l) b = hget (tabHp ts) b
  | [] => rfl
  | x :: r => by
    rw [mkHp, hget_set_ne _ _ (by omega)]
    exact mkHp_old ts hb r
theorem memoHp_old (d : Nat) {nx : Nat} (hp : HP) {b : Nat} (hb : b < nx) : ∀ l, hget (memoHp d nx hp l) b = hget hp b
  | [] => rfl
  | x :: r => by
    rw [memoHp, hget_set_ne _ _ (by omega)]
    exact memoHp_old d hp hb r
theorem tabHp_new {ts : List Tab} (hk : tabsOk ts = true) {b : Nat} (hb : 1000 ≤ b) : hget (tabHp ts) b = .free := by
  apply Classical.byContradiction
  intro h
  obtain ⟨t, ht, rfl, _⟩ := tab_get h
  have : ∀ {ts : List Tab}, tabsOk ts = true → ∀ t ∈ ts, t.g < 1000 := by
    intro ts
    induction ts with
    | nil => intro _ t h; cases h
    | cons u r ih =>
      intro hk t ht
      simp only [tabsOk, Bool.and_eq_true] at hk
      rcases List.mem_cons.1 ht with rfl | ht
      · exact Nat.le_of_ble_eq_true hk.1.1.1
      · exact ih hk.2 t ht
  have := this hk t ht
  omega
theorem tabs_int {ts : List Tab} (hk : tabsOk ts = true) : ∀ t ∈ ts, t.g < 1000 ∧ allL isInt t.vs = true := by
  induction ts with
  | nil => intro t h; cases h
  | cons u r ih =>
    intro t ht
    simp only [tabsOk, Bool.and_eq_true] at hk
    rcases List.mem_cons.1 ht with rfl | ht
    · exact ⟨Nat.le_of_ble_eq_true hk.1.1.1, hk.1.1.2⟩
    · exact ih hk.2 t ht
theorem memoHp_new {ts : List Tab} (hk : tabsOk ts = true) {d nx : Nat} (hd : nx = 1000 + d) {hp : HP} (hf : ∀ b, nx ≤ b → hget hp b = .free) {b : Nat} (hb : nx ≤ b) : ∀ l, hget (memoHp d nx hp l) b = shO d (hget (mkHp ts l) (b - d))
  | [] => by
    rw [memoHp, mkHp, hf b hb, tabHp_new hk (by omega)]; rfl
  | x :: r => by
    rw [memoHp, mkHp, hget_hset, hget_hset, memoHp_new hk hd hf hb r]
    by_cases e : b = nx + x.1
    · rw [if_pos e, if_pos (by omega)]
    · rw [if_neg e, if_neg (by omega)]
theorem shO_plain {d : Nat} {o : Obj} (h : ∃ m since seen last, shO d o = .miter m since seen last) : False := by
  obtain ⟨m, since, seen, last, e⟩ := h
  cases o <;> simp [shO] at e
theorem shO_free {d : Nat} {o : Obj} (h : shO d o ≠ .free) : o ≠ .free := by
  intro e; subst e; exact h rfl
theorem memo_ok {P : Program} {f : FuncId} {M : Memo} (hM : MemoOk P f M) (hs : M.ok = true) {φ : Ph} {w : World} {hp : HP} {nx : Nat} {args' : Array Value} (hR : RelH P φ (hget hp) w) (hb : Base φ nx) (ha : VRs φ M.args args'.toList) (hk : tabsKept M.ts hp = true) (m : Nat) :
    CallsIn Fence.wide m P f args' w (retPost P φ (hget hp) nx w [⟨shV (nx - 1000) M.v, memoHp (nx - 1000) nx hp M.objs, nx + M.n, .norm, .nil⟩]) := by
  simp only [Memo.ok, Bool.and_eq_true] at hs
  obtain ⟨hg, hts⟩ := hs
  obtain ⟨d, hd⟩ : ∃ d, nx = 1000 + d := ⟨nx - 1000, by have := hb.le; omega⟩
  have hd' : nx - 1000 = d := by omega
  rw [hd']
  let φc : Ph := fun b => if b < 1000 then φ b else none
  have hφc : ∀ b y, φc b = some y → b < 1000 ∧ φ b = some y := by
    intro b y h
    simp only [φc] at h
    split at h
    · exact ⟨by assumption, h⟩
    · cases h
  have htab : ∀ b, hget (tabHp M.ts) b ≠ .free → b < 1000 ∧ ∃ vs e, allL isInt vs = true ∧ hget (tabHp M.ts) b = .cells vs e 0 ∧ hget hp b = .cells vs e 0 := by
    intro b h
    obtain ⟨t, ht, rfl, e⟩ := tab_get h
    obtain ⟨h1, h2⟩ := tabs_int hts t ht
    exact ⟨h1, t.vs, t.e, h2, e, beqO_cells (allL_ok hk t ht)⟩
  have hfree : ∀ b, nx ≤ b → hget hp b = .free := by
    intro b h
    apply Classical.byContradiction
    intro hne
    obtain ⟨B, o, s, h1, _⟩ := hR.obj b hne
    rw [hb.fr b h] at h1; cases h1
  have hRc : RelH P φc (hget (tabHp M.ts)) w := by
    refine ⟨fun b h => ?_, fun b b' B o s B' o' s' h h' hne e e' => ?_, fun b m since seen last kt es cl h => ?_⟩
    · obtain ⟨h1, vs, e, h2, h3, h4⟩ := htab b h
      obtain ⟨B, off, sz, k1, k2, k3⟩ := hR.obj b (by rw [h4]; simp)
      refine ⟨B, off, sz, by simp only [φc, if_pos h1]; exact k1, k2, ?_⟩
      rw [h4] at k3
      rw [h3]
      obtain ⟨c, c1, c2, c3, c4, c5, c6⟩ := k3
      refine ⟨c, c1, c2, c3, fun i v hv => ?_, c5, c6⟩
      obtain ⟨x, x1, x2⟩ := c4 i v hv
      obtain ⟨k, n, rfl⟩ := isInt_eq (allL_ok h2 v (List.mem_of_getElem? hv))
      cases x2
      exact ⟨_, x1, .int _ _⟩
    · obtain ⟨_, vs, e1, _, _, h4⟩ := htab b h
      obtain ⟨_, vs', e1', _, _, h4'⟩ := htab b' h'
      exact hR.inj b b' B o s B' o' s' (by rw [h4]; simp) (by rw [h4']; simp) hne (hφc _ _ e).2 (hφc _ _ e').2
    · obtain ⟨_, vs, e1, _, h3, _⟩ := htab b (by rw [h]; simp)
      rw [h3] at h; cases h
  have hbc : Base φc 1000 := ⟨Nat.le_refl _, fun g hg => by
    obtain ⟨sz, h⟩ := hb.gl g hg
    exact ⟨sz, by simp only [φc, if_pos hg]; exact h⟩, fun b h => by simp only [φc]; rw [if_neg (by omega)]⟩
  refine (hM φc w args' m hRc hbc (VRs.ground ha hg)).mono fun e w' hp' => ?_
  cases e with
  | panicked _ => exact hp'.elim
  | outgrown => exact hp'.elim
  | returned v =>
    obtain ⟨r, hr, φ', hv, hR', hS⟩ := hp'
    simp only [List.mem_singleton] at hr
    subst hr
    simp only at hv hR' hS
    let φ'' : Ph := fun b => if b < nx then φ b else φ' (b - d)
    have hold : ∀ b, b < nx → φ'' b = φ b := fun b h => by simp only [φ'', if_pos h]
    have hnew : ∀ b, nx ≤ b → φ'' b = φ' (b - d) := fun b h => by simp only [φ'']; rw [if_neg (by omega)]
    have hgl : ∀ b, b < 1000 → φ' b = φ b := fun b h => by rw [hS.ext b h]; simp only [φc, if_pos h]
    have hsh : ∀ b y, φ' b = some y → φ'' (shB d b) = some y := by
      intro b y h
      unfold shB
      cases hc : Nat.ble 1000 b with
      | false =>
        have : b < 1000 := by
          apply Nat.lt_of_not_le; intro h'; rw [Nat.ble_eq_true_of_le h'] at hc; cases hc
        simp only [cond]
        rw [hold b (by omega), ← hgl b this]; exact h
      | true =>
        have := Nat.le_of_ble_eq_true hc
        simp only [cond]
        rw [hnew _ (by omega), Nat.add_sub_cancel]; exact h
    have hbel : Ex.below φ φ'' := by
      intro b x h
      by_cases hlt : b < nx
      · rw [hold b hlt]; exact h
      · rw [hb.fr b (by omega)] at h; cases h
    have Hold : ∀ b, b < nx → hget (memoHp d nx hp M.objs) b = hget hp b := fun b h => memoHp_old d hp h _
    have Hnew : ∀ b, nx ≤ b → hget (memoHp d nx hp M.objs) b = shO d (hget (mkHp M.ts M.objs) (b - d)) := fun b h => memoHp_new hts hd hfree h _
    have hmk : ∀ b, b < 1000 → hget (mkHp M.ts M.objs) b = hget (tabHp M.ts) b := fun b h => mkHp_old _ h _
    have keep : ∀ b, b < nx → hget hp b ≠ .free → hget (tabHp M.ts) b = .free → ∀ B o s, φ b = some (B, o, s) → B < w.heap.size → w'.heap[B]? = w.heap[B]? := by
      intro b hlt hne hnt B o s hφ hB
      refine hS.keep B hB fun b' B' o' s' h1 h2 => ?_
      obtain ⟨_, vs, e, _, _, h4⟩ := htab b' h1
      refine hR.inj b' b B' o' s' B o s (by rw [h4]; simp) hne (fun e => ?_) (hφc _ _ h2).2 hφ
      subst e; exact h1 hnt
    have newB : ∀ b, nx ≤ b → hget (mkHp M.ts M.objs) (b - d) ≠ .free → ∀ B o s, φ' (b - d) = some (B, o, s) → w.heap.size ≤ B := by
      intro b hle hne B o s hφ
      rcases hS.own (b - d) B o s hne hφ with ⟨b0, o0, s0, h1, h2⟩ | h
      · obtain ⟨hl, vs, e, _, h3, h4⟩ := htab b0 h1
        have h5 : φ' b0 = some (B, o0, s0) := by rw [hS.ext b0 hl]; exact h2
        exact absurd rfl (hR'.inj b0 (b - d) B o0 s0 B o s (by rw [hmk b0 hl]; exact h1) hne (by omega) h5 hφ)
      · exact h
    refine ⟨_, List.mem_singleton.2 rfl, φ'', VR.shift hsh hv, ⟨fun b hne => ?_, fun b b' B o s B' o' s' hne hne' hbb e e' => ?_, fun b m since seen last kt es cl hbi hbm => ?_⟩, ?_⟩
    · simp only at hne ⊢
      by_cases hlt : b < nx
      · rw [Hold b hlt] at hne ⊢
        obtain ⟨B, off, sz, k1, k2, k3⟩ := hR.obj b hne
        refine ⟨B, off, sz, by rw [hold b hlt]; exact k1, Nat.lt_of_lt_of_le k2 hS.size, ?_⟩
        by_cases ht : hget (tabHp M.ts) b = .free
        · rw [keep b hlt hne ht B off sz k1 k2]
          exact k3.mono hbel
        · obtain ⟨hl, vs, e, h2, h3, h4⟩ := htab b ht
          obtain ⟨B', off', sz', j1, j2, j3⟩ := hR'.obj b (by rw [hmk b hl]; exact ht)
          rw [hgl b hl, k1] at j1
          cases j1
          rw [hmk b hl, h3] at j3
          have := ObjR.shift hsh j3
          simp only [shO, shVs_int h2] at this
          rw [h4]; exact this
      · have hle : nx ≤ b := by omega
        rw [Hnew b hle] at hne ⊢
        obtain ⟨B, off, sz, k1, k2, k3⟩ := hR'.obj (b - d) (shO_free hne)
        exact ⟨B, off, sz, by rw [hnew b hle]; exact k1, k2, ObjR.shift hsh k3⟩
    · simp only at hne hne'
      by_cases hlt : b < nx <;> by_cases hlt' : b' < nx
      · rw [Hold b hlt] at hne
        rw [Hold b' hlt'] at hne'
        rw [hold b hlt] at e
        rw [hold b' hlt'] at e'
        exact hR.inj b b' B o s B' o' s' hne hne' hbb e e'
      · have hle' : nx ≤ b' := by omega
        rw [Hold b hlt] at hne
        rw [Hnew b' hle'] at hne'
        rw [hold b hlt] at e
        rw [hnew b' hle'] at e'
        obtain ⟨B1, _, _, k1, k2, _⟩ := hR.obj b hne
        rw [e] at k1; cases k1
        have := newB b' hle' (shO_free hne') B' o' s' e'
        omega
      · have hle : nx ≤ b := by omega
        rw [Hold b' hlt'] at hne'
        rw [Hnew b hle] at hne
        rw [hold b' hlt'] at e'
        rw [hnew b hle] at e
        obtain ⟨B1, _, _, k1, k2, _⟩ := hR.obj b' hne'
        rw [e'] at k1; cases k1
        have := newB b hle (shO_free hne) B o s e
        omega
      · have hle : nx ≤ b := by omega
        have hle' : nx ≤ b' := by omega
        rw [Hnew b hle] at hne
        rw [Hnew b' hle'] at hne'
        rw [hnew b hle] at e
        rw [hnew b' hle'] at e'
        exact hR'.inj (b - d) (b' - d) B o s B' o' s' (shO_free hne) (shO_free hne') (by omega) e e'
    · intro B o s N o' s' R L seen' e e' g1 g2
      simp only at hbi hbm
      by_cases hlt : b < nx
      · rw [Hold b hlt] at hbi
        rw [hold b hlt] at e
        obtain ⟨B1, off1, sz1, k1, k2, k3⟩ := hR.obj b (by rw [hbi]; simp)
        rw [e] at k1; cases k1
        rw [hbi] at k3
        obtain ⟨_, _, _, _, R1, sz2, q1, _⟩ := k3
        have hm : m < nx := by
          apply Nat.lt_of_not_le; intro h; rw [hb.fr m h] at q1; cases q1
        rw [Hold m hm] at hbm
        rw [hold m hm] at e'
        obtain ⟨N1, off2, sz3, l1, l2, l3⟩ := hR.obj m (by rw [hbm]; simp)
        rw [e'] at l1; cases l1
        have t1 : hget (tabHp M.ts) b = .free := by
          apply Classical.byContradiction; intro h
          obtain ⟨_, vs, e, _, _, h4⟩ := htab b h
          rw [h4] at hbi; cases hbi
        have t2 : hget (tabHp M.ts) m = .free := by
          apply Classical.byContradiction; intro h
          obtain ⟨_, vs, e, _, _, h4⟩ := htab m h
          rw [h4] at hbm; cases hbm
        rw [keep b hlt (by rw [hbi]; simp) t1 B o s e k2] at g1
        rw [keep m hm (by rw [hbm]; simp) t2 N o' s' e' l2] at g2
        exact hR.iter b m since seen last kt es cl hbi hbm B o s N o' s' R L seen' e e' g1 g2
      · rw [Hnew b (by omega)] at hbi
        exact (shO_plain ⟨_, _, _, _, hbi⟩).elim
    · refine ⟨by simp only; omega, fun b h => hold b h, fun _ b h => ?_, hS.size, fun B hB h => hS.keep B hB fun b' B' o' s' h1 h2 => ?_, hS.loops, fun b B o s h1 h2 => ?_, hS.os, hS.tape, hS.output, fun q h1 => ?_, fun b q h1 => ?_⟩
      · simp only at h
        rw [hnew b (by omega)]
        exact hS.fresh hbc.fr _ (by omega)
      · obtain ⟨_, vs, e, _, _, h4⟩ := htab b' h1
        exact h b' B' o' s' (by rw [h4]; simp) (hφc _ _ h2).2
      · simp only at h1
        by_cases hlt : b < nx
        · rw [Hold b hlt] at h1
          rw [hold b hlt] at h2
          exact .inl ⟨b, o, s, h1, h2⟩
        · rw [Hnew b (by omega)] at h1
          rw [hnew b (by omega)] at h2
          exact .inr (newB b (by omega) (shO_free h1) B o s h2)
      · simp only at h1
        by_cases hlt : q < nx
        · rw [Hold q hlt] at h1; exact .inl h1
        · exact .inr (by omega)
      · simp only at h1
        by_cases hlt : b < nx
        · rw [Hold b hlt] at h1; exact .inl ⟨b, h1⟩
        · rw [Hnew b (by omega)] at h1
          obtain ⟨_, _, _, h⟩ := h1
          exact (shO_plain ⟨_, _, _, _, h⟩).elim
def mkX (ts : List Tab) : List (Nat × Obj) → HP
  | [] => tabHp ts
  | x :: r => hset x.1 x.2 (mkX ts r)
def keepX (hp base : HP) : List Nat → HP
  | [] => base
  | b :: r => hset b (hget hp b) (keepX hp base r)
theorem putTs_eq (k : HP → Ans) : ∀ (l : List Tab), putTs l .l k = k (tabHp l)
  | [] => rfl
  | t :: r => by simp only [putTs, tabHp, seqO_eq, hsetK_eq, putTs_eq _ r]
theorem putL1_eq (ts : List Tab) : ∀ (l : List (Nat × Obj)) (k : HP → Ans), putL1 l (tabHp ts) k = k (mkX ts l)
  | [], k => rfl
  | x :: r, k => by simp only [putL1, mkX, seqO_eq, hsetK_eq, putL1_eq ts r]
theorem putKs_eq (hp base : HP) : ∀ (l : List Nat) (k : HP → Ans), putKs l hp base k = k (keepX hp base l)
  | [], k => rfl
  | b :: r, k => by simp only [putKs, keepX, seqO_eq, hsetK_eq, putKs_eq hp base r]
theorem xRun_eq (M : MemoX) (hp : HP) : xRun M hp = .ok [⟨M.v, keepX hp (mkX M.ts M.post) M.keep, M.nx2, .norm, .nil⟩] := by
  simp only [xRun, putTs_eq, putL1_eq, putKs_eq, seqV_eq]
def inX (b : Nat) : List (Nat × Obj) → Bool
  | [] => false
  | x :: r => bif Nat.beq b x.1 then true else inX b r
def MemoX.ok (M : MemoX) : Bool := tabsOk M.ts && allL (fun x => !(isMi x.2)) M.post && allL (fun b => Nat.ble 1000 b && Nat.ble (b + 1) M.nx && !(inX b M.pre)) M.keep
def MemoXOk (P : Program) (f : FuncId) (M : MemoX) : Prop := ∀ φ w (args' : Array Value) m, RelH P φ (hget (mkX M.ts M.pre)) w → Base φ M.nx → VRs φ M.args args'.toList →
  CallsIn Fence.wide m P f args' w (retPost P φ (hget (mkX M.ts M.pre)) M.nx w [⟨M.v, mkX M.ts M.post, M.nx2, .norm, .nil⟩])
theorem mkX_out (ts : List Tab) {b : Nat} : ∀ {l : List (Nat × Obj)}, inX b l = false → hget (mkX ts l) b = hget (tabHp ts) b
  | [], _ => rfl
  | x :: r, h => by
    simp only [inX] at h
    cases h1 : Nat.beq b x.1 with
    | true => rw [h1] at h; cases h
    | false =>
      rw [h1] at h
      have hne : b ≠ x.1 := fun e => by rw [e, Nat.beq_refl] at h1; cases h1
      rw [mkX, hget_set_ne _ _ hne, mkX_out ts h]
theorem mkX_le {P : Program} {φ : Ph} {hp : HP} {w : World} (hR : RelH P φ (hget hp) w) {ts : List Tab} (hk : tabsKept ts hp = true) : ∀ l : List (Nat × Obj), allL (fun x => beqO x.2 (hget hp x.1)) l = true → Le (hget (mkX ts l)) (hget hp)
  | [], _ => fun b hb => by
    obtain ⟨t, ht, rfl, e⟩ := tab_get hb
    have := beqO_cells (allL_ok hk t ht)
    exact .inl (by rw [mkX, e, this])
  | x :: r, h => fun b hb => by
    have h1 := allL_ok h x (List.mem_cons_self ..)
    have h2 : allL (fun x => beqO x.2 (hget hp x.1)) r = true := by
      simp only [allL] at h
      cases hx : beqO x.2 (hget hp x.1) with
      | false => rw [hx] at h; cases h
      | true => rw [hx] at h; exact h
    rw [mkX] at hb ⊢
    by_cases e : b = x.1
    · subst e
      rw [hget_set_same]
      exact beqO_le hR h1
    · rw [hget_set_ne _ _ e] at hb ⊢
      exact mkX_le hR hk r h2 b hb
theorem mkX_mi (ts : List Tab) (b : Nat) : ∀ {l : List (Nat × Obj)}, allL (fun x => !(isMi x.2)) l = true → isMi (hget (mkX ts l) b) = false
  | [], _ => by
    rw [mkX]
    by_cases h : hget (tabHp ts) b = .free
    · rw [h]; rfl
    · obtain ⟨t, _, _, e⟩ := tab_get h
      rw [e]; rfl
  | x :: r, h => by
    have h1 := allL_ok h x (List.mem_cons_self ..)
    have h2 : allL (fun x : Nat × Obj => !(isMi x.2)) r = true := by
      simp only [allL] at h
      cases hx : (!(isMi x.2)) with
      | false => rw [hx] at h; cases h
      | true => rw [hx] at h; exact h
    rw [mkX]
    by_cases e : b = x.1
    · subst e
      rw [hget_set_same]
      simpa using h1
    · rw [hget_set_ne _ _ e]; exact mkX_mi ts b h2
theorem keepX_in (hp base : HP) {b : Nat} : ∀ {l : List Nat}, b ∈ l → hget (keepX hp base l) b = hget hp b
  | [], h => by cases h
  | c :: r, h => by
    rw [keepX]
    by_cases e : b = c
    · subst e; rw [hget_set_same]
    · rw [hget_set_ne _ _ e]
      rcases List.mem_cons.1 h with h | h
      · exact absurd h e
      · exact keepX_in hp base h
theorem keepX_out (hp base : HP) {b : Nat} : ∀ {l : List Nat}, b ∉ l → hget (keepX hp base l) b = hget base b
  | [], _ => rfl
  | c :: r, h => by
    rw [keepX, hget_set_ne _ _ (fun e => h (by rw [e]; exact List.mem_cons_self ..))]
    exact keepX_out hp base fun h' => h (List.mem_cons_of_mem _ h')
theorem memoX_ok {P : Program} {f : FuncId} {M : MemoX} (hM : MemoXOk P f M) (hs : M.ok = true) {φ : Ph} {w : World} {hp : HP} {args' : Array Value} (hR : RelH P φ (hget hp) w) (hb : Base φ M.nx) (ha : VRs φ M.args args'.toList)
    (hk : tabsKept M.ts hp = true) (hpre : allL (fun x => beqO x.2 (hget hp x.1)) M.pre = true) (hkeep : allL (fun b => !(isMi (hget hp b))) M.keep = true) (m : Nat) :
    CallsIn Fence.wide m P f args' w (retPost P φ (hget hp) M.nx w [⟨M.v, keepX hp (mkX M.ts M.post) M.keep, M.nx2, .norm, .nil⟩]) := by
  simp only [MemoX.ok, Bool.and_eq_true] at hs
  obtain ⟨⟨hts, hpost⟩, hks⟩ := hs
  have hle := mkX_le hR hk M.pre hpre
  refine (hM φ w args' m (hR.le hle) hb ha).mono fun e w' hp' => ?_
  cases e with
  | panicked _ => exact hp'.elim
  | outgrown => exact hp'.elim
  | returned v =>
    obtain ⟨r, hr, φ', hv, hR', hS⟩ := hp'
    simp only [List.mem_singleton] at hr
    subst hr
    simp only at hv hR' hS
    have hbel : Ex.below φ φ' := hb.below hS
    have kfact : ∀ b ∈ M.keep, b < M.nx ∧ hget (mkX M.ts M.pre) b = .free := by
      intro b h
      have := allL_ok hks b h
      simp only [Bool.and_eq_true, Bool.not_eq_true'] at this
      obtain ⟨⟨h1, h2⟩, h3⟩ := this
      exact ⟨Nat.le_of_ble_eq_true h2, by rw [mkX_out _ h3]; exact tabHp_new hts (Nat.le_of_ble_eq_true h1)⟩
    have Hin : ∀ b ∈ M.keep, hget (keepX hp (mkX M.ts M.post) M.keep) b = hget hp b := fun b h => keepX_in _ _ h
    have Hout : ∀ b, b ∉ M.keep → hget (keepX hp (mkX M.ts M.post) M.keep) b = hget (mkX M.ts M.post) b := fun b h => keepX_out _ _ h
    have nomi : ∀ b, isMi (hget (keepX hp (mkX M.ts M.post) M.keep) b) = false := by
      intro b
      by_cases h : b ∈ M.keep
      · rw [Hin b h]; simpa using allL_ok hkeep b h
      · rw [Hout b h]; exact mkX_mi _ _ hpost
    have inB : ∀ b, hget (mkX M.ts M.post) b ≠ .free → ∀ B o s, φ' b = some (B, o, s) → ∀ b1 ∈ M.keep, hget hp b1 ≠ .free → ∀ B1 o1 s1, φ b1 = some (B1, o1, s1) → B1 ≠ B := by
      intro b hne B o s hφ b1 hb1 hne1 B1 o1 s1 hφ1 e
      subst e
      rcases hS.own b B1 o s hne hφ with ⟨b0, o0, s0, h1, h2⟩ | h
      · have := (kfact b1 hb1).2
        refine absurd rfl (hR.inj b1 b0 B1 o1 s1 B1 o0 s0 hne1 (hle.ne h1) (fun e => ?_) hφ1 h2)
        rw [← e] at h1; exact h1 this
      · obtain ⟨B2, _, _, k1, k2, _⟩ := hR.obj b1 hne1
        rw [hφ1] at k1; cases k1
        omega
    refine ⟨_, List.mem_singleton.2 rfl, φ', hv, ⟨fun b hne => ?_, fun b b' B o s B' o' s' hne hne' hbb e e' => ?_, fun b m since seen last kt es cl hbi _ => ?_⟩, ?_⟩
    · simp only at hne ⊢
      by_cases h : b ∈ M.keep
      · rw [Hin b h] at hne ⊢
        obtain ⟨hlt, hfr⟩ := kfact b h
        obtain ⟨B, off, sz, k1, k2, k3⟩ := hR.obj b hne
        refine ⟨B, off, sz, by rw [hS.ext b hlt]; exact k1, Nat.lt_of_lt_of_le k2 hS.size, ?_⟩
        rw [hS.keep B k2 fun b' B' o' s' h1 h2 => hR.inj b' b B' o' s' B off sz (hle.ne h1) hne (fun e => by subst e; exact h1 hfr) h2 k1]
        exact k3.mono hbel
      · rw [Hout b h] at hne ⊢
        exact hR'.obj b hne
    · simp only at hne hne'
      by_cases h : b ∈ M.keep <;> by_cases h' : b' ∈ M.keep
      · rw [Hin b h] at hne
        rw [Hin b' h'] at hne'
        rw [hS.ext b (kfact b h).1] at e
        rw [hS.ext b' (kfact b' h').1] at e'
        exact hR.inj b b' B o s B' o' s' hne hne' hbb e e'
      · rw [Hin b h] at hne
        rw [Hout b' h'] at hne'
        rw [hS.ext b (kfact b h).1] at e
        exact inB b' hne' B' o' s' e' b h hne B o s e
      · rw [Hout b h] at hne
        rw [Hin b' h'] at hne'
        rw [hS.ext b' (kfact b' h').1] at e'
        exact fun e1 => inB b hne B o s e b' h' hne' B' o' s' e' e1.symm
      · rw [Hout b h] at hne
        rw [Hout b' h'] at hne'
        exact hR'.inj b b' B o s B' o' s' hne hne' hbb e e'
    · have := nomi b
      simp only at hbi
      rw [hbi] at this; cases this
    · refine ⟨hS.le, hS.ext, hS.fresh, hS.size, fun B hB h => hS.keep B hB fun b' B' o' s' h1 h2 => h b' B' o' s' (hle.ne h1) h2, hS.loops, fun b B o s h1 h2 => ?_, hS.os, hS.tape, hS.output, fun q h1 => ?_, fun b q h1 => ?_⟩
      · simp only at h1
        by_cases h : b ∈ M.keep
        · rw [Hin b h] at h1
          rw [hS.ext b (kfact b h).1] at h2
          exact .inl ⟨b, o, s, h1, h2⟩
        · rw [Hout b h] at h1
          rcases hS.own b B o s h1 h2 with ⟨b0, o0, s0, k1, k2⟩ | k
          · exact .inl ⟨b0, o0, s0, hle.ne k1, k2⟩
          · exact .inr k
      · simp only at h1
        by_cases h : q ∈ M.keep
        · rw [Hin q h] at h1; exact .inl h1
        · rw [Hout q h] at h1
          rcases hS.nf q h1 with k | k
          · exact .inl (hle.ne k)
          · exact .inr k
      · obtain ⟨_, _, _, h2⟩ := h1
        have := nomi b
        simp only at h2
        rw [h2] at this; cases this
def MemosOk (C : Cfg) : Prop := (∀ f, ∀ M ∈ C.memo f, M.ok = true ∧ MemoOk C.P f M) ∧ ∀ f, ∀ M ∈ C.exact f, M.ok = true ∧ MemoXOk C.P f M
theorem memoFind_ok {args : List V} {hp : HP} : ∀ {l : List Memo} {M : Memo}, memoFind args hp l = some M → M ∈ l ∧ args = M.args ∧ tabsKept M.ts hp = true
  | [], M, h => by simp [memoFind] at h
  | N :: r, M, h => by
    simp only [memoFind] at h
    cases h1 : beqVs args N.args with
    | false => rw [h1] at h; obtain ⟨a, b⟩ := memoFind_ok h; exact ⟨List.mem_cons_of_mem _ a, b⟩
    | true =>
      rw [h1] at h
      cases h2 : tabsKept N.ts hp with
      | false => rw [h2] at h; obtain ⟨a, b⟩ := memoFind_ok h; exact ⟨List.mem_cons_of_mem _ a, b⟩
      | true => rw [h2] at h; cases h; exact ⟨List.mem_cons_self .., beqVs_eq h1, h2⟩
theorem xFind_ok {args : List V} {hp : HP} {nx : Nat} : ∀ {l : List MemoX} {M : MemoX}, xFind args hp nx l = some M → M ∈ l ∧ xFits M args hp nx = true
  | [], M, h => by simp [xFind] at h
  | N :: r, M, h => by
    simp only [xFind] at h
    cases h1 : xFits N args hp nx with
    | false => rw [h1] at h; obtain ⟨a, b⟩ := xFind_ok h; exact ⟨List.mem_cons_of_mem _ a, b⟩
    | true => rw [h1] at h; cases h; exact ⟨List.mem_cons_self .., h1⟩
theorem xFits_ok {M : MemoX} {args : List V} {hp : HP} {nx : Nat} (h : xFits M args hp nx = true) : nx = M.nx ∧ args = M.args ∧ tabsKept M.ts hp = true ∧ allL (fun x => beqO x.2 (hget hp x.1)) M.pre = true ∧ allL (fun b => !(isMi (hget hp b))) M.keep = true := by
  unfold xFits at h
  cases h1 : Nat.beq nx M.nx with
  | false => rw [h1] at h; cases h
  | true =>
    rw [h1] at h
    cases h2 : beqVs args M.args with
    | false => rw [h2] at h; cases h
    | true =>
      rw [h2] at h
      cases h3 : tabsKept M.ts hp with
      | false => rw [h3] at h; cases h
      | true =>
        rw [h3] at h
        cases h4 : allL (fun x => beqO x.2 (hget hp x.1)) M.pre with
        | false => rw [h4] at h; cases h
        | true =>
          rw [h4] at h
          exact ⟨Nat.eq_of_beq_eq_true h1, beqVs_eq h2, rfl, rfl, h⟩
theorem callK_ok {C : Cfg} (hC : MemosOk C) {e : evT} (hev : EvOk C e) {L : List LoopS} {g : FuncId} {args : List V} {hp : HP} {nx : Nat} {l : List Fin} (h : callK C e L g args hp nx = .ok l) {φ : Ph} {w : World} {args' : Array Value}
    (hR : RelH C.P φ (hget hp) w) (hb : Base φ nx) (hL : LR L φ w) (ha : VRs φ args args'.toList) (m : Nat) : CallsIn Fence.wide m C.P g args' w (retPost C.P φ (hget hp) nx w l) := by
  unfold callK at h
  cases hf : memoFind args hp (C.memo g) with
  | none =>
    rw [hf] at h
    cases hx : xFind args hp nx (C.exact g) with
    | none => rw [hx] at h; exact callF_ok hev h hR hb hL ha m
    | some M =>
      rw [hx] at h
      simp only [xRun_eq, Ans.ok.injEq] at h
      subst h
      obtain ⟨h1, h2⟩ := xFind_ok hx
      obtain ⟨rfl, rfl, h3, h4, h5⟩ := xFits_ok h2
      obtain ⟨k1, k2⟩ := hC.2 g M h1
      exact memoX_ok k2 k1 hR hb ha h3 h4 h5 m
  | some M =>
    rw [hf] at h
    simp only [memoRun_eq, Ans.ok.injEq] at h
    subst h
    obtain ⟨h1, rfl, h2⟩ := memoFind_ok hf
    obtain ⟨k1, k2⟩ := hC.1 g M h1
    exact memo_ok k2 k1 hR hb ha h2 m
theorem gokK {C : Cfg} (hC : MemosOk C) {e : evT} (hev : EvOk C e) (L : List LoopS) : GOk C.P ⟨callK C e L, roundF e L⟩ (LR L) where
  mono := (gok hev L).mono
  call := fun _ _ _ _ _ h _ _ _ hR hb hL ha m => callK_ok hC hev h hR hb hL ha m
  round := (gok hev L).round
theorem noMemos {C : Cfg} (h : C.memo = fun _ => []) (h2 : C.exact = fun _ => []) : MemosOk C := ⟨fun f M hM => (by rw [h] at hM; cases hM), fun f M hM => (by rw [h2] at hM; cases hM)⟩
end Go.X

namespace Go.X
/-! ## Scopes -/
section
variable {P : Program} {b : Frame} {a : Act} {k : List Item} {cs : List Frame} {w : World}
theorem stepR_scope {c : Code} : step P (lone (b.atR a (.code (.scope c) :: k)) cs w) = .next (lone (b.atR a (.code c :: .inScope c :: k)) cs w) :=
  step_lone_go (by simp [stepG, stepG.exec, Frame.atR])
theorem stepR_inScope {c : Code} : step P (lone (b.atR a (.inScope c :: k)) cs w) = .next (lone (b.atR a k) cs w) :=
  step_lone_go (by simp [stepG, stepG.exec, Frame.atR])
end
section
variable {F : Fence} {n : Nat} {P : Program} {Q : Exit → Act → World → Prop} {a : Act} {w : World}
def scopeQ (F : Fence) (n : Nat) (P : Program) (body : Code) (Q : Exit → Act → World → Prop) : Exit → Act → World → Prop
  | .goto l, a, w => (match findLabel body l with | some r => ScopedWp F n P body r Q a w | none => Q (.goto l) a w)
  | e, a, w => Q e a w
theorem scoped_of {body c : Code} (h : c.wpIn F n P (scopeQ F n P body Q) a w) : ScopedWp F n P body c Q a w := by
  intro b k cs hro hb hr
  obtain ⟨e, a', w', q, harr⟩ := h b (.inScope body :: k) cs hro hb hr
  cases e with
  | normal => exact ⟨.normal, a', w', q, StepsIn.trans harr (.one (fenced_calm hb hr rfl) stepR_inScope)⟩
  | exit id => exact ⟨.exit id, a', w', q, ⟨fun k' hk => harr.1 k' (by simpa [exitTo] using hk), fun hr' hk => harr.2 hr' (by simpa [exitTo] using hk)⟩⟩
  | goto l =>
    simp only [scopeQ] at q
    cases hf : findLabel body l with
    | none =>
      rw [hf] at q
      exact ⟨.goto l, a', w', q, ⟨fun k' hk => harr.1 k' (by simpa [gotoIn, hf] using hk), fun hr' hk => harr.2 hr' (by simpa [gotoIn, hf] using hk)⟩⟩
    | some r =>
      rw [hf] at q
      obtain ⟨e2, a2, w2, q2, harr2⟩ := q b k cs hro hb hr
      exact ⟨e2, a2, w2, q2, .of_steps (harr.1 _ (by simp [gotoIn, hf])) harr2⟩
  | ret => exact ⟨.ret, a', w', q, harr⟩
  | panic ch => exact ⟨.panic ch, a', w', q, harr⟩
  | outgrown => exact ⟨.outgrown, a', w', q, harr⟩
theorem wpIn_scope' {body : Code} (h : ScopedWp F n P body body Q a w) : (Code.scope body).wpIn F n P Q a w := by
  intro b k cs hro hb hr
  obtain ⟨e, a', w', q, harr⟩ := h b k cs hro hb hr
  exact ⟨e, a', w', q, .of_steps (.one (fenced_calm hb hr rfl) stepR_scope) harr⟩
end
/-! ## A range over a function -/
section
variable {C : Cfg} {e : evT} {L : List LoopS} {fc : FC} {hp1 : HP} {nx : Nat} {l : List Fin} {φ1 : Ph} {w1 : World} {a : Act} {ro : Option Nat} {Q : Exit → Act → World → Prop} {m : Nat}
theorem enter_rest (hC : CfgOk C) (hev : EvOk C e) {g : Operand} {ps : Array Tmp} {asg body : Code} {env : EF} {k : Ex → St → Ans} {marks : List Nat} {df' : List Deferred} {Bl sz : Nat} {qr : Loop}
    (h : (match rdS (opdSrc fc.msk [] g) [] env with
      | .fn (.func q) cap => one (callF C e (⟨nx, fc.fid, fc.N, fc.msk, env, ps.toList, asg, body⟩ :: L) q (.fn (.yield nx) [] :: cap) hp1 (nx + 1)) fun r => endLoop nx r env marks k
      | _ => .stuck "range: value") = .ok l)
    (hR : RelH C.P φ1 (hget hp1) w1) (hb : Base φ1 (nx + 1)) (hE : EnvR φ1 fc.msk fc.N env a.tmps) (hL : LR L φ1 w1) (hφ : φ1 nx = some (Bl, 0, sz)) (hg : w1.heap[Bl]? = some (.loop qr))
    (t1 : qr.tmps = a.tmps) (t2 : qr.params = ps) (t3 : qr.assign = asg) (t4 : qr.body = body) (hm : All2 (MarkR φ1) marks df') (har : AroundR φ1 ro fc.around)
    (hK : ∀ ex st' l', k ex st' = .ok l' → (∀ r ∈ l', r ∈ l) → ∀ φ' a' w', StR C.P fc φ' st' a' w' ro → Stp φ1 (hget hp1) (nx + 1) w1 φ' (hget st'.hp) st'.nx w' → Q (exitOf ex) a' w') :
    ∃ (d : Deferred) (w₁' : World) (f : FuncId) (args : Array Value) (w₂ : World), (resolve a.eval (rangeCall g Bl) 0).run C.P w1 = .ok d w₁' ∧ (∀ f', Target.leads C.P w₁' d.target d.args = some f' → (Fr ro).fn f') ∧
      (invoke d.target d.args).run C.P w₁' = .ok (.enter f args) w₂ ∧ ((Fr ro).depth.isSome = true → 1 ≤ m) ∧
      CallsIn (Fr ro) (m - 1) C.P f args w₂ (rangePost (Fr ro) m C.P Bl Q { a with defers := df' }) := by
  have hgv : VR φ1 (rdS (opdSrc fc.msk [] g) [] env) (a.eval g) := rd_ok hb hE (fun t k _ hk => by simp [locIx] at hk) g
  cases hv : rdS (opdSrc fc.msk [] g) [] env <;> rw [hv] at h <;> (try (simp at h; done))
  rename_i fn cap
  rw [hv] at hgv
  cases fn <;> (try (simp at h; done))
  rename_i q
  simp only at h
  obtain ⟨L0, hL0, g0, hg0, hj⟩ := one_ok (P := C.P) (φ := φ1) (H := hget hp1) (nx := nx + 1) (w := w1) hb.fr h
  generalize hy : a.eval g = y at hgv
  cases hgv with
  | fnF _ _ cs hcs =>
    have hLn : LR (⟨nx, fc.fid, fc.N, fc.msk, env, ps.toList, asg, body⟩ :: L) φ1 w1 := by
      intro lp s hs
      simp only [findLp] at hs
      cases hq : Nat.beq nx lp with
      | true =>
        rw [hq] at hs
        have := Nat.eq_of_beq_eq_true hq
        subst this
        simp only [cond_true, Option.some.injEq] at hs
        subst hs
        exact ⟨Bl, sz, qr, hφ, hg, by rw [t2], t3, t4, by rw [t1]; exact hE⟩
      | false => rw [hq] at hs; exact hL lp s hs
    have hargs : VRs φ1 (.fn (.yield nx) [] :: cap) ((#[Value.func (.yield Bl) #[] #[]] : Array Value) ++ (⟨cs⟩ : Array Value)).toList := by
      simp only [Array.toList_append, List.cons_append, List.nil_append]
      exact .cons _ _ _ _ (.fnY nx Bl sz hφ) hcs
    have hcall := callF_ok hev hL0 hR hb hLn hargs (m - 1)
    have hfn : ∃ fn c, C.P.funcs[q]? = some fn ∧ fn.body = some c := by
      unfold callF at hL0
      split at hL0
      · rename_i fn hf
        split at hL0
        · rename_i c hc; exact ⟨fn, c, hf, hc⟩
        · cases hL0
      · cases hL0
    obtain ⟨fn, c, hf, hbd⟩ := hfn
    refine ⟨{ target := .fn (.func q) ⟨cs⟩, args := #[Value.func (.yield Bl) #[] #[]] }, w1, q, _, w1, ?_, fun _ _ => trivial, ?_, fun h => by simp [Fence.wide] at h, CallsIn.mono (F := Fr ro) hcall ?_⟩
    · have hmap : Array.map a.eval #[Operand.const (Value.func (Fn.yield Bl) #[] #[])] = #[Value.func (Fn.yield Bl) #[] #[]] := by simp [Act.eval]
      simp only [resolve, hy, Deferred.ofValue, Sem.run_pure, hmap]
      rfl
    · simp only [invoke, callFunc, Sem.run_bind, run_program, Result.andThen, hf, hC.num q fn hf, hbd, Bool.false_eq_true, if_false, Option.isNone_some, Sem.run_pure]
    · intro en w3 hp3
      cases en with
      | panicked _ => exact hp3.elim
      | outgrown => exact hp3.elim
      | returned v =>
        obtain ⟨x, hx, ho⟩ := hp3
        obtain ⟨φ3, _, k2, k3⟩ := hj x hx v w3 ho
        unfold endLoop at hg0
        split at hg0
        · rename_i s pend d' hl
          obtain ⟨B3, sz3, r3, e1, e2, e3, e4, _⟩ := loop_of k2 hl
          have hbl := hb.below k3
          have e1' := hbl _ _ hφ
          rw [e1'] at e1; cases e1
          have main : s ≠ .busy → (putH nx (.loop .exhausted pend d') g0.hp fun hp => k pend ⟨env, hp, g0.nx, marks⟩) = .ok l → rangePost (Fr ro) m C.P Bl Q { a with defers := df' } (.returned v) w3 := by
            intro hsb hk
            rw [putH_eq] at hk
            obtain ⟨p1, p2⟩ := loop_put k2 hl e1' e2 .exhausted pend
            have p2 := p2 g0.nx
            have hq' : ({ r3 with state := .exhausted, pending := jumpOf pend } : Loop) = { r3 with state := .exhausted } := by rw [← e4]
            rw [hq', ← hget_set] at p1 p2
            have hb3 := hb.step k3
            have hst : StR C.P fc φ3 ⟨env, hset nx (.loop .exhausted pend d') g0.hp, g0.nx, marks⟩ { a with defers := df' } (World.put w3 Bl (.loop { r3 with state := .exhausted })) ro :=
              ⟨p1, hb3, hE.mono hbl, MarkR.mono hbl hm, har.mono hbl⟩
            have hQ := hK pend _ l hk (fun _ h => h) φ3 _ _ hst (k3.trans p2)
            refine ⟨r3.pending, _, run_endLoop e2 (by rw [e3]; exact hsb), ?_⟩
            rw [e4] at hQ ⊢
            cases pend with
            | norm => exact hQ
            | ret => exact wpIn_ret hQ
            | exit i => exact wpIn_exit hQ
            | goto t => exact wpIn_goto hQ
          cases s with
          | busy => cases hg0
          | ready => exact main (by simp) hg0
          | done => exact main (by simp) hg0
          | exhausted => exact main (by simp) hg0
        · cases hg0
end
end Go.X

namespace Go.X
/-- frames joined level by level -/
structure Je (α : Type) (g : α → List D8 → V) (j : α → α → α) : Prop where
  ok : ∀ a b p, g (j a b) p = .junk ∨ (g (j a b) p = g a p ∧ g (j a b) p = g b p)
theorem Je.up {α : Type} {g : α → List D8 → V} {j : α → α → α} (h : Je α g j) : Je (E8 α) (gl .junk g) (jl j) where
  ok := fun a b p => by
    cases p with
    | nil => exact .inl rfl
    | cons d r =>
      cases a with
      | nil => cases b <;> cases d <;> exact .inl rfl
      | mk a0 a1 a2 a3 a4 a5 a6 a7 => cases b with
        | nil => cases d <;> exact .inl rfl
        | mk b0 b1 b2 b3 b4 b5 b6 b7 => cases d <;> exact h.ok _ _ _
theorem jeV : Je V (fun v _ => v) joinV where
  ok := fun a b p => by
    simp only [joinV]
    cases h : beqV a b with
    | true => exact .inr ⟨rfl, beqV_eq h⟩
    | false => exact .inl rfl
theorem joinE_get (i : Nat) (s t : EF) : fget i (joinE s t) = .junk ∨ (fget i (joinE s t) = fget i s ∧ fget i (joinE s t) = fget i t) := jeV.up.up.ok s t (dg 2 i)
/-- g knows no more than r -/
structure Wk (g r : Fin) : Prop where
  ex : g.ex = r.ex
  nx : r.nx ≤ g.nx
  env : ∀ (φ : Ph) (msk : List Nat) (N : Nat) (tm : Array Value), EnvR φ msk N r.env tm → EnvR φ msk N g.env tm
  hp : ∀ (P : Program) φ w, RelH P φ (hget r.hp) w → Le (hget g.hp) (hget r.hp)
theorem Wk.refl (r : Fin) : Wk r r := ⟨rfl, Nat.le_refl _, fun _ _ _ _ h => h, fun _ _ _ _ => (sub_refl _).le⟩
theorem Wk.trans {a b c : Fin} (h : Wk a b) (k : Wk b c) : Wk a c :=
  ⟨h.ex.trans k.ex, Nat.le_trans k.nx h.nx, fun φ m N tm he => h.env φ m N tm (k.env φ m N tm he), fun P φ w hR => (h.hp P φ w (hR.le (k.hp P φ w hR))).trans (k.hp P φ w hR)⟩
theorem beqX_eq {a b : Ex} (h : beqX a b = true) : a = b := by
  cases a <;> cases b <;> simp only [beqX] at h <;> (try (cases h; done)) <;> (try rfl) <;> rw [Nat.eq_of_beq_eq_true h]
theorem Wk.left (f g : Fin) : Wk ⟨f.v, joinT f.hp g.hp, Nat.max f.nx g.nx, f.ex, joinE f.env g.env⟩ f :=
  ⟨rfl, Nat.le_max_left _ _, fun φ m N tm h => ⟨h.1, fun t i ht => by
      rcases joinE_get i f.env g.env with e | ⟨e, _⟩
      · simp only [e]; exact .junk _
      · simp only [e]; exact h.2 t i ht⟩, fun _ _ _ _ => joinT_left _ _⟩
theorem Wk.right (f g : Fin) (hx : f.ex = g.ex) : Wk ⟨f.v, joinT f.hp g.hp, Nat.max f.nx g.nx, f.ex, joinE f.env g.env⟩ g :=
  ⟨hx, Nat.le_max_right _ _, fun φ m N tm h => ⟨h.1, fun t i ht => by
      rcases joinE_get i f.env g.env with e | ⟨_, e⟩
      · simp only [e]; exact .junk _
      · simp only [e]; exact h.2 t i ht⟩, fun _ _ _ hR => joinT_right _ _ hR⟩
theorem joinX_ok : ∀ (l : List Fin) (f : Fin) (rest : List Fin) (g : Fin) (rest' : List Fin), joinX l f rest = (g, rest') → Wk g f ∧ (∀ x ∈ l, Wk g x ∨ x ∈ rest') ∧ ∀ x ∈ rest, x ∈ rest'
  | [], f, rest, g, rest', h => by simp only [joinX, Prod.mk.injEq] at h; obtain ⟨rfl, rfl⟩ := h; exact ⟨Wk.refl _, by simp, fun _ h => h⟩
  | y :: r, f, rest, g, rest', h => by
    simp only [joinX] at h
    cases hx : beqX f.ex y.ex with
    | true =>
      rw [hx] at h
      obtain ⟨h1, h2, h3⟩ := joinX_ok r _ rest g rest' h
      refine ⟨h1.trans (Wk.left f y), fun x hxx => ?_, h3⟩
      rcases List.mem_cons.1 hxx with rfl | hxx
      · exact .inl (h1.trans (Wk.right f x (beqX_eq hx)))
      · exact h2 x hxx
    | false =>
      rw [hx] at h
      obtain ⟨h1, h2, h3⟩ := joinX_ok r f (y :: rest) g rest' h
      refine ⟨h1, fun x hxx => ?_, fun x hxx => h3 x (by simp [hxx])⟩
      rcases List.mem_cons.1 hxx with rfl | hxx
      · exact .inr (h3 x (by simp))
      · exact h2 x hxx
theorem outs_ok {k : Fin → Ans} : ∀ (n : Nat) (l L : List Fin), outs k n l = .ok L → ∀ r ∈ l, ∃ g l', k g = .ok l' ∧ (∀ x ∈ l', x ∈ L) ∧ Wk g r
  | 0, l, L, h, _, _ => by simp [outs] at h
  | n + 1, [], L, h, r, hr => by simp at hr
  | n + 1, [f], L, h, r, hr => by
    simp only [outs] at h
    simp at hr; subst hr
    exact ⟨r, L, h, fun _ h => h, Wk.refl _⟩
  | n + 1, f :: y :: t, L, h, r, hr => by
    simp only [outs] at h
    cases hj : joinX (y :: t) f [] with
    | mk g rest =>
      rw [hj] at h
      simp only [] at h
      obtain ⟨h1, h2, _⟩ := joinX_ok _ _ _ _ _ hj
      have cov : Wk g r ∨ r ∈ rest := by
        rcases List.mem_cons.1 hr with rfl | hr
        · exact .inl h1
        · exact h2 r hr
      cases rest with
      | nil =>
        simp only at h
        rcases cov with hc | hc
        · exact ⟨g, L, h, fun _ h => h, hc⟩
        · simp at hc
      | cons x xs =>
        simp only at h
        obtain ⟨l1, l2, k1, k2, k3⟩ := sub_of_app h
        rcases cov with hc | hc
        · exact ⟨g, l1, k1, fun x hx => by rw [k3]; simp [hx], hc⟩
        · obtain ⟨g', l', a1, a2, a3⟩ := outs_ok n (x :: xs) l2 k2 r hc
          exact ⟨g', l', a1, fun x hx => by rw [k3]; simp [a2 x hx], a3⟩
theorem listEq_nat : ∀ {a b : List Nat}, listEq Nat.beq a b = true → a = b
  | [], [], _ => rfl
  | [], _ :: _, h => by simp [listEq] at h
  | _ :: _, [], h => by simp [listEq] at h
  | x :: a, y :: b, h => by
    simp only [listEq] at h
    cases hx : Nat.beq x y with
    | true => rw [hx] at h; rw [Nat.eq_of_beq_eq_true hx, listEq_nat h]
    | false => rw [hx] at h; cases h
theorem upto_ok : ∀ (n : Nat) (acc : List Nat), upto n acc = List.range n ++ acc
  | 0, acc => by simp [upto]
  | n + 1, acc => by rw [upto, upto_ok n, List.range_succ]; simp
section
variable {C : Cfg} {fc : FC} {φ : Ph} {st : St} {w : World} {ro : Option Nat} {l : List Fin} {Q : Exit → Act → World → Prop}
theorem Kont.sub {k : Ex → St → Ans} {l' : List Fin} (h : Kont C.P fc φ st w ro l k Q) (hs : ∀ r ∈ l', r ∈ l) {φ' : Ph} {st' : St} {w' : World} (hst : Stp φ (hget st.hp) st.nx w φ' (hget st'.hp) st'.nx w') : Kont C.P fc φ' st' w' ro l' k Q :=
  fun ex st2 l2 hk hs2 φ2 a2 w2 h2 hst2 => h ex st2 l2 hk (fun r hr => hs r (hs2 r hr)) φ2 a2 w2 h2 (hst.trans hst2)
end
theorem least_of {p : Nat → Prop} (h : ∃ n, p n) : ∃ n, p n ∧ ∀ m, p m → n ≤ m := by
  obtain ⟨n, hn⟩ := h
  induction n using Nat.strongRecOn with
  | _ n ih =>
    by_cases hx : ∃ m, m < n ∧ p m
    · obtain ⟨m, h1, h2⟩ := hx; exact ih m h1 h2
    · exact ⟨n, hn, fun m hm => Nat.le_of_not_lt fun hlt => hx ⟨m, hlt, hm⟩⟩
open Classical in
theorem ev_ok {C : Cfg} (hC : CfgOk C) (hM : MemosOk C) (hm : C.P.follows .mixedOrders = true) : ∀ f, EvOk C (ev C f) := by
  intro f
  induction f using Nat.strongRecOn with
  | _ f ih =>
    intro L fc sc c st k l h φ a w ro Q m hst hL hk
    cases f with
    | zero => simp [ev] at h
    | succ f =>
      have hev : EvOk C (ev C f) := ih f (Nat.lt_succ_self f)
      have hG := gokK hM hev L
      cases sc with
      | some b =>
        simp only [ev] at h
        refine scoped_of ?_
        refine hev L fc none c st _ l h φ a w ro _ m hst hL ?_
        intro ex st1 l1 hk1 hs1 φ1 a1 w1 hst1 hS1
        cases ex with
        | norm => exact hk .norm st1 l1 hk1 hs1 φ1 a1 w1 hst1 hS1
        | ret => exact hk .ret st1 l1 hk1 hs1 φ1 a1 w1 hst1 hS1
        | exit i => exact hk (.exit i) st1 l1 hk1 hs1 φ1 a1 w1 hst1 hS1
        | goto t =>
          simp only at hk1
          show scopeQ _ _ _ _ _ (.goto t) _ _
          unfold scopeQ
          simp only
          cases hf : findLabel b t with
          | none => rw [hf] at hk1; exact hk (.goto t) st1 l1 hk1 hs1 φ1 a1 w1 hst1 hS1
          | some r =>
            rw [hf] at hk1
            exact hev L fc (some b) r st1 k l1 hk1 φ1 a1 w1 ro Q m hst1 (hL.step hst.base hS1) (hk.sub hs1 hS1)
      | none =>
        show c.wpIn (Fr ro) m C.P Q a w
        cases c with
        | skip => simp only [ev] at h; exact wpIn_skip (hk .norm st l h (fun _ h => h) φ a w hst (Stp.refl _ _ _ _))
        | label t => simp only [ev] at h; exact wpIn_label (hk .norm st l h (fun _ h => h) φ a w hst (Stp.refl _ _ _ _))
        | exit id => simp only [ev] at h; exact wpIn_exit (hk (.exit id) st l h (fun _ h => h) φ a w hst (Stp.refl _ _ _ _))
        | goto t => simp only [ev] at h; exact wpIn_goto (hk (.goto t) st l h (fun _ h => h) φ a w hst (Stp.refl _ _ _ _))
        | ret => simp only [ev] at h; exact wpIn_ret (hk .ret st l h (fun _ h => h) φ a w hst (Stp.refl _ _ _ _))
        | refuse s => simp only [ev] at h; cases h
        | scope b =>
          simp only [ev] at h
          exact wpIn_scope' (hev L fc (some b) b st k l h φ a w ro Q m hst hL hk)
        | region id ops draw =>
          simp only [ev] at h
          cases hd : dstsOk fc.N ops with
          | false => rw [hd] at h; cases h
          | true =>
            rw [hd] at h
            simp only [Bool.not_true, cond_false] at h
            have cont : ∀ env' hp' nx' l', k .norm ⟨env', hp', nx', st.marks⟩ = .ok l' → (∀ r ∈ l', r ∈ l) → ∀ φ' (a' : Act) w', RelH C.P φ' (hget hp') w' → Base φ' nx' → EnvR φ' fc.msk fc.N env' a'.tmps → a'.defers = a.defers →
                Stp φ (hget st.hp) st.nx w φ' (hget hp') nx' w' → Q .normal a' w' := by
              intro env' hp' nx' l' hk' hs φ' a' w' hR' hb' he' hdf hS
              have hbl := hst.base.below hS
              exact hk .norm ⟨env', hp', nx', st.marks⟩ l' hk' hs φ' a' w' ⟨hR', hb', he', by rw [hdf]; exact MarkR.mono hbl hst.marks, hst.around.mono hbl⟩ hS
            cases draw with
            | true => exact draw_ok hC hG hm hd h hst.rel hst.base hL hst.env (fun env' hp' nx' l' hk' => cont env' hp' nx' l' hk')
            | false =>
              simp only at h
              refine wpIn_region ?_
              rw [upto_ok, List.append_nil] at h
              exact seqOps_ok hC hG hd (List.range ops.size) [] [] st.env st.hp st.nx _ l (fun i hi => List.mem_range.1 hi) h φ a w hst.rel hst.base hL hst.env (fun t k _ hk => by simp [locIx] at hk)
                (fun loc' env' hp' nx' l' hk' => cont env' hp' nx' l' hk')
        | seq x y =>
          simp only [ev] at h
          refine wpIn_seq ?_
          refine hev L fc none x st _ l h φ a w ro _ m hst hL ?_
          intro ex st1 l1 hk1 hs1 φ1 a1 w1 hst1 hS1
          cases ex with
          | norm => exact hev L fc none y st1 k l1 hk1 φ1 a1 w1 ro Q m hst1 (hL.step hst.base hS1) (hk.sub hs1 hS1)
          | ret => exact hk .ret st1 l1 hk1 hs1 φ1 a1 w1 hst1 hS1
          | exit i => exact hk (.exit i) st1 l1 hk1 hs1 φ1 a1 w1 hst1 hS1
          | goto t => exact hk (.goto t) st1 l1 hk1 hs1 φ1 a1 w1 hst1 hS1
        | cond c x y =>
          simp only [ev] at h
          have hcv : VR φ (rdS (opdSrc fc.msk [] c) [] st.env) (a.eval c) := rd_ok hst.base hst.env (fun t k _ hk => by simp [locIx] at hk) c
          split at h
          · rename_i hv
            rw [hv] at hcv
            refine wpIn_cond_true ?_ (hev L fc none x st k l h φ a w ro Q m hst hL hk)
            generalize hy : a.eval c = v at hcv ⊢
            cases hcv; rfl
          · rename_i hv
            rw [hv] at hcv
            refine wpIn_cond_false ?_ (hev L fc none y st k l h φ a w ro Q m hst hL hk)
            generalize hy : a.eval c = v at hcv ⊢
            cases hcv; rfl
          · cases h
        | block id x =>
          simp only [ev] at h
          refine wpIn_block ?_
          have leave : ∀ ex st1 l1 φ1 a1 w1, exitK id k ex st1 = .ok l1 → (∀ r ∈ l1, r ∈ l) → StR C.P fc φ1 st1 a1 w1 ro → Stp φ (hget st.hp) st.nx w φ1 (hget st1.hp) st1.nx w1 → Exit.inBlock id Q (exitOf ex) a1 w1 := by
            intro ex st1 l1 φ1 a1 w1 hk1 hs1 hst1 hS1
            cases ex with
            | norm => exact hk .norm st1 l1 hk1 hs1 φ1 a1 w1 hst1 hS1
            | ret => exact hk .ret st1 l1 hk1 hs1 φ1 a1 w1 hst1 hS1
            | goto t => exact hk (.goto t) st1 l1 hk1 hs1 φ1 a1 w1 hst1 hS1
            | exit i =>
              simp only [exitK] at hk1
              simp only [exitOf, Exit.inBlock]
              cases hi : Nat.beq i id with
              | true =>
                rw [hi] at hk1
                rw [if_pos (Nat.eq_of_beq_eq_true hi)]
                exact hk .norm st1 l1 hk1 hs1 φ1 a1 w1 hst1 hS1
              | false =>
                rw [hi] at hk1
                rw [if_neg (Nat.ne_of_beq_eq_false hi)]
                exact hk (.exit i) st1 l1 hk1 hs1 φ1 a1 w1 hst1 hS1
          split at h
          · refine hev L fc none x st _ l h φ a w ro _ m hst hL ?_
            intro ex st1 l1 hk1 hs1 φ1 a1 w1 hst1 hS1
            exact leave ex st1 l1 φ1 a1 w1 hk1 hs1 hst1 hS1
          · unfold outsA at h
            split at h
            · cases h
            · rename_i l0 hl0
              refine hev L fc none x st _ l0 hl0 φ a w ro _ m hst hL ?_
              intro ex st1 l1 hk1 hs1 φ1 a1 w1 hst1 hS1
              simp only at hk1
              cases hmk : listEq Nat.beq st1.marks st.marks with
              | false => rw [hmk] at hk1; cases hk1
              | true =>
                rw [hmk] at hk1
                simp only [cond_true, Ans.ok.injEq] at hk1
                subst hk1
                have hmk := listEq_nat hmk
                obtain ⟨g, l', hg, hsub, hw⟩ := outs_ok 10 l0 l h _ (hs1 _ (List.mem_singleton.2 rfl))
                have hle := hw.hp C.P φ1 w1 hst1.rel
                have hst' : StR C.P fc φ1 ⟨g.env, g.hp, g.nx, st.marks⟩ a1 w1 ro :=
                  ⟨hst1.rel.le hle, ⟨Nat.le_trans hst1.base.le hw.nx, hst1.base.gl, fun b hb => hst1.base.fr b (Nat.le_trans hw.nx hb)⟩, hw.env _ _ _ _ hst1.env, by rw [← hmk]; exact hst1.marks, hst1.around⟩
                have hS' : Stp φ (hget st.hp) st.nx w φ1 (hget g.hp) g.nx w1 := (hS1.leS hle).more hw.nx
                have hex : g.ex = ex := hw.ex
                refine leave ex ⟨g.env, g.hp, g.nx, st.marks⟩ l' φ1 a1 w1 ?_ hsub hst' hS'
                rw [← hg, ← hex]
                unfold outK exitK
                cases g.ex <;> rfl
        | loop x =>
          let J : Nat → Act → World → Prop := fun f' a' w' => ∃ st' l', ev C f' L fc none (.loop x) st' k = .ok l' ∧ (∀ r ∈ l', r ∈ l) ∧ ∃ φ', StR C.P fc φ' st' a' w' ro ∧ Stp φ (hget st.hp) st.nx w φ' (hget st'.hp) st'.nx w'
          let I : Act → World → Prop := fun a' w' => ∃ f', f' ≤ f + 1 ∧ J f' a' w'
          let μ : Act → World → Nat := fun a' w' => if h : I a' w' then Classical.choose (least_of h) else 0
          refine wpIn_loop I μ ⟨f + 1, Nat.le_refl _, st, l, h, fun _ h => h, φ, hst, Stp.refl _ _ _ _⟩ ?_
          intro a1 w1 hI
          have hμ : μ a1 w1 = Classical.choose (least_of hI) := dif_pos hI
          obtain ⟨hle, st1, l1, h1, hs1, φ1, hst1, hS1⟩ := (Classical.choose_spec (least_of hI)).1
          generalize Classical.choose (least_of hI) = f0 at hμ hle h1
          cases f0 with
          | zero => simp [ev] at h1
          | succ f1 =>
            simp only [ev] at h1
            refine ih f1 (by omega) L fc none x st1 _ l1 h1 φ1 a1 w1 ro _ m hst1 (hL.step hst.base hS1) ?_
            intro ex st2 l2 hk2 hs2 φ2 a2 w2 hst2 hS2
            have hs : ∀ r ∈ l2, r ∈ l := fun r hr => hs1 r (hs2 r hr)
            have hS := hS1.trans hS2
            cases ex with
            | ret => exact hk .ret st2 l2 hk2 hs φ2 a2 w2 hst2 hS
            | exit i => exact hk (.exit i) st2 l2 hk2 hs φ2 a2 w2 hst2 hS
            | goto t => exact hk (.goto t) st2 l2 hk2 hs φ2 a2 w2 hst2 hS
            | norm =>
              have hJ : f1 ≤ f + 1 ∧ J f1 a2 w2 := ⟨by omega, st2, l2, hk2, hs, φ2, hst2, hS⟩
              have hI2 : I a2 w2 := ⟨f1, hJ⟩
              refine ⟨hI2, ?_⟩
              rw [hμ, show μ a2 w2 = Classical.choose (least_of hI2) from dif_pos hI2]
              exact Nat.lt_succ_of_le ((Classical.choose_spec (least_of hI2)).2 f1 hJ)
        | rangeFunc g ps asg body =>
          simp only [ev] at h
          refine wpIn_rangeFunc fun fn _ => ?_
          split at h
          · rename_i har
            rw [putH_eq, seqN_eq] at h
            have hro : ro = none := by have := hst.around; rw [har] at this; exact this
            unfold enterF at h
            rw [putH_eq, seqN_eq] at h
            have hb := hst.base
            -- the block for what is put off
            have hf1 := hb.fr st.nx (Nat.le_refl _)
            let w1 : World := World.add w (.deferred (some []))
            let φ1 : Ph := φ.set st.nx (w.heap.size, 0, 0)
            have r1 : RelH C.P φ1 (upd (hget st.hp) st.nx .dfr) w1 := hst.rel.new hf1 (hst.rel.nx_free hf1) (ob := .dfr) (g := .deferred (some [])) ⟨rfl, rfl⟩ (fun _ _ _ _ e => by cases e) (fun _ _ _ e => by cases e) (fun _ _ _ e => by cases e)
            have s1 : Stp φ (hget st.hp) st.nx w φ1 (upd (hget st.hp) st.nx .dfr) (st.nx + 1) w1 := Stp.new hb.fr .dfr (fun m hm => by obtain ⟨_, _, _, e⟩ := hm; cases e) _ 0 0
            have b1 := hb.step s1
            have hf2 := b1.fr (st.nx + 1) (Nat.le_refl _)
            let q : Loop := { state := .ready, pending := none, fn := fn, tmps := a.tmps, params := ps, assign := asg, body := body, defers := w.heap.size }
            let w2 : World := World.add w1 (.loop q)
            let φ2 : Ph := φ1.set (st.nx + 1) (w1.heap.size, 0, 0)
            have hφd : φ2 st.nx = some (w.heap.size, 0, 0) := by
              show φ1.set _ _ st.nx = _
              rw [Ph.set_ne _ _ (by omega)]; exact Ph.set_same _ _ _
            have r2 : RelH C.P φ2 (upd (upd (hget st.hp) st.nx .dfr) (st.nx + 1) (.loop .ready .norm st.nx)) w2 :=
              r1.new hf2 (r1.nx_free hf2) (ob := .loop .ready .norm st.nx) (g := .loop q) (off := 0) (sz := 0) ⟨rfl, q, rfl, rfl, rfl, 0, hφd⟩ (fun _ _ _ _ e => by cases e) (fun _ _ _ e => by cases e) (fun _ _ _ e => by cases e)
            have s2 : Stp φ1 (upd (hget st.hp) st.nx .dfr) (st.nx + 1) w1 φ2 (upd (upd (hget st.hp) st.nx .dfr) (st.nx + 1) (.loop .ready .norm st.nx)) (st.nx + 2) w2 :=
              Stp.new b1.fr _ (fun m hm => by obtain ⟨_, _, _, e⟩ := hm; cases e) _ 0 0
            have sall := s1.trans s2
            have hbl := hb.below sall
            rw [← hget_set, ← hget_set] at r2 sall
            have hl : φ2 (st.nx + 1) = some (w1.heap.size, 0, 0) := Ph.set_same _ _ _
            have hrest := enter_rest (ps := ps) (Bl := w1.heap.size) (sz := 0) (qr := q) (df' := { target := .collected w.heap.size, args := #[] } :: a.defers) (a := a) (ro := ro) (Q := Q) (m := m) (φ1 := φ2) (w1 := w2) hC hev h r2 (hb.step sall) (hst.env.mono hbl) (hL.step hb sall) hl (add_get _ _) rfl rfl rfl rfl
              (.cons _ _ _ _ ⟨_, _, hφd, rfl⟩ (MarkR.mono hbl hst.marks)) (hst.around.mono hbl)
              (fun ex st' l' hk' hs' φ' a' w' hst' hS' => hk ex st' l' hk' hs' φ' a' w' hst' (sall.trans hS'))
            obtain ⟨d, w₁', f', args, w₂, e1, e2, e3, e4, e5⟩ := hrest
            refine ⟨w1.heap.size, [{ target := .collected w.heap.size, args := #[] }], w2, d, w₁', f', args, w₂, ?_, e1, e2, e3, e4, e5⟩
            have : (Fr ro).round = none := hro
            rw [this, run_enterLoop_outer]
            have hsz : w1.heap.size = w.heap.size + 1 := by simp [w1, World.add]
            rw [hsz]; rfl
          · rename_i l0 har
            split at h
            · rename_i s0 p0 d0 hl0
              obtain ⟨B0, sz0, hB0, hro⟩ : ∃ B sz, φ l0 = some (B, 0, sz) ∧ ro = some B := by have := hst.around; rw [har] at this; exact this
              unfold enterF at h
              rw [putH_eq, seqN_eq] at h
              have hb := hst.base
              obtain ⟨B', sz', q0, e1, e2, _, _, szd, hd0⟩ := loop_of hst.rel hl0
              rw [hB0] at e1; cases e1
              have hf1 := hb.fr st.nx (Nat.le_refl _)
              let q : Loop := { state := .ready, pending := none, fn := fn, tmps := a.tmps, params := ps, assign := asg, body := body, defers := q0.defers }
              let w2 : World := World.add w (.loop q)
              let φ2 : Ph := φ.set st.nx (w.heap.size, 0, 0)
              have hφd : φ2 d0 = some (q0.defers, 0, szd) := Ph.set_below hf1 _ _ hd0
              have r2 : RelH C.P φ2 (upd (hget st.hp) st.nx (.loop .ready .norm d0)) w2 :=
                hst.rel.new hf1 (hst.rel.nx_free hf1) (ob := .loop .ready .norm d0) (g := .loop q) (off := 0) (sz := 0) ⟨rfl, q, rfl, rfl, rfl, szd, hφd⟩ (fun _ _ _ _ e => by cases e) (fun _ _ _ e => by cases e) (fun _ _ _ e => by cases e)
              have sall : Stp φ (hget st.hp) st.nx w φ2 (upd (hget st.hp) st.nx (.loop .ready .norm d0)) (st.nx + 1) w2 :=
                Stp.new hb.fr _ (fun m hm => by obtain ⟨_, _, _, e⟩ := hm; cases e) _ 0 0
              have hbl := hb.below sall
              rw [← hget_set] at r2 sall
              have hl : φ2 st.nx = some (w.heap.size, 0, 0) := Ph.set_same _ _ _
              have hrest := enter_rest (ps := ps) (Bl := w.heap.size) (sz := 0) (qr := q) (df' := a.defers) (a := a) (ro := ro) (Q := Q) (m := m) (φ1 := φ2) (w1 := w2) hC hev h r2 (hb.step sall) (hst.env.mono hbl) (hL.step hb sall) hl (add_get _ _) rfl rfl rfl rfl
                (MarkR.mono hbl hst.marks) (hst.around.mono hbl)
                (fun ex st' l' hk' hs' φ' a' w' hst' hS' => hk ex st' l' hk' hs' φ' a' w' hst' (sall.trans hS'))
              obtain ⟨d, w₁', f', args, w₂, k1, k2, k3, k4, k5⟩ := hrest
              refine ⟨w.heap.size, [], w2, d, w₁', f', args, w₂, ?_, k1, k2, k3, k4, k5⟩
              have : (Fr ro).round = some B0 := hro
              rw [this]
              unfold Instr.enterLoop
              simp only [Sem.run_bind, run_getLoop e2, run_newObj, Result.andThen, Sem.run_pure]
              rfl
            · cases h
end Go.X
