/-
  Operations of X against the machine: maps, iterators, calls; all of them. No conditions. An executor of its own, proved sound against the model; nothing here is of one program.
-/
import Derived.Test.YtmhjdchoeeikaaaGreatDoorXe
import Derived.Maps.Keyed
import Derived.DeepKeys3
set_option linter.unusedVariables false
namespace Go.X
open Go.Maps (Keyed)
section
variable {P : Program} {φ : Ph} {H : Nat → Obj} {w : World} {ρ : Operand → Value} {o : Oper} {c : Cx}
/-! ### Keys -/
mutual
theorem gV_ok {k : V} {x x' : Value} (h : VR φ k x) (hg : gV k = some x') : x' = x ∧ VG k x := by
  cases h with
  | bool b => cases hg; exact ⟨rfl, .bool _⟩
  | int k n => cases hg; exact ⟨rfl, .int _ _⟩
  | str s l hs => cases hg; exact ⟨rfl, .str _ _ hs⟩
  | agg l cs hl h1 =>
    simp only [gV] at hg
    cases hgs : gVs l with
    | none => rw [hgs] at hg; cases hg
    | some xs =>
      rw [hgs] at hg; cases hg
      obtain ⟨e, h2⟩ := gVs_ok hl hgs
      subst e
      exact ⟨rfl, .agg _ _ h2 h1⟩
  | _ => cases hg
theorem gVs_ok {l : List V} {xs xs' : List Value} (h : VRs φ l xs) (hg : gVs l = some xs') : xs' = xs ∧ VRs (fun _ => none) l xs := by
  cases h with
  | nil => cases hg; exact ⟨rfl, .nil⟩
  | cons v x l xs hv ht =>
    simp only [gVs] at hg
    cases h1 : gV v with
    | none => rw [h1] at hg; cases hg
    | some y =>
      cases h2 : gVs l with
      | none => rw [h1, h2] at hg; cases hg
      | some ys =>
        rw [h1, h2] at hg; cases hg
        obtain ⟨e1, k1⟩ := gV_ok hv h1
        obtain ⟨e2, k2⟩ := gVs_ok ht h2
        subst e1; subst e2
        exact ⟨rfl, .cons _ _ _ _ k1 k2⟩
end
mutual
theorem gV_inj {a b : V} {x y z : Value} (ha : VR φ a x) (hb : VR φ b x) (ga : gV a = some y) (gb : gV b = some z) : a = b := by
  cases ha with
  | bool b => cases hb <;> first | rfl | cases gb
  | int k n => cases hb <;> first | rfl | cases gb
  | str s l hs =>
    generalize hx : Value.string (strB s l) = x at hb
    cases hb with
    | str s' l' hs' =>
      injection hx with hx
      obtain ⟨e1, e2⟩ := strB_inj hs hs' hx
      rw [e1, e2]
    | junk => cases gb
    | _ => cases hx
  | agg l cs hl h1 =>
    cases hb with
    | agg l' _ hl' h1' =>
      simp only [gV] at ga gb
      cases hga : gVs l with
      | none => rw [hga] at ga; cases ga
      | some xs =>
        cases hgb : gVs l' with
        | none => rw [hgb] at gb; cases gb
        | some ys => rw [gVs_inj hl hl' hga hgb]
    | junk => cases gb
  | _ => cases ga
theorem gVs_inj {a b : List V} {xs ys zs : List Value} (ha : VRs φ a xs) (hb : VRs φ b xs) (ga : gVs a = some ys) (gb : gVs b = some zs) : a = b := by
  cases ha with
  | nil => cases hb; rfl
  | cons v x l xs hv ht =>
    cases hb with
    | cons v' _ l' _ hv' ht' =>
      simp only [gVs] at ga gb
      cases h1 : gV v with
      | none => rw [h1] at ga; cases ga
      | some y =>
        cases h2 : gVs l with
        | none => rw [h1, h2] at ga; cases ga
        | some ys =>
          cases h3 : gV v' with
          | none => rw [h3] at gb; cases gb
          | some y' =>
            cases h4 : gVs l' with
            | none => rw [h3, h4] at gb; cases gb
            | some ys' => rw [gV_inj hv hv' h1 h3, gVs_inj ht ht' h2 h4]
end
mutual
theorem keyEq_eq : ∀ {a b : V}, keyEq a b = true → a = b
  | .bool a, .bool b, h => by simp only [keyEq, beq_iff_eq] at h; rw [h]
  | .int k a, .int j b, h => by
    simp only [keyEq, keq_eq, ieqb_eq] at h
    cases hk : decide (k = j) with
    | false => rw [hk] at h; cases h
    | true =>
      rw [hk] at h
      simp only [cond_true, beq_iff_eq] at h
      rw [of_decide_eq_true hk, h]
  | .str a l, .str b m, h => by
    simp only [keyEq, sEq] at h
    cases hk : Nat.beq l m with
    | false => rw [hk] at h; cases h
    | true =>
      rw [hk] at h
      rw [Nat.eq_of_beq_eq_true hk, Nat.eq_of_beq_eq_true h]
  | .agg a, .agg b, h => by
    simp only [keyEq] at h
    rw [keyEqs_eq h]
  | .junk, b, h | .ptr _ _, b, h | .nilp, b, h | .slc .., b, h | .nils, b, h | .capv .., b, h | .map _, b, h | .nilm, b, h | .fn .., b, h | .nilf, b, h | .ifc .., b, h | .nili, b, h | .tup _, b, h => by
    cases b <;> simp [keyEq] at h
  | .bool _, .junk, h | .bool _, .int _ _, h | .bool _, .str _ _, h | .bool _, .agg _, h | .bool _, .ptr _ _, h | .bool _, .nilp, h | .bool _, .slc .., h | .bool _, .nils, h | .bool _, .capv .., h | .bool _, .map _, h
  | .bool _, .nilm, h | .bool _, .fn .., h | .bool _, .nilf, h | .bool _, .ifc .., h | .bool _, .nili, h | .bool _, .tup _, h => by simp [keyEq] at h
  | .int _ _, .junk, h | .int _ _, .bool _, h | .int _ _, .str _ _, h | .int _ _, .agg _, h | .int _ _, .ptr _ _, h | .int _ _, .nilp, h | .int _ _, .slc .., h | .int _ _, .nils, h | .int _ _, .capv .., h | .int _ _, .map _, h
  | .int _ _, .nilm, h | .int _ _, .fn .., h | .int _ _, .nilf, h | .int _ _, .ifc .., h | .int _ _, .nili, h | .int _ _, .tup _, h => by simp [keyEq] at h
  | .str _ _, .junk, h | .str _ _, .bool _, h | .str _ _, .int _ _, h | .str _ _, .agg _, h | .str _ _, .ptr _ _, h | .str _ _, .nilp, h | .str _ _, .slc .., h | .str _ _, .nils, h | .str _ _, .capv .., h | .str _ _, .map _, h
  | .str _ _, .nilm, h | .str _ _, .fn .., h | .str _ _, .nilf, h | .str _ _, .ifc .., h | .str _ _, .nili, h | .str _ _, .tup _, h => by simp [keyEq] at h
  | .agg _, .junk, h | .agg _, .bool _, h | .agg _, .int _ _, h | .agg _, .str _ _, h | .agg _, .ptr _ _, h | .agg _, .nilp, h | .agg _, .slc .., h | .agg _, .nils, h | .agg _, .capv .., h | .agg _, .map _, h
  | .agg _, .nilm, h | .agg _, .fn .., h | .agg _, .nilf, h | .agg _, .ifc .., h | .agg _, .nili, h | .agg _, .tup _, h => by simp [keyEq] at h
theorem keyEqs_eq : ∀ {a b : List V}, keyEqs a b = true → a = b
  | [], [], _ => rfl
  | x :: a, y :: b, h => by
    simp only [keyEqs] at h
    cases hk : keyEq x y with
    | false => rw [hk] at h; cases h
    | true => rw [hk] at h; rw [keyEq_eq hk, keyEqs_eq h]
  | [], _ :: _, h => by simp [keyEqs] at h
  | _ :: _, [], h => by simp [keyEqs] at h
end
mutual
theorem keyEq_self : ∀ {a : V} {x : Value}, gV a = some x → keyEq a a = true
  | .bool a, _, _ => by simp [keyEq]
  | .int k a, _, _ => by simp [keyEq, keq_eq, ieqb_eq]
  | .str a l, _, _ => by simp [keyEq, sEq]
  | .agg a, x, h => by
    simp only [gV] at h
    cases hg : gVs a with
    | none => rw [hg] at h; cases h
    | some xs => simp only [keyEq]; exact keyEqs_self hg
  | .junk, _, h | .ptr _ _, _, h | .nilp, _, h | .slc .., _, h | .nils, _, h | .capv .., _, h | .map _, _, h | .nilm, _, h | .fn .., _, h | .nilf, _, h | .ifc .., _, h | .nili, _, h | .tup _, _, h => by simp [gV] at h
theorem keyEqs_self : ∀ {a : List V} {xs : List Value}, gVs a = some xs → keyEqs a a = true
  | [], _, _ => rfl
  | v :: l, xs, h => by
    simp only [gVs] at h
    cases h1 : gV v with
    | none => rw [h1] at h; cases h
    | some y =>
      cases h2 : gVs l with
      | none => rw [h1, h2] at h; cases h
      | some ys => simp only [keyEqs, keyEq_self h1, cond_true]; exact keyEqs_self h2
end
theorem rowX_eq : ∀ (l : List Field) (n : Nat), rowX P n l = P.runs n l
  | [], _ => rfl
  | f :: r, n => by
    simp only [rowX, Program.runs]
    cases h : Nat.beq f.offset n with
    | true => rw [if_pos (Nat.eq_of_beq_eq_true h), cond_true]; exact rowX_eq r _
    | false => rw [if_neg (by intro e; rw [e] at h; simp at h), cond_false]
theorem tileX_ok : ∀ (m : Nat) (t : TypeId), tileX P m t = true → P.tiled m t = true
  | 0, _, h => by simp [tileX] at h
  | m + 1, t, h => by
    simp only [tileX] at h
    simp only [Program.tiled]
    cases hu : P.underlying t with
    | none => rw [hu] at h; cases h
    | some d =>
      rw [hu] at h
      cases d with
      | int k => rfl
      | string => rfl
      | bool => rfl
      | array n e =>
        obtain ⟨h1, h2⟩ := and2 h
        simp only [Bool.and_eq_true, beq_iff_eq]
        exact ⟨Nat.eq_of_beq_eq_true h1, tileX_ok m e h2⟩
      | struct fs =>
        obtain ⟨h1, h2⟩ := and2 h
        simp only [Bool.and_eq_true, beq_iff_eq]
        refine ⟨?_, ?_⟩
        · rw [← rowX_eq]
          cases hr : rowX P 0 fs.toList with
          | none => rw [hr] at h1; cases h1
          | some k => rw [hr] at h1; rw [Nat.eq_of_beq_eq_true (show Nat.beq k _ = true from h1)]
        · rw [Array.all_eq_true_iff_forall_mem]
          intro f hf
          exact tileX_ok m f.type (allL_ok h2 f (by simpa using hf))
      | _ => cases h
theorem okKt_ok {t : TypeId} (h : okKt P t = true) : Keyed P t := by
  unfold okKt at h
  cases hu : P.underlying t with
  | none => rw [hu] at h; cases h
  | some d =>
    rw [hu] at h
    cases d with
    | int k => exact Maps.int_keyed hu
    | string => exact Maps.string_keyed hu
    | bool => exact Maps.bool_keyed hu
    | array n e =>
      obtain ⟨h1, h2⟩ := and2 h
      exact Keyed.of_law (deep_law (m := 9) (by omega) h1 (tileX_ok 9 t h2) (by rw [hu]))
    | struct fs =>
      obtain ⟨h1, h2⟩ := and2 h
      exact Keyed.of_law (deep_law (m := 9) (by omega) h1 (tileX_ok 9 t h2) (by rw [hu]))
    | _ => cases h
theorem okKey_ok {t : TypeId} {k : V} {x : Value} (h : okKey P t k = true) (hv : VR φ k x) : VG k x ∧ gV k = some x ∧ ∃ l, keyOf P t x = some l := by
  unfold okKey at h
  cases hg : gV k with
  | none => rw [hg] at h; cases h
  | some x' =>
    rw [hg] at h
    obtain ⟨e, h1⟩ := gV_ok hv hg
    subst e
    exact ⟨h1, rfl, Option.isSome_iff_exists.1 h⟩
end
end Go.X

namespace Go.X
open Go.Maps (Keyed)
section
variable {P : Program} {φ : Ph} {H : Nat → Obj} {w : World} {ρ : Operand → Value} {o : Oper} {c : Cx}
theorem All2.fwd {α β : Type} {R : α → β → Prop} : ∀ {l : List α} {m : List β}, All2 R l m → ∀ a ∈ l, ∃ b ∈ m, R a b
  | _, _, .nil, _, h => by simp at h
  | _, _, .cons a b l m hr t, x, h => by
    rcases List.mem_cons.1 h with rfl | h
    · exact ⟨b, by simp, hr⟩
    · obtain ⟨y, hy, hr'⟩ := t.fwd x h
      exact ⟨y, by simp [hy], hr'⟩
theorem All2.bwd {α β : Type} {R : α → β → Prop} : ∀ {l : List α} {m : List β}, All2 R l m → ∀ b ∈ m, ∃ a ∈ l, R a b
  | _, _, .nil, _, h => by simp at h
  | _, _, .cons a b l m hr t, x, h => by
    rcases List.mem_cons.1 h with rfl | h
    · exact ⟨a, by simp, hr⟩
    · obtain ⟨y, hy, hr'⟩ := t.bwd x h
      exact ⟨y, by simp [hy], hr'⟩
theorem findE_some {k : V} : ∀ {es : List Ent} {v : V}, findE k es = some v → ∃ e ∈ es, keyEq k e.key = true ∧ e.val = v
  | [], _, h => by simp [findE] at h
  | e :: r, v, h => by
    simp only [findE] at h
    cases hk : keyEq k e.key with
    | true => rw [hk] at h; cases h; exact ⟨e, by simp, hk, rfl⟩
    | false =>
      rw [hk] at h
      obtain ⟨e', h1, h2⟩ := findE_some h
      exact ⟨e', by simp [h1], h2⟩
theorem findE_none {k : V} : ∀ {es : List Ent}, findE k es = none → ∀ e ∈ es, keyEq k e.key = false
  | [], _, e, he => by simp at he
  | e :: r, h, e', he => by
    simp only [findE] at h
    cases hk : keyEq k e.key with
    | true => rw [hk] at h; cases h
    | false =>
      rw [hk] at h
      rcases List.mem_cons.1 he with rfl | he
      · exact hk
      · exact findE_none h e' he
theorem ent_uniq : ∀ {es : List Ent}, es.Pairwise (fun a b => keyEq a.key b.key = false) → ∀ {a b : Ent}, a ∈ es → b ∈ es → a.key = b.key → keyEq a.key a.key = true → a = b
  | [], _, a, b, ha, _, _, _ => by simp at ha
  | e :: r, hp, a, b, ha, hb, hab, hs => by
    obtain ⟨h1, h2⟩ := List.pairwise_cons.1 hp
    rcases List.mem_cons.1 ha with ea | ha' <;> rcases List.mem_cons.1 hb with eb | hb'
    · rw [ea, eb]
    · have := h1 b hb'
      rw [← ea, ← hab, hs] at this; cases this
    · have := h1 a ha'
      rw [← eb, ← hab, hs] at this; cases this
    · exact ent_uniq h2 ha' hb' hab hs
/-- a key looked for -/
theorem find_ok {kt : TypeId} {es : List Ent} {l L : List MapEntry} {k : V} {x : Value} (K : Keyed P kt) (hk : okKey P kt k = true) (hv : VR φ k x) (hp : l.Perm L) (ha : All2 (EntR φ) es l) (hes : ∀ e ∈ es, keyOk P kt e.key)
    (hpw : es.Pairwise (fun a b => keyEq a.key b.key = false)) :
    (∀ v, findE k es = some v → ∃ j m, (Instr.findKey kt x L).run P w = .ok (some (j, m.val)) w ∧ L[j]? = some m ∧ m.key = x ∧ VR φ v m.val) ∧
    (findE k es = none → (Instr.findKey kt x L).run P w = .ok none w ∧ ∀ m ∈ L, m.key ≠ x) := by
  obtain ⟨k1, k2, lx, k3⟩ := okKey_ok hk hv
  have hL : ∀ m ∈ L, ∃ e ∈ es, EntR φ e m := fun m hm => ha.bwd m (hp.mem_iff.2 hm)
  have hLk : ∀ m ∈ L, ∃ q, keyOf P kt m.key = some q := fun m hm => by
    obtain ⟨e, he, h1, _⟩ := hL m hm
    exact (okKey_ok (hes e he) h1).2.2
  have same : ∀ {e : Ent} {m : MapEntry}, e ∈ es → EntR φ e m → m.key = x → e.key = k := fun {e m} he h1 h2 => by
    have h3 := h1.1
    rw [h2] at h3
    exact gV_inj h3 k1 (okKey_ok (hes e he) h1.1).2.1 k2
  have hs : keyEq k k = true := keyEq_self k2
  refine ⟨fun v hf => ?_, fun hf => ?_⟩
  · obtain ⟨e, he, h1, h2⟩ := findE_some hf
    have ek := keyEq_eq h1
    obtain ⟨m, hm, hem⟩ := ha.fwd e he
    have hmx : m.key = x := by
      have h3 := hem.1
      rw [← ek] at h3
      exact ((gV_ok h3 k2).1).symm
    rcases K.find w k3 L hLk with ⟨h3, h4⟩ | ⟨j, m', h3, h4, h5⟩
    · exact absurd hmx (h4 m (hp.mem_iff.1 hm))
    · obtain ⟨e', he', hem'⟩ := hL m' (List.mem_of_getElem? h4)
      have ek' := same he' hem' h5
      have : e' = e := ent_uniq hpw he' he (by rw [ek', ek]) (by rw [ek']; exact hs)
      subst this
      exact ⟨j, m', h3, h4, h5, by rw [← h2]; exact hem'.2⟩
  · rcases K.find w k3 L hLk with h | ⟨j, m', h3, h4, h5⟩
    · exact h
    · obtain ⟨e', he', hem'⟩ := hL m' (List.mem_of_getElem? h4)
      have ek' := same he' hem' h5
      have := findE_none hf e' he'
      rw [ek', hs] at this; cases this
end
end Go.X

namespace Go.X
open Go.Maps (Keyed)
section
variable {P : Program} {φ : Ph} {H : Nat → Obj} {w : World} {ρ : Operand → Value} {o : Oper} {c : Cx}
theorem setE_map {k v : V} : ∀ {es : List Ent}, es.Pairwise (fun a b => keyEq a.key b.key = false) → (∀ e ∈ es, keyEq k e.key = true → keyEq e.key k = true) →
    setE k v es = es.map fun e => bif keyEq k e.key then ⟨k, v⟩ else e
  | [], _, _ => rfl
  | e :: r, hp, hs => by
    obtain ⟨h1, h2⟩ := List.pairwise_cons.1 hp
    simp only [setE, List.map_cons]
    cases hk : keyEq k e.key with
    | false => simp only [cond_false]; rw [setE_map h2 (fun e he => hs e (by simp [he]))]
    | true =>
      simp only [cond_true]
      congr 1
      have ek := keyEq_eq hk
      symm
      refine (List.map_congr_left (g := id) (fun b hb => ?_)).trans (List.map_id _)
      have := h1 b hb
      rw [← ek] at this
      simp [this]
theorem delE_filter {k : V} : ∀ {es : List Ent}, es.Pairwise (fun a b => keyEq a.key b.key = false) → delE k es = es.filter fun e => !keyEq k e.key
  | [], _ => rfl
  | e :: r, hp => by
    obtain ⟨h1, h2⟩ := List.pairwise_cons.1 hp
    simp only [delE, List.filter_cons]
    cases hk : keyEq k e.key with
    | false => simp only [cond_false, Bool.not_false, if_true]; rw [delE_filter h2]
    | true =>
      simp only [cond_true, Bool.not_true, Bool.false_eq_true, if_false]
      have ek := keyEq_eq hk
      symm
      refine List.filter_eq_self.2 (fun b hb => ?_)
      have := h1 b hb
      rw [← ek] at this
      simp [this]
theorem All2.map {α β : Type} {R S : α → β → Prop} {f : α → α} {g : β → β} : ∀ {l : List α} {m : List β}, All2 R l m → (∀ a ∈ l, ∀ b ∈ m, R a b → S (f a) (g b)) → All2 S (l.map f) (m.map g)
  | _, _, .nil, _ => .nil
  | _, _, .cons a b l m hr t, h => .cons _ _ _ _ (h a (by simp) b (by simp) hr) (t.map fun x hx y hy => h x (by simp [hx]) y (by simp [hy]))
theorem All2.filter {α β : Type} {R : α → β → Prop} {f : α → Bool} {g : β → Bool} : ∀ {l : List α} {m : List β}, All2 R l m → (∀ a ∈ l, ∀ b ∈ m, R a b → f a = g b) → All2 R (l.filter f) (m.filter g)
  | _, _, .nil, _ => .nil
  | _, _, .cons a b l m hr t, h => by
    have e := h a (by simp) b (by simp) hr
    have ih := t.filter fun x hx y hy => h x (by simp [hx]) y (by simp [hy])
    simp only [List.filter_cons, e]
    split
    · exact .cons _ _ _ _ hr ih
    · exact ih
theorem All2.snoc {α β : Type} {R : α → β → Prop} {a : α} {b : β} (h : R a b) : ∀ {l : List α} {m : List β}, All2 R l m → All2 R (l ++ [a]) (m ++ [b])
  | _, _, .nil => .cons _ _ _ _ h .nil
  | _, _, .cons x y l m hr t => .cons _ _ _ _ hr (t.snoc h)
theorem modify_born {f : MapEntry → MapEntry} : ∀ {L : List MapEntry} {j : Nat} {m0 : MapEntry}, (L.map (·.born)).Nodup → L[j]? = some m0 → L.modify j f = L.map fun m => if m.born = m0.born then f m else m
  | [], j, m0, _, h => by simp at h
  | m :: r, 0, m0, hn, h => by
    simp at h; subst h
    simp only [List.map_cons, List.nodup_cons] at hn
    simp only [List.modify_zero_cons, List.map_cons, if_true]
    congr 1
    symm
    refine (List.map_congr_left (g := id) (fun b hb => ?_)).trans (List.map_id _)
    have : b.born ≠ m.born := fun e => hn.1 (by rw [← e]; exact List.mem_map.2 ⟨b, hb, rfl⟩)
    simp [this]
  | m :: r, j + 1, m0, hn, h => by
    simp only [List.map_cons, List.nodup_cons] at hn
    have hr : r[j]? = some m0 := by simpa using h
    have : m.born ≠ m0.born := fun e => hn.1 (by rw [e]; exact List.mem_map.2 ⟨m0, List.mem_of_getElem? hr, rfl⟩)
    simp only [List.modify_succ_cons, List.map_cons, if_neg this]
    rw [modify_born hn.2 hr]
theorem erase_born : ∀ {L : List MapEntry} {j : Nat} {m0 : MapEntry}, (L.map (·.born)).Nodup → L[j]? = some m0 → L.eraseIdx j = L.filter fun m => !(m.born == m0.born)
  | [], j, m0, _, h => by simp at h
  | m :: r, 0, m0, hn, h => by
    simp at h; subst h
    simp only [List.map_cons, List.nodup_cons] at hn
    simp only [List.eraseIdx_zero, List.tail_cons, List.filter_cons, beq_self_eq_true, Bool.not_true, Bool.false_eq_true, if_false]
    symm
    refine List.filter_eq_self.2 (fun b hb => ?_)
    have : b.born ≠ m.born := fun e => hn.1 (by rw [← e]; exact List.mem_map.2 ⟨b, hb, rfl⟩)
    simp [this]
  | m :: r, j + 1, m0, hn, h => by
    simp only [List.map_cons, List.nodup_cons] at hn
    have hr : r[j]? = some m0 := by simpa using h
    have : m.born ≠ m0.born := fun e => hn.1 (by rw [e]; exact List.mem_map.2 ⟨m0, List.mem_of_getElem? hr, rfl⟩)
    simp only [List.eraseIdx_cons_succ, List.filter_cons]
    rw [if_pos (by simp [this]), erase_born hn.2 hr]
end
end Go.X

namespace Go.X
open Go.Maps (Keyed)
section
variable {P : Program} {φ : Ph} {H : Nat → Obj} {w : World} {ρ : Operand → Value} {o : Oper} {c : Cx}
/-- a map turned -/
theorem RelH.set_map (hR : RelH P φ H w) {r R sz : Nat} (hφ : φ r = some (R, 0, sz)) {kt : TypeId} {es es' : List Ent} {cl cl' : Nat} {L L' : Array MapEntry} (hb : H r = .map kt es cl)
    (hg : w.heap[R]? = some (.map L cl)) (hr : MapR P φ kt es' cl' (some (.map L' cl'))) (hc : ∀ since seen last seen', IterC since seen last cl L.toList seen' → IterC since seen last cl' L'.toList seen') :
    RelH P φ (upd H r (.map kt es' cl')) (World.put w R (.map L' cl')) ∧ ∀ nx, Stp φ H nx w φ (upd H r (.map kt es' cl')) nx (World.put w R (.map L' cl')) := by
  have hne : H r ≠ .free := by rw [hb]; simp
  have hR' : R < w.heap.size := (Array.getElem?_eq_some_iff.1 hg).1
  refine ⟨hR.set hne hφ ⟨rfl, hr⟩ ?_, fun nx => Stp.set nx hne hφ _ (fun m h => by obtain ⟨_, _, _, e⟩ := h; cases e) _ (fun q hq => by rw [hg] at hq; cases hq)⟩
  intro x m since seen last kt2 es2 cl2 hx hm Bx o1 s1 M o2 s2 Rx L2 seen' hB hM gB gM
  have exr : x ≠ r := by rintro rfl; rw [show upd H x (.map kt es' cl') x = .map kt es' cl' by simp [upd]] at hx; cases hx
  have hx' : H x = .miter (some m) since seen last := by simpa [upd, exr] using hx
  rw [put_ne _ _ (hR.inj x r _ _ _ _ _ _ (by rw [hx']; simp) hne exr hB hφ)] at gB
  by_cases em : m = r
  · subst em
    rw [show upd H m (.map kt es' cl') m = .map kt es' cl' by simp [upd]] at hm
    cases hm
    rw [hφ] at hM; cases hM
    rw [put_get _ _ _ hR'] at gM
    cases gM
    exact hc _ _ _ _ (hR.iter x m since seen last _ _ _ hx' hb _ _ _ _ _ _ Rx L seen' hB hφ gB hg)
  · have hm' : H m = .map kt2 es2 cl2 := by simpa [upd, em] using hm
    rw [put_ne _ _ (hR.inj m r _ _ _ _ _ _ (by rw [hm']; simp) hne em hM hφ)] at gM
    exact hR.iter x m since seen last kt2 es2 cl2 hx' hm' _ _ _ _ _ _ Rx L2 seen' hB hM gB gM
end
end Go.X

namespace Go.X
open Go.Maps (Keyed)
section
variable {P : Program} {φ : Ph} {H : Nat → Obj} {w : World} {ρ : Operand → Value} {o : Oper} {c : Cx}
theorem mapTy_keyed {t kt et : TypeId} (h : mapTy P t = some (kt, et)) : P.underlying t = some (.map kt et) ∧ Keyed P kt := by
  unfold mapTy at h
  split at h
  · rename_i k e hu
    cases hk : okKt P k with
    | false => rw [hk] at h; cases h
    | true => rw [hk] at h; cases h; exact ⟨hu, okKt_ok hk⟩
  · cases h
theorem zeros_src {e : TypeId} {n : Nat} (hb : zerosOf P (isU8 P e) e n ≠ .bad) : ∃ z : Value, (∀ w, (zeroValue e).run P w = .ok z w) ∧ z.cells.size = P.cellsOf e ∧
    SrcR φ (P.cellsOf e) (zerosOf P (isU8 P e) e n) (zerosA z.cells (n * z.cells.size)).toList := by
  cases hu : isU8 P e with
  | true =>
    obtain ⟨i', z, z1, z2, z3, z4⟩ := isU8_ok hu
    have hsz : z.cells.size = 1 := by rw [z2]; rfl
    refine ⟨z, z4, by rw [hsz, z3], z3, pow256_pos n, ?_, ?_⟩
    · rw [Array.length_toList, zerosA_size, hsz, Nat.mul_one]
    · intro j hj
      rw [hsz, Nat.mul_one, Array.getElem?_toList, z2, zerosA_get _ (by simp) n j hj, sGet_zero']
      simp [Nat.mod_one]
  | false =>
    rw [hu] at hb
    simp only [zerosOf] at hb ⊢
    cases hz : zeroL P e with
    | none => rw [hz] at hb; exact absurd rfl hb
    | some zl =>
      obtain ⟨i', z, cs, z1, z2, z3, z4, z5, z6, z7, z8⟩ := zeroL_ok hz
      have hsz : z.cells.size = cs.length := by rw [z3]; rfl
      obtain ⟨q1, q2⟩ := zerosA_ok (z4 φ) z5 n
      refine ⟨z, z8, by rw [hsz, z6], ?_⟩
      rw [hsz, z3]
      exact ⟨q1, q2, by rw [Array.length_toList, zerosA_size, z6]⟩
theorem effClear_ok {q : Call} {x : Operand} (hs : Sub (c.hp) H) (hR : RelH P φ H w) (ho : o.op = .call q) (hq : q.callee = .builtin .clear) (ha : q.args.toList = [x]) (hx : VR φ (c.rd x) (ρ x)) :
    EffOk P φ H c.nx w (effClear q.argTypes.toList x P c) ((execOp ρ o).run P w) := by
  have hargs := args_one ha
  unfold effClear
  cases ht : q.argTypes.toList with
  | nil => trivial
  | cons t ts =>
    have h0 := first_type ht
    simp only
    cases hu : P.underlying t with
    | none => trivial
    | some d =>
      simp only
      have hrun : ∀ {y : Value} {w' : World}, ρ x = y → (Builtin.clear_ q.argTypes o.type #[y]).run P w = .ok (.tuple #[]) w' → (execOp ρ o).run P w = .ok (.value undef) w' := by
        intro y w' hy h
        refine run_builtin ho hq ?_
        rw [hargs]
        simp only [builtin, List.map_toArray, List.map_cons, List.map_nil, hy]
        exact run_v h
      have hx0 : ∀ y : Value, (#[y] : Array Value)[0]? = some y := fun _ => rfl
      unfold clearX
      cases h : c.rd x with
      | nilm =>
        rw [h] at hx
        generalize hy : ρ x = y at hx
        cases hx
        refine .value (hrun hy ?_) (.tup _ _ .nil) hR
        simp only [Builtin.clear_, h0, hx0, Sem.run_bind, run_underlying' hu, Result.andThen]
        rfl
      | nils =>
        rw [h] at hx
        generalize hy : ρ x = y at hx
        cases hx
        refine .value (hrun hy ?_) (.tup _ _ .nil) hR
        simp only [Builtin.clear_, h0, hx0, Sem.run_bind, run_underlying' hu, Result.andThen]
        rfl
      | map r =>
        rw [h] at hx
        generalize hy : ρ x = y at hx
        cases hx with
        | map _ R sz g1 =>
          simp only [clearM]
          cases hob : c.hp r <;> (try trivial)
          rename_i kt es cl
          obtain ⟨L, m1, m2⟩ := map_of hs hR hob g1
          have hb := sub_ne hs hob (by simp)
          have hset := hR.set_map g1 hb m1 (es' := []) (cl' := cl) (L' := #[]) ⟨#[], [], rfl, List.Perm.refl _, .nil, by simp, .nil, by simp, by simp⟩
            (fun since seen last seen' hh => ⟨hh.1, hh.2.1, by simp, by simp, hh.2.2.2.2⟩)
          refine ⟨undef, _, .inl (hrun hy ?_), .tup _ _ .nil, hset⟩
          simp only [Builtin.clear_, h0, hx0, Sem.run_bind, run_underlying' hu, Result.andThen]
          cases d <;> simp only [Sem.run_bind, run_getObj' m1 rfl, Result.andThen, run_setObj' _ m1 rfl] <;> rfl
      | slc b p l cap es ex =>
        cases d with
        | slice e =>
          simp only [clearS]
          rw [h] at hx
          generalize hy : ρ x = y at hx
          obtain ⟨B, off, sz, ao, cap', rfl, g1, g2, g3, g4, g5, g6, g7⟩ := slc_inv hx
          cases h0l : Nat.beq l 0 with
          | true =>
            have := Nat.eq_of_beq_eq_true h0l
            subst this
            refine .value (hrun hy ?_) (.tup _ _ .nil) hR
            simp only [Builtin.clear_, h0, hx0, Sem.run_bind, run_underlying' hu, Result.andThen]
            rfl
          | false =>
            simp only [cond_false]
            have hl0 : l ≠ 0 := by intro h'; rw [h'] at h0l; cases h0l
            cases hp : putSrc (c.hp b) p (zerosOf P (isU8 P e) e l) with
            | none => trivial
            | some ob =>
              simp only
              have hzb : zerosOf P (isU8 P e) e l ≠ .bad := by intro h'; rw [h'] at hp; cases hp
              have hnf : c.hp b ≠ .free := by
                intro h'; rw [h'] at hp
                generalize zerosOf P (isU8 P e) e l = src at hp
                cases src <;> simp [putSrc, putO] at hp
              obtain ⟨z, z1, z2, z3⟩ := zeros_src (φ := φ) hzb
              rw [← sub_ne hs rfl hnf] at hp
              obtain ⟨w', r1, r2, r3⟩ := run_putSrc hR g1 rfl z3 hp
              rw [← g2 (by omega)] at r1
              refine ⟨undef, w', .inl (hrun hy ?_), .tup _ _ .nil, r2, r3⟩
              obtain ⟨l, rfl⟩ : ∃ l', l = l' + 1 := ⟨l - 1, by omega⟩
              simp only [Builtin.clear_, h0, hx0, Sem.run_bind, run_underlying' hu, Result.andThen, z1, zeroCells_eq, r1, Sem.run_pure]
        | _ => trivial
      | _ => trivial
end
end Go.X

namespace Go.X
open Go.Maps (Keyed)
section
variable {P : Program} {φ : Ph} {H : Nat → Obj} {w : World} {ρ : Operand → Value} {o : Oper} {c : Cx}
theorem IterC.mono {since last cl : Nat} {seen : List V} {L L' : List MapEntry} {seen' : Array Nat} (h : IterC since seen last cl L seen')
    (hl : ∀ e ∈ L', ∃ m ∈ L, m.key = e.key ∧ m.born = e.born) : IterC since seen last cl L' seen' := by
  refine ⟨h.1, h.2.1, fun e a ha => ?_, fun e k hk a ha => ?_, h.2.2.2.2⟩
  · obtain ⟨m, hm, h1, h2⟩ := hl a ha
    rw [← h1, ← h2]; exact h.2.2.1 e m hm
  · obtain ⟨m, hm, h1, h2⟩ := hl a ha
    rw [← h1, ← h2]; exact h.2.2.2.1 e k hk m hm
theorem ent_keys {kt : TypeId} : ∀ {es : List Ent} {l : List MapEntry}, All2 (EntR φ) es l → (∀ e ∈ es, keyOk P kt e.key) → es.Pairwise (fun a b => keyEq a.key b.key = false) →
    ∀ m ∈ l, ∀ m' ∈ l, m.key = m'.key → m = m'
  | _, _, .nil, _, _, m, hm, _, _, _ => by simp at hm
  | _, _, .cons e m0 es l hr t, hk, hp, m, hm, m', hm', hmm => by
    obtain ⟨h1, h2⟩ := List.pairwise_cons.1 hp
    have head : ∀ x ∈ l, x.key = m0.key → False := fun x hx e1 => by
      obtain ⟨e', he', hr'⟩ := t.bwd x hx
      obtain ⟨_, g1, _⟩ := okKey_ok (hk e (by simp)) hr.1
      obtain ⟨_, g2, _⟩ := okKey_ok (hk e' (by simp [he'])) hr'.1
      have h3 := hr'.1
      rw [e1] at h3
      have := gV_inj h3 hr.1 g2 g1
      have h4 := h1 e' he'
      rw [this, keyEq_self g1] at h4; cases h4
    rcases List.mem_cons.1 hm with e1 | e1 <;> rcases List.mem_cons.1 hm' with e2 | e2
    · rw [e1, e2]
    · exact (head m' e2 (by rw [← hmm, e1])).elim
    · exact (head m e1 (by rw [hmm, e2])).elim
    · exact ent_keys t (fun e he => hk e (by simp [he])) h2 m e1 m' e2 hmm
theorem born_inj : ∀ {L : List MapEntry}, (L.map (·.born)).Nodup → ∀ m ∈ L, ∀ m' ∈ L, m.born = m'.born → m = m'
  | [], _, m, hm, _, _, _ => by simp at hm
  | a :: r, h, m, hm, m', hm', e => by
    simp only [List.map_cons, List.nodup_cons] at h
    rcases List.mem_cons.1 hm with e1 | e1 <;> rcases List.mem_cons.1 hm' with e2 | e2
    · rw [e1, e2]
    · exact absurd (List.mem_map.2 ⟨m', e2, by rw [← e, e1]⟩) h.1
    · exact absurd (List.mem_map.2 ⟨m, e1, by rw [e, e2]⟩) h.1
    · exact born_inj h.2 m e1 m' e2 e
/-- the map with a key set anew -/
theorem MapR.put {kt : TypeId} {es : List Ent} {cl : Nat} {L : Array MapEntry} {k v : V} {x y : Value} {j : Nat} {m0 : MapEntry} (h : MapR P φ kt es cl (some (.map L cl)))
    (hk : okKey P kt k = true) (hv : VR φ k x) (hy : VR φ v y) (hj : L.toList[j]? = some m0) (h0 : m0.key = x) :
    MapR P φ kt (setE k v es) cl (some (.map (L.modify j fun e => { e with key := x, val := y }) cl)) ∧
    ∀ e ∈ (L.modify j fun e => { e with key := x, val := y }).toList, ∃ m ∈ L.toList, m.key = e.key ∧ m.born = e.born := by
  obtain ⟨L1, l, e1, hp, ha, hes, hpw, hb, hn⟩ := h
  cases e1
  obtain ⟨k1, k2, lx, k3⟩ := okKey_ok hk hv
  have hs : keyEq k k = true := keyEq_self k2
  have hm0 : m0 ∈ L.toList := List.mem_of_getElem? hj
  have hl : (L.modify j fun e => { e with key := x, val := y }).toList = L.toList.map fun m => if m.born = m0.born then { m with key := x, val := y } else m := by
    rw [Array.toList_modify, modify_born hn hj]
  have sub : ∀ e ∈ (L.modify j fun e => { e with key := x, val := y }).toList, ∃ m ∈ L.toList, m.key = e.key ∧ m.born = e.born := by
    intro e he
    rw [hl] at he
    obtain ⟨m, hm, rfl⟩ := List.mem_map.1 he
    refine ⟨m, hm, ?_⟩
    split
    · rename_i hbm
      have := born_inj hn m hm m0 hm0 hbm
      subst this
      exact ⟨h0, rfl⟩
    · exact ⟨rfl, rfl⟩
  have hse : setE k v es = es.map fun e => bif keyEq k e.key then ⟨k, v⟩ else e := setE_map hpw (fun e _ he => by rw [← keyEq_eq he]; exact hs)
  refine ⟨⟨_, l.map fun m => if m.born = m0.born then { m with key := x, val := y } else m, rfl, by rw [hl]; exact hp.map _, ?_, ?_, ?_, ?_, ?_⟩, sub⟩
  · rw [hse]
    refine ha.map fun e he m hm hem => ?_
    cases hke : keyEq k e.key with
    | true =>
      have ek := keyEq_eq hke
      have h3 := hem.1
      rw [← ek] at h3
      have hmx := (gV_ok h3 k2).1
      have : m = m0 := ent_keys ha hes hpw m hm m0 (hp.mem_iff.2 hm0) (by rw [h0]; exact hmx.symm)
      subst this
      simp only [cond_true, if_true]
      exact ⟨k1, hy⟩
    | false =>
      simp only [cond_false]
      rw [if_neg]
      · exact hem
      · intro hbm
        have := born_inj hn m (hp.mem_iff.1 hm) m0 hm0 hbm
        subst this
        have h3 := hem.1
        rw [h0] at h3
        have := gV_inj h3 k1 (okKey_ok (hes e he) hem.1).2.1 k2
        rw [this, hs] at hke; cases hke
  · intro e he
    rw [hse] at he
    obtain ⟨e', he', rfl⟩ := List.mem_map.1 he
    cases keyEq k e'.key with
    | true => exact hk
    | false => exact hes e' he'
  · rw [hse]
    refine List.pairwise_map.2 (hpw.imp_of_mem fun {a b} ha' hb' hab => ?_)
    cases h1 : keyEq k a.key <;> cases h2 : keyEq k b.key <;> simp only [cond_true, cond_false]
    · exact hab
    · have := keyEq_eq h2
      rw [← this] at hab; exact hab
    · exact h2
    · have e1 := keyEq_eq h1
      have e2 := keyEq_eq h2
      rw [← e1, ← e2] at hab; exact hab
  · intro e he
    obtain ⟨m, hm, _, h2⟩ := sub e he
    rw [← h2]; exact hb m hm
  · rw [hl, List.map_map]
    have : (fun m : MapEntry => m.born) ∘ (fun m => if m.born = m0.born then { m with key := x, val := y } else m) = fun m => m.born := by
      funext m; simp only [Function.comp]; split <;> rfl
    rw [this]; exact hn
/-- the map with a key more -/
theorem MapR.add {kt : TypeId} {es : List Ent} {cl : Nat} {L : Array MapEntry} {k v : V} {x y : Value} (h : MapR P φ kt es cl (some (.map L cl)))
    (hk : okKey P kt k = true) (hv : VR φ k x) (hy : VR φ v y) (hf : findE k es = none) :
    MapR P φ kt (es ++ [⟨k, v⟩]) (cl + 1) (some (.map (L.push { key := x, val := y, born := cl }) (cl + 1))) := by
  obtain ⟨L1, l, e1, hp, ha, hes, hpw, hb, hn⟩ := h
  cases e1
  obtain ⟨k1, k2, lx, k3⟩ := okKey_ok hk hv
  refine ⟨_, l ++ [{ key := x, val := y, born := cl }], rfl, by rw [Array.toList_push]; exact hp.append_right _, ha.snoc ⟨k1, hy⟩, ?_, ?_, ?_, ?_⟩
  · intro e he
    rcases List.mem_append.1 he with he | he
    · exact hes e he
    · simp at he; subst he; exact hk
  · refine List.pairwise_append.2 ⟨hpw, by simp, fun a ha' b hb' => ?_⟩
    simp at hb'; subst hb'
    have := findE_none hf a ha'
    cases hq : keyEq a.key k with
    | false => rfl
    | true => rw [keyEq_eq hq, keyEq_self k2] at this; cases this
  · intro m hm
    rw [Array.toList_push] at hm
    rcases List.mem_append.1 hm with hm | hm
    · have := hb m hm; omega
    · simp at hm; subst hm; simp
  · rw [Array.toList_push, List.map_append, List.nodup_append]
    refine ⟨hn, by simp, fun a ha' b hb' => ?_⟩
    simp at hb'; subst hb'
    obtain ⟨m, hm, rfl⟩ := List.mem_map.1 ha'
    have := hb m hm
    omega
/-- the map without a key -/
theorem MapR.del {kt : TypeId} {es : List Ent} {cl : Nat} {L : Array MapEntry} {k : V} {x : Value} {j : Nat} {m0 : MapEntry} (h : MapR P φ kt es cl (some (.map L cl)))
    (hk : okKey P kt k = true) (hv : VR φ k x) (hj : L.toList[j]? = some m0) (h0 : m0.key = x) :
    MapR P φ kt (delE k es) cl (some (.map (L.eraseIdxIfInBounds j) cl)) ∧
    ∀ e ∈ (L.eraseIdxIfInBounds j).toList, ∃ m ∈ L.toList, m.key = e.key ∧ m.born = e.born := by
  obtain ⟨L1, l, e1, hp, ha, hes, hpw, hb, hn⟩ := h
  cases e1
  obtain ⟨k1, k2, lx, k3⟩ := okKey_ok hk hv
  have hs : keyEq k k = true := keyEq_self k2
  have hm0 : m0 ∈ L.toList := List.mem_of_getElem? hj
  have hl : (L.eraseIdxIfInBounds j).toList = L.toList.filter fun m => !(m.born == m0.born) := by
    have hlt : j < L.size := by
      obtain ⟨h1, _⟩ := List.getElem?_eq_some_iff.1 hj
      simpa using h1
    rw [Array.eraseIdxIfInBounds, dif_pos hlt, Array.toList_eraseIdx, erase_born hn hj]
  have hde := delE_filter (k := k) hpw
  refine ⟨⟨_, l.filter fun m => !(m.born == m0.born), rfl, by rw [hl]; exact hp.filter _, ?_, ?_, ?_, ?_, ?_⟩, ?_⟩
  · rw [hde]
    refine ha.filter fun e he m hm hem => ?_
    cases hke : keyEq k e.key with
    | true =>
      have ek := keyEq_eq hke
      have h3 := hem.1
      rw [← ek] at h3
      have hmx := (gV_ok h3 k2).1
      have : m = m0 := ent_keys ha hes hpw m hm m0 (hp.mem_iff.2 hm0) (by rw [h0]; exact hmx.symm)
      subst this
      simp
    | false =>
      have : m.born ≠ m0.born := by
        intro hbm
        have := born_inj hn m (hp.mem_iff.1 hm) m0 hm0 hbm
        subst this
        have h3 := hem.1
        rw [h0] at h3
        have := gV_inj h3 k1 (okKey_ok (hes e he) hem.1).2.1 k2
        rw [this, hs] at hke; cases hke
      simp [this]
  · intro e he
    rw [hde] at he
    exact hes e (List.mem_filter.1 he).1
  · rw [hde]; exact hpw.filter _
  · intro m hm
    rw [hl] at hm
    exact hb m (List.mem_filter.1 hm).1
  · rw [hl]
    exact hn.sublist (List.Sublist.map _ (List.filter_sublist))
  · intro e he
    rw [hl] at he
    exact ⟨e, (List.mem_filter.1 he).1, rfl, rfl⟩
end
end Go.X

namespace Go.X
open Go.Maps (Keyed)
section
variable {P : Program} {φ : Ph} {H : Nat → Obj} {w : World} {ρ : Operand → Value} {o : Oper} {c : Cx}
theorem args_two {α : Type} {a : Array α} {x y : α} (h : a.toList = [x, y]) : a = #[x, y] := by rw [← h]
theorem okKey_check {kt : TypeId} (K : Keyed P kt) {k : V} {x : Value} (hk : okKey P kt k = true) (hv : VR φ k x) (em : Bool) : (Instr.checkKey em 10000 kt x).run P w = .ok () w := by
  obtain ⟨_, _, _, h⟩ := okKey_ok hk hv
  exact K.check w em h
theorem map_inv {r : Nat} {x : Value} (h : VR φ (.map r) x) : ∃ R sz, x = .map (some R) ∧ φ r = some (R, 0, sz) := by cases h; exact ⟨_, _, rfl, ‹_›⟩
theorem nilm_inv {x : Value} (h : VR φ .nilm x) : x = .map none := by cases h; rfl
theorem mapTy_und {t kt et : TypeId} (h : mapTy P t = some (kt, et)) : P.underlying t = some (.map kt et) := (mapTy_keyed h).1
theorem effDelete_ok {q : Call} {m k : Operand} (hs : Sub (c.hp) H) (hR : RelH P φ H w) (ho : o.op = .call q) (hq : q.callee = .builtin .delete) (ha : q.args.toList = [m, k])
    (hm : VR φ (c.rd m) (ρ m)) (hk : VR φ (c.rd k) (ρ k)) :
    EffOk P φ H c.nx w (effDelete q.argTypes.toList m k P c) ((execOp ρ o).run P w) := by
  have hargs := args_two ha
  unfold effDelete
  cases ht : q.argTypes.toList with
  | nil => trivial
  | cons t ts =>
    have h0 := first_type ht
    simp only
    cases hmt : mapTy P t with
    | none => trivial
    | some p =>
      obtain ⟨kt, et⟩ := p
      have hu := mapTy_und hmt
      have K := (mapTy_keyed hmt).2
      have hrun : ∀ {y : Value} {w' : World}, ρ m = y → (Builtin.delete_ q.argTypes o.type #[y, ρ k]).run P w = .ok (.tuple #[]) w' → (execOp ρ o).run P w = .ok (.value undef) w' := by
        intro y w' hy h
        refine run_builtin ho hq ?_
        rw [hargs]
        simp only [builtin, List.map_toArray, List.map_cons, List.map_nil, hy]
        exact run_v h
      have hx0 : ∀ y z : Value, (#[y, z] : Array Value)[0]? = some y := fun _ _ => rfl
      have hx1 : ∀ y z : Value, (#[y, z] : Array Value)[1]? = some z := fun _ _ => rfl
      cases hc : c.rd m <;> (try trivial)
      · rename_i r
        simp only
        cases hob : c.hp r <;> (try trivial)
        rename_i kt' es cl
        simp only
        cases hg : (Nat.beq kt kt' && okKey P kt (c.rd k)) with
        | false => trivial
        | true =>
          obtain ⟨g1, g2⟩ := and2 hg
          have g1 := Nat.eq_of_beq_eq_true g1
          subst g1
          rw [hc] at hm
          obtain ⟨R, sz, hy, hφ⟩ := map_inv hm
          obtain ⟨L, m1, m2⟩ := map_of hs hR hob hφ
          have hb := sub_ne hs hob (by simp)
          have m2' := m2
          obtain ⟨L1, l, e1, hp, hal, hes, hpw, hbn, hnd⟩ := m2'
          cases e1
          obtain ⟨f1, f2⟩ := find_ok (w := w) K g2 hk hp hal hes hpw
          have hch := okKey_check (w := w) K g2 hk
          simp only [cond_true]
          cases hf : findE (c.rd k) es with
          | some v =>
            obtain ⟨j, m0, f3, f4, f5, f6⟩ := f1 v hf
            obtain ⟨d1, d2⟩ := m2.del g2 hk f4 f5
            obtain ⟨s1, s2⟩ := hR.set_map hφ hb m1 d1 (fun since seen last seen' hh => hh.mono d2)
            refine ⟨undef, _, .inl (hrun hy ?_), .tup _ _ .nil, s1, s2⟩
            simp only [Builtin.delete_, h0, hx0, hx1, Sem.run_bind, run_underlying' hu, Result.andThen, run_getObj' m1 rfl, hch, f3, run_setObj' _ m1 rfl, Sem.run_pure]
          | none =>
            obtain ⟨f3, f4⟩ := f2 hf
            have hR' : R < w.heap.size := (Array.getElem?_eq_some_iff.1 m1).1
            obtain ⟨s1, s2⟩ := hR.set_map hφ hb m1 m2 (fun since seen last seen' hh => hh)
            have hup : upd H r (.map kt es cl) = H := by
              funext z; unfold upd; split
              · rename_i e; rw [e, hb]
              · rfl
            rw [hup] at s1 s2
            refine ⟨undef, _, .inl (hrun hy ?_), .tup _ _ .nil, s1, s2⟩
            simp only [Builtin.delete_, h0, hx0, hx1, Sem.run_bind, run_underlying' hu, Result.andThen, run_getObj' m1 rfl, hch, f3, run_setObj' _ m1 rfl, Sem.run_pure]
      · simp only
        cases g2 : okKey P kt (c.rd k) with
        | false => trivial
        | true =>
          rw [hc] at hm
          refine .value (hrun (nilm_inv hm) ?_) (.tup _ _ .nil) hR
          simp only [Builtin.delete_, h0, hx0, hx1, Sem.run_bind, run_underlying' hu, Result.andThen, okKey_check (w := w) K g2 hk, Sem.run_pure]
theorem zeroV_ok {t : TypeId} {v : V} (h : zeroV P t = some v) : ∃ z, VR φ v z ∧ ∀ w, (zeroValue t).run P w = .ok z w := by
  unfold zeroV at h
  cases hi : P.info? t with
  | none => rw [hi] at h; cases h
  | some i =>
    rw [hi] at h
    simp only at h
    cases hz : i.zero with
    | none => rw [hz] at h; cases h
    | some z =>
      rw [hz] at h
      cases h
      refine ⟨z, ofV_ok z, fun w => ?_⟩
      simp only [zeroValue, Sem.run_bind, run_typeInfo' hi, Result.andThen, hz]; rfl
theorem effLookup_ok {t : TypeId} {x i : Operand} {ok : Bool} (hs : Sub (c.hp) H) (hR : RelH P φ H w) (ho : o.op = .lookup t x i ok)
    (hx : VR φ (c.rd x) (ρ x)) (hi : VR φ (c.rd i) (ρ i)) :
    EffOk P φ H c.nx w (effLookup t x i ok P c) ((execOp ρ o).run P w) := by
  have hrun : ∀ {y : Value}, (Instr.lookup t (ρ x) (ρ i) ok).run P w = .ok y w → (execOp ρ o).run P w = .ok (.value y) w := by
    intro y h
    simp only [execOp, ho]
    exact run_v h
  unfold effLookup
  cases hmt : mapTy P t with
  | none => trivial
  | some p =>
    obtain ⟨kt, et⟩ := p
    have hu := mapTy_und hmt
    have K := (mapTy_keyed hmt).2
    simp only
    cases hkk : okKey P kt (c.rd i) with
    | false => trivial
    | true =>
      simp only [cond_true]
      have hch := okKey_check (w := w) K hkk hi
      cases hc : c.rd x <;> (try trivial)
      · rename_i r
        simp only
        cases hob : c.hp r <;> (try trivial)
        rename_i kt' es cl
        simp only
        cases hg : Nat.beq kt kt' with
        | false => trivial
        | true =>
          have g1 := Nat.eq_of_beq_eq_true hg
          subst g1
          rw [hc] at hx
          obtain ⟨R, sz, hy, hφ⟩ := map_inv hx
          obtain ⟨L, m1, m2⟩ := map_of hs hR hob hφ
          obtain ⟨L1, l, e1, hp, hal, hes, hpw, hbn, hnd⟩ := m2
          cases e1
          obtain ⟨f1, f2⟩ := find_ok (w := w) K hkk hi hp hal hes hpw
          simp only [cond_true]
          cases hf : findE (c.rd i) es with
          | some v =>
            obtain ⟨j, m0, f3, f4, f5, f6⟩ := f1 v hf
            cases ok with
            | true =>
              refine .value (hrun ?_) (.tup _ _ (.cons _ _ _ _ f6 (.cons _ _ _ _ (.bool true) .nil))) hR
              simp only [Instr.lookup, hy, Sem.run_bind, run_underlying' hu, Result.andThen, run_getObj' m1 rfl, hch, f3, Sem.run_pure, if_true]
            | false =>
              refine .value (hrun ?_) f6 hR
              simp only [Instr.lookup, hy, Sem.run_bind, run_underlying' hu, Result.andThen, run_getObj' m1 rfl, hch, f3, Sem.run_pure, Bool.false_eq_true, if_false]
          | none =>
            obtain ⟨f3, f4⟩ := f2 hf
            simp only
            cases hz : zeroV P et with
            | none => trivial
            | some z =>
              obtain ⟨zv, z1, z2⟩ := zeroV_ok (φ := φ) hz
              simp only
              cases ok with
              | true =>
                refine .value (hrun ?_) (.tup _ _ (.cons _ _ _ _ z1 (.cons _ _ _ _ (.bool false) .nil))) hR
                simp only [Instr.lookup, hy, Sem.run_bind, run_underlying' hu, Result.andThen, run_getObj' m1 rfl, hch, f3, z2, Sem.run_pure, if_true]
              | false =>
                refine .value (hrun ?_) z1 hR
                simp only [Instr.lookup, hy, Sem.run_bind, run_underlying' hu, Result.andThen, run_getObj' m1 rfl, hch, f3, z2, Sem.run_pure, Bool.false_eq_true, if_false]
      · simp only
        rw [hc] at hx
        have hy := nilm_inv hx
        have f3 : (Instr.findKey kt (ρ i) (#[] : Array MapEntry).toList).run P w = .ok none w := by
          obtain ⟨_, _, lx, k3⟩ := okKey_ok hkk hi
          rcases K.find w k3 (#[] : Array MapEntry).toList (by simp) with h | ⟨j, e, h1, h2, _⟩
          · exact h.1
          · simp at h2
        cases hz : zeroV P et with
        | none => trivial
        | some z =>
          obtain ⟨zv, z1, z2⟩ := zeroV_ok (φ := φ) hz
          simp only
          cases ok with
          | true =>
            refine .value (hrun ?_) (.tup _ _ (.cons _ _ _ _ z1 (.cons _ _ _ _ (.bool false) .nil))) hR
            simp only [Instr.lookup, hy, Sem.run_bind, run_underlying' hu, Result.andThen, Sem.run_pure, hch, f3, z2, if_true]
          | false =>
            refine .value (hrun ?_) z1 hR
            simp only [Instr.lookup, hy, Sem.run_bind, run_underlying' hu, Result.andThen, Sem.run_pure, hch, f3, z2, Bool.false_eq_true, if_false]
theorem effUpdate_ok {t : TypeId} {m k v : Operand} (hs : Sub (c.hp) H) (hR : RelH P φ H w) (ho : o.op = .mapUpdate t m k v ∨ o.op = .insert t m k v)
    (hm : VR φ (c.rd m) (ρ m)) (hk : VR φ (c.rd k) (ρ k)) (hv : VR φ (c.rd v) (ρ v)) :
    EffOk P φ H c.nx w (effUpdate t m k v P c) ((execOp ρ o).run P w) := by
  have hrun : ∀ {w' : World}, (Instr.mapUpdate t (ρ m) (ρ k) (ρ v)).run P w = .ok () w' → (execOp ρ o).run P w = .ok .skip w' := by
    intro w' h
    rcases ho with ho | ho <;> simp only [execOp, ho] <;> exact run_u h
  unfold effUpdate
  cases hmt : mapTy P t with
  | none => trivial
  | some p =>
    obtain ⟨kt, et⟩ := p
    have hu := mapTy_und hmt
    have K := (mapTy_keyed hmt).2
    cases hc : c.rd m <;> (try trivial)
    rename_i r
    simp only
    cases hob : c.hp r <;> (try trivial)
    rename_i kt' es cl
    simp only
    cases hg : (Nat.beq kt kt' && okKey P kt (c.rd k)) with
    | false => trivial
    | true =>
      obtain ⟨g1, g2⟩ := and2 hg
      have g1 := Nat.eq_of_beq_eq_true g1
      subst g1
      rw [hc] at hm
      obtain ⟨R, sz, hy, hφ⟩ := map_inv hm
      obtain ⟨L, m1, m2⟩ := map_of hs hR hob hφ
      have hb := sub_ne hs hob (by simp)
      have m2' := m2
      obtain ⟨L1, l, e1, hp, hal, hes, hpw, hbn, hnd⟩ := m2'
      cases e1
      obtain ⟨f1, f2⟩ := find_ok (w := w) K g2 hk hp hal hes hpw
      have hch := okKey_check (w := w) K g2 hk
      simp only [cond_true]
      cases hf : findE (c.rd k) es with
      | some u =>
        obtain ⟨j, m0, f3, f4, f5, f6⟩ := f1 u hf
        obtain ⟨d1, d2⟩ := m2.put g2 hk hv f4 f5
        obtain ⟨s1, s2⟩ := hR.set_map hφ hb m1 d1 (fun since seen last seen' hh => hh.mono d2)
        refine ⟨undef, _, .inr ⟨hrun ?_, rfl⟩, .tup _ _ .nil, s1, s2⟩
        have hst : (Instr.keyThatStays (((L[j]?).map (·.key)).getD (ρ k)) (ρ k)).run P w = .ok (ρ k) w := by
          have : L[j]? = some m0 := by simpa using f4
          simp only [this, Option.map_some, Option.getD_some, f5]
          obtain ⟨_, _, lx, k3⟩ := okKey_ok g2 hk
          exact K.stays w k3
        simp only [Instr.mapUpdate, hy, Sem.run_bind, run_underlying' hu, Result.andThen, run_getObj' m1 rfl, hch, f3, hst, run_setObj' _ m1 rfl]
      | none =>
        obtain ⟨f3, f4⟩ := f2 hf
        obtain ⟨s1, s2⟩ := hR.set_map hφ hb m1 (m2.add g2 hk hv hf) (fun since seen last seen' hh => ⟨by have := hh.1; omega, by have := hh.2.1; omega, fun e => by have := hh.1; omega, fun e => by have := hh.2.1; omega, hh.2.2.2.2⟩)
        refine ⟨undef, _, .inr ⟨hrun ?_, rfl⟩, .tup _ _ .nil, s1, s2⟩
        simp only [Instr.mapUpdate, hy, Sem.run_bind, run_underlying' hu, Result.andThen, run_getObj' m1 rfl, hch, f3, run_setObj' _ m1 rfl]
end
end Go.X

namespace Go.X
open Go.Maps (Keyed)
section
variable {P : Program} {φ : Ph} {H : Nat → Obj} {w : World} {ρ : Operand → Value} {o : Oper} {c : Cx}
theorem effRange_ok {t : TypeId} {x : Operand} (hn : φ c.nx = none) (hs : Sub (c.hp) H) (hR : RelH P φ H w) (ho : o.op = .range t x) (hx : VR φ (c.rd x) (ρ x)) :
    EffOk P φ H c.nx w (effRange t x P c) ((execOp ρ o).run P w) := by
  have hH := hR.nx_free hn
  have hrun : ∀ {w' : World}, (Instr.range t (ρ x)).run P w = .ok (.pointer (some ⟨w.heap.size, 0, none⟩)) w' → (execOp ρ o).run P w = .ok (.value (.pointer (some ⟨w.heap.size, 0, none⟩))) w' := by
    intro w' h
    simp only [execOp, ho]
    exact run_v h
  have hp : ∀ sz, VR (φ.set c.nx (w.heap.size, 0, sz)) (.ptr c.nx 0) (.pointer (some ⟨w.heap.size, 0, none⟩)) := fun sz => .ptr _ _ _ 0 sz (Ph.set_same _ _ _)
  unfold effRange
  cases hu : P.underlying t with
  | none => trivial
  | some d =>
    cases d <;> (try trivial)
    · cases hc : c.rd x <;> (try trivial)
      rename_i s l
      rw [hc] at hx
      generalize hy : ρ x = y at hx
      cases hx with
      | str _ _ hsl =>
        refine ⟨_, w, .stringIter (strB s l) 0, 0, 0, .inl (hrun ?_), rfl, rfl, rfl, rfl, hp 0, ⟨rfl, hsl, rfl⟩, fun m since seen last e => by cases e⟩
        simp only [hy, Instr.range, Sem.run_bind, run_underlying' hu, Result.andThen, run_newObj, Sem.run_pure, World.add]
    · cases hc : c.rd x <;> (try trivial)
      · rename_i r
        simp only
        cases hob : c.hp r <;> (try trivial)
        rename_i kt es cl
        rw [hc] at hx
        obtain ⟨R, sz, hy, hφ⟩ := map_inv hx
        obtain ⟨L, m1, m2⟩ := map_of hs hR hob hφ
        have hb := sub_ne hs hob (by simp)
        have hrn : r ≠ c.nx := by rintro rfl; rw [hn] at hφ; cases hφ
        have hobj : ObjR P (φ.set c.nx (w.heap.size, 0, 0)) (.miter (some r) cl [] cl) (some (.mapIter (some R) cl #[] cl)) 0 0 :=
          ⟨rfl, _, _, rfl, R, sz, by rw [Ph.set_ne _ _ hrn]; exact hφ, rfl⟩
        refine ⟨_, w, .mapIter (some R) cl #[] cl, 0, 0, .inl (hrun ?_), rfl, rfl, rfl, rfl, hp 0, hobj, fun m since seen last e => ?_⟩
        · simp only [hy, Instr.range, Sem.run_bind, run_underlying' hu, Result.andThen, run_getObj' m1 rfl, run_newObj, Sem.run_pure, World.add]
        · cases e
          refine ⟨by rw [hb]; simp, hR.new hn hH hobj ?_ (fun kt es cl e => by cases e) (fun since seen last e => ?_)⟩
          · intro m' since' seen' last' e kt' es' cl' hm' M o' s' R' L' seen'' hM hg hL
            cases e
            cases hg
            rw [hb] at hm'; cases hm'
            refine ⟨Nat.le_refl _, Nat.le_refl _, fun _ e he => by simp, fun _ k hk => by simp [lastL] at hk, by simp⟩
          · cases e; exact hrn rfl
      · rw [hc] at hx
        have hy := nilm_inv hx
        have hobj : ObjR P (φ.set c.nx (w.heap.size, 0, 0)) (.miter none 0 [] 0) (some (.mapIter none 0 #[] 0)) 0 0 := ⟨rfl, none, _, rfl, rfl⟩
        refine ⟨_, w, .mapIter none 0 #[] 0, 0, 0, .inl (hrun ?_), rfl, rfl, rfl, rfl, hp 0, hobj, fun m since seen last e => by cases e⟩
        simp only [hy, Instr.range, Sem.run_bind, run_underlying' hu, Result.andThen, run_newObj, Sem.run_pure, World.add]
end
end Go.X

namespace Go.X
open Go.Maps (Keyed)
section
variable {P : Program} {φ : Ph} {H : Nat → Obj} {w : World} {ρ : Operand → Value} {o : Oper} {c : Cx}
theorem ptr0_inv {b : Nat} {x : Value} (h : VR φ (.ptr b 0) x) : ∃ B off sz, x = .pointer (some ⟨B, off, none⟩) ∧ φ b = some (B, off, sz) := by
  generalize hv : V.ptr b 0 = v at h
  cases h <;> cases hv
  exact ⟨_, _, _, rfl, ‹_›⟩
theorem memK_ok {k : V} : ∀ {l : List V}, memK k l = true ↔ ∃ x ∈ l, keyEq k x = true
  | [] => by simp [memK]
  | m :: r => by
    simp only [memK, List.mem_cons, exists_eq_or_imp]
    cases h : keyEq k m with
    | true => simp
    | false => simp only [cond_false, Bool.false_eq_true, false_or]; exact memK_ok
theorem leftE_ok {seen : List V} : ∀ {es : List Ent} {e : Ent}, e ∈ leftE seen es ↔ e ∈ es ∧ memK e.key seen = false
  | [], e => by simp [leftE]
  | a :: r, e => by
    simp only [leftE]
    cases h : memK a.key seen with
    | true =>
      simp only [cond_true, List.mem_cons]
      rw [leftE_ok]
      constructor
      · intro h1; exact ⟨.inr h1.1, h1.2⟩
      · rintro ⟨h1 | h1, h2⟩
        · subst h1; rw [h] at h2; cases h2
        · exact ⟨h1, h2⟩
    | false =>
      simp only [cond_false, List.mem_cons]
      rw [leftE_ok]
      constructor
      · rintro (h1 | h1)
        · subst h1; exact ⟨.inl rfl, h⟩
        · exact ⟨.inr h1.1, h1.2⟩
      · rintro ⟨h1 | h1, h2⟩
        · exact .inl h1
        · exact .inr ⟨h1, h2⟩
theorem lastL_snoc (k : V) : ∀ l : List V, lastL (l ++ [k]) = some k
  | [] => rfl
  | [a] => rfl
  | a :: b :: r => by
    have := lastL_snoc k (b :: r)
    simpa [lastL] using this
/-- what is left to an iterator, here and there -/
theorem left_ok {kt : TypeId} {es : List Ent} {cl : Nat} {L : Array MapEntry} {seen : List V} {seen' : Array Nat} {since last : Nat} (h : MapR P φ kt es cl (some (.map L cl)))
    (hi : IterC since seen last cl L.toList seen') (hc : cl = since) :
    (∀ e ∈ leftE seen es, ∃ m ∈ L.toList, seen'.contains m.born = false ∧ EntR φ e m) ∧
    (∀ m ∈ L.toList, seen'.contains m.born = false → ∃ e ∈ leftE seen es, EntR φ e m) := by
  obtain ⟨L1, l, e1, hp, ha, hes, hpw, hb, hn⟩ := h
  cases e1
  have hk := hi.2.2.2.2
  have key : ∀ e ∈ es, ∀ m ∈ L.toList, EntR φ e m → (memK e.key seen = true ↔ m.born ∈ seen'.toList) := by
    intro e he m hm hr
    obtain ⟨_, g1, _⟩ := okKey_ok (hes e he) hr.1
    rw [hi.2.2.1 hc m hm, memK_ok]
    constructor
    · rintro ⟨k, hk1, hk2⟩
      have := keyEq_eq hk2
      exact ⟨k, hk1, by rw [← this]; exact hr.1⟩
    · rintro ⟨k, hk1, hk2⟩
      obtain ⟨x, gx⟩ := hk k hk1
      have := gV_inj hr.1 hk2 g1 gx
      exact ⟨k, hk1, by rw [← this]; exact keyEq_self g1⟩
  have cont : ∀ n, seen'.contains n = false ↔ n ∉ seen'.toList := by
    intro n
    rw [← Bool.not_eq_true, Array.contains_iff_mem, Array.mem_def]
  refine ⟨fun e he => ?_, fun m hm hc' => ?_⟩
  · obtain ⟨h1, h2⟩ := leftE_ok.1 he
    obtain ⟨m, hm, hr⟩ := ha.fwd e h1
    have hm' := hp.mem_iff.1 hm
    refine ⟨m, hm', (cont _).2 (fun hb => ?_), hr⟩
    rw [(key e h1 m hm' hr).2 hb] at h2; cases h2
  · obtain ⟨e, he, hr⟩ := ha.bwd m (hp.mem_iff.2 hm)
    refine ⟨e, leftE_ok.2 ⟨he, ?_⟩, hr⟩
    cases h : memK e.key seen with
    | false => rfl
    | true => exact absurd ((key e he m hm hr).1 h) ((cont _).1 hc')
/-- an iterator goes on by one -/
theorem IterC.next {kt : TypeId} {es : List Ent} {cl : Nat} {L : Array MapEntry} {seen : List V} {seen' : Array Nat} {last : Nat} {e : Ent} {m : MapEntry} (h : MapR P φ kt es cl (some (.map L cl)))
    (hi : IterC cl seen last cl L.toList seen') (he : e ∈ es) (hm : m ∈ L.toList) (hr : EntR φ e m) : IterC cl (seen ++ [e.key]) cl cl L.toList (seen'.push m.born) := by
  obtain ⟨L1, l, e1, hp, ha, hes, hpw, hb, hn⟩ := h
  cases e1
  obtain ⟨_, g1, _⟩ := okKey_ok (hes e he) hr.1
  have same : ∀ a ∈ L.toList, (a.born = m.born ↔ VG e.key a.key) := by
    intro a ha'
    constructor
    · intro hab
      have := born_inj hn a ha' m hm hab
      subst this; exact hr.1
    · intro hab
      have e1 := (gV_ok hab g1).1
      have e2 := (gV_ok hr.1 g1).1
      have := ent_keys ha hes hpw a (hp.mem_iff.2 ha') m (hp.mem_iff.2 hm) (by rw [← e1, ← e2])
      rw [this]
  refine ⟨Nat.le_refl _, Nat.le_refl _, fun _ a ha' => ?_, fun _ k hk a ha' => ?_, fun k hk => ?_⟩
  · rw [Array.toList_push, List.mem_append, hi.2.2.1 rfl a ha']
    simp only [List.mem_singleton, List.mem_append]
    rw [same a ha']
    constructor
    · rintro (⟨k, h1, h2⟩ | h1)
      · exact ⟨k, .inl h1, h2⟩
      · exact ⟨e.key, .inr rfl, h1⟩
    · rintro ⟨k, h1 | h1, h2⟩
      · exact .inl ⟨k, h1, h2⟩
      · subst h1; exact .inr h2
  · rw [lastL_snoc] at hk; cases hk
    rw [Array.back?_push, Option.some.injEq, ← same a ha']
    exact eq_comm
  · rcases List.mem_append.1 hk with h1 | h1
    · exact hi.2.2.2.2 k h1
    · simp at h1; subst h1; exact ⟨_, g1⟩
end
end Go.X

namespace Go.X
open Go.Maps (Keyed)
section
variable {P : Program} {φ : Ph} {H : Nat → Obj} {w : World} {ρ : Operand → Value} {o : Oper} {c : Cx}
theorem upd_same (H : Nat → Obj) (b : Nat) (x : Obj) : upd H b x b = x := by simp [upd]
theorem upd_ne (H : Nat → Obj) {b y : Nat} (x : Obj) (h : y ≠ b) : upd H b x y = H y := by simp [upd, h]
/-- an iterator over a map goes on -/
theorem RelH.step_iter (hR : RelH P φ H w) {b B sz m R szm since last cl : Nat} {seen : List V} {seen' : Array Nat} {kt : TypeId} {es : List Ent} {L : Array MapEntry} {e : Ent} {me : MapEntry}
    (hb : H b = .miter (some m) since seen last) (hφ : φ b = some (B, 0, sz)) (hg : w.heap[B]? = some (.mapIter (some R) since seen' last)) (hφm : φ m = some (R, 0, szm))
    (hm : H m = .map kt es cl) (hgm : w.heap[R]? = some (.map L cl)) (hM : MapR P φ kt es cl (some (.map L cl))) (hc : cl = since) (he : e ∈ es) (hme : me ∈ L.toList) (hr : EntR φ e me) :
    RelH P φ (upd H b (.miter (some m) since (seen ++ [e.key]) cl)) (World.put w B (.mapIter (some R) since (seen'.push me.born) cl)) ∧
    ∀ nx, Stp φ H nx w φ (upd H b (.miter (some m) since (seen ++ [e.key]) cl)) nx (World.put w B (.mapIter (some R) since (seen'.push me.born) cl)) := by
  have hne : H b ≠ .free := by rw [hb]; simp
  have hB : B < w.heap.size := (Array.getElem?_eq_some_iff.1 hg).1
  have hbm : m ≠ b := by rintro rfl; rw [hb] at hm; cases hm
  have hI := hR.iter b m since seen last kt es cl hb hm _ _ _ _ _ _ _ _ _ hφ hφm hg hgm
  subst hc
  refine ⟨hR.set hne hφ ⟨rfl, _, _, rfl, R, szm, hφm, rfl⟩ ?_, fun nx => Stp.set nx hne hφ _ (fun m' h => by obtain ⟨_, _, _, e⟩ := h; cases e; exact ⟨b, _, _, _, hb⟩) _ (fun q hq => by rw [hg] at hq; cases hq)⟩
  intro x m2 since2 seen2 last2 kt2 es2 cl2 hx hm2 Bx o1 s1 M o2 s2 Rx L2 seen2' hBx hMx gB gM
  have em : m2 ≠ b := by rintro rfl; rw [upd_same] at hm2; cases hm2
  rw [upd_ne _ _ em] at hm2
  have hbm2 : φ m2 = some (M, o2, s2) := hMx
  have hMB : M ≠ B := hR.inj m2 b _ _ _ _ _ _ (by rw [hm2]; simp) hne em hMx hφ
  rw [put_ne _ _ hMB] at gM
  by_cases ex : x = b
  · subst ex
    rw [upd_same] at hx; cases hx
    rw [hφ] at hBx; cases hBx
    rw [put_get _ _ _ hB] at gB; cases gB
    rw [hm] at hm2; cases hm2
    rw [hφm] at hMx; cases hMx
    rw [hgm] at gM; cases gM
    exact hI.next hM he hme hr
  · rw [upd_ne _ _ ex] at hx
    rw [put_ne _ _ (hR.inj x b _ _ _ _ _ _ (by rw [hx]; simp) hne ex hBx hφ)] at gB
    exact hR.iter x m2 since2 seen2 last2 kt2 es2 cl2 hx hm2 _ _ _ _ _ _ Rx L2 seen2' hBx hMx gB gM
theorem effNext_ok {it : Operand} {isS : Bool} (hs : Sub (c.hp) H) (hR : RelH P φ H w) (ho : o.op = .next it isS) (hx : VR φ (c.rd it) (ρ it)) :
    EffOk P φ H c.nx w (effNext it isS P c) ((execOp ρ o).run P w) := by
  have hrun : ∀ {y : Value} {w' : World}, (Instr.next (ρ it) isS o.type).run P w = .ok y w' → (execOp ρ o).run P w = .ok (.value y) w' := by
    intro y w' h
    simp only [execOp, ho]
    exact run_v h
  unfold effNext
  cases hc : c.rd it <;> (try trivial)
  rename_i b off0
  cases off0 with
  | succ _ => trivial
  | zero =>
    rw [hc] at hx
    obtain ⟨B, off, sz, hy, hφ⟩ := ptr0_inv hx
    simp only
    cases hob : c.hp b <;> (try trivial)
    · rename_i s l p
      have hb := sub_ne hs hob (by simp)
      have hne : H b ≠ .free := by rw [hb]; simp
      have hcell := cell_of hR hne hφ
      rw [hb] at hcell
      obtain ⟨h0, hsl, hg⟩ := hcell
      subst h0
      cases isS with
      | false => trivial
      | true =>
        simp only
        cases hle : Nat.ble (p + 1) l with
        | false =>
          simp only [cond_false]
          refine .value (hrun ?_) (.tup _ _ (.cons _ _ _ _ (.bool false) .nil)) hR
          have : ¬ p < (strB s l).size := by rw [strB_size]; intro h; rw [Nat.ble_eq_true_of_le (by omega : p + 1 ≤ l)] at hle; cases hle
          simp only [hy, Instr.next, Sem.run_bind, run_getObj' hg rfl, Result.andThen, this, if_false, Sem.run_pure]
        | true =>
          have hlt : p < l := by have := Nat.le_of_ble_eq_true hle; omega
          simp only [cond_true]
          cases hd : sDecode s l p with
          | mk r wd =>
            simp only
            refine ⟨.tuple #[.bool true, goInt p, .int .i32 r], _, .inl (hrun ?_), .tup _ _ (.cons _ _ _ _ (.bool true) (.cons _ _ _ _ ?_ (.cons _ _ _ _ ?_ .nil))), hR.set hne hφ (ob := .siter s l (p + wd)) (g := .stringIter (strB s l) (p + wd)) ⟨rfl, hsl, rfl⟩ (hR.iter_set hne hφ rfl),
              fun nx => Stp.set nx hne hφ _ (fun m h => by obtain ⟨_, _, _, e⟩ := h; cases e) _ (fun q hq => by rw [hg] at hq; cases hq)⟩
            · have h1 : p < (strB s l).size := by rw [strB_size]; exact hlt
              have h2 := decode_ok s l p hlt
              rw [hd] at h2
              simp only [hy, Instr.next, Sem.run_bind, run_getObj' hg rfl, Result.andThen, h1, if_true, Sem.run_pure, h2, run_setObj' _ hg rfl]
            · exact .int _ _
            · exact .int _ _
    · rename_i m since seen last
      have hb := sub_ne hs hob (by simp)
      have hne : H b ≠ .free := by rw [hb]; simp
      have hcell := cell_of hR hne hφ
      rw [hb] at hcell
      obtain ⟨h0, M, seen', hg, hm⟩ := hcell
      subst h0
      cases isS with
      | true => cases m <;> trivial
      | false =>
        cases m with
        | none =>
          simp only at hm
          subst hm
          refine .value (hrun ?_) (.tup _ _ (.cons _ _ _ _ (.bool false) .nil)) hR
          simp only [hy, Instr.next, Sem.run_bind, run_getObj' hg rfl, Result.andThen, Sem.run_pure]
        | some m =>
          obtain ⟨R, szm, hφm, hM⟩ := hm
          subst hM
          simp only
          cases hom : c.hp m <;> (try trivial)
          rename_i kt es cl
          simp only
          cases hq : (Nat.beq cl since && Nat.beq cl last) with
          | false => trivial
          | true =>
            obtain ⟨q1, q2⟩ := and2 hq
            have q1 := Nat.eq_of_beq_eq_true q1
            have q2 := Nat.eq_of_beq_eq_true q2
            subst q1; subst q2
            obtain ⟨L, m1, m2⟩ := map_of hs hR hom hφm
            have hbm := sub_ne hs hom (by simp)
            have hI := hR.iter b m cl seen cl kt es cl hb hbm _ _ _ _ _ _ _ _ _ hφ hφm hg m1
            obtain ⟨l1, l2⟩ := left_ok m2 hI rfl
            have hbn : ∀ e ∈ L.toList, e.born < cl := by obtain ⟨L1, l, e1, hp, ha, hes, hpw, hbn, hn⟩ := m2; cases e1; exact hbn
            have hguard : (!seen'.isEmpty && !L.isEmpty && L.all fun e => decide (e.born ≥ cl)) = false := by
              cases hL : L.isEmpty with
              | true => simp
              | false =>
                have : (L.all fun e => decide (e.born ≥ cl)) = false := by
                  rw [Bool.eq_false_iff]
                  intro hall
                  rw [Array.all_eq_true] at hall
                  have hpos : 0 < L.size := by
                    rcases Nat.eq_zero_or_pos L.size with h | h
                    · rw [Array.isEmpty_eq_false_iff] at hL; exact absurd (Array.eq_empty_of_size_eq_zero h) hL
                    · exact h
                  have h1 := hall 0 hpos
                  have h2 := hbn L[0] (by simp)
                  simp at h1; omega
                simp [this]
            have hold : (L.filter fun e => !seen'.contains e.born).filter (fun e => decide (e.born < cl)) = L.filter fun e => !seen'.contains e.born := by
              rw [Array.filter_eq_self]
              intro a ha
              have := (Array.mem_filter.1 ha).1
              simpa using hbn a (by simpa using this)
            have hnew : (L.filter fun e => !seen'.contains e.born).filter (fun e => decide (e.born ≥ cl)) = #[] := by
              rw [Array.filter_eq_empty_iff]
              intro a ha
              have := (Array.mem_filter.1 ha).1
              have := hbn a (by simpa using this)
              simp; omega
            simp only [cond_true]
            generalize hleft : (L.filter fun e => !seen'.contains e.born) = left at hold hnew
            have hmem : ∀ e, e ∈ left.toList ↔ e ∈ L.toList ∧ seen'.contains e.born = false := by
              intro e; rw [← hleft]; simp
            cases hE : leftE seen es with
            | nil =>
              simp only
              have hempty : left = #[] := by
                apply Array.toList_inj.1
                apply List.eq_nil_iff_forall_not_mem.2
                intro e he
                obtain ⟨a1, a2⟩ := (hmem e).1 he
                obtain ⟨e', h1, _⟩ := l2 e a1 a2
                rw [hE] at h1; simp at h1
              refine .value (hrun ?_) (.tup _ _ (.cons _ _ _ _ (.bool false) .nil)) hR
              simp only [hy, Instr.next, Sem.run_bind, run_getObj' hg rfl, run_getObj' m1 rfl, Result.andThen, hguard, Bool.false_eq_true, if_false, hleft, hempty]
              simp [Question.forced]
            | cons e0 er =>
              simp only
              have hpos : left.isEmpty = false := by
                obtain ⟨me, h1, h2, h3⟩ := l1 e0 (by rw [hE]; simp)
                rw [Array.isEmpty_eq_false_iff]
                intro h
                have := (hmem me).2 ⟨h1, h2⟩
                rw [h] at this; simp at this
              -- which one is drawn
              have hlt : 0 < left.size := by
                rcases Nat.eq_zero_or_pos left.size with h | h
                · rw [Array.isEmpty_eq_false_iff] at hpos; exact absurd (Array.eq_empty_of_size_eq_zero h) hpos
                · exact h
              have hcand : (((if left.isEmpty = true then #[none] else #[]) ++ (left ++ #[]).map some) : Array (Option MapEntry)) = left.map some := by
                rw [hpos]; simp
              obtain ⟨n, w2, hn1, hn2, hn3, hn4, hn5, hn6⟩ : ∃ n w2, (choose (.mapNext left.size)).run P w = .ok n w2 ∧ n < left.size ∧ w2.heap = w.heap ∧ w2.os = w.os ∧ w2.tape = w.tape ∧ w2.output = w.output := by
                rw [run_choose]
                by_cases hf : (Question.mapNext left.size).forced = true
                · rw [if_pos hf]; exact ⟨_, _, rfl, hlt, rfl, rfl, rfl, rfl⟩
                · rw [if_neg hf]; exact ⟨_, _, rfl, by simp only [Question.cut]; exact Nat.mod_lt _ hlt, rfl, rfl, rfl, rfl⟩
              have hme : left[n] ∈ left.toList := by simp
              obtain ⟨a1, a2⟩ := (hmem _).1 hme
              obtain ⟨e, h1, h2⟩ := l2 _ a1 a2
              have hR2 : RelH P φ H w2 := hR.same hn3
              have hg2 : w2.heap[B]? = some (.mapIter (some R) cl seen' cl) := by rw [hn3]; exact hg
              have m12 : w2.heap[R]? = some (.map L cl) := by rw [hn3]; exact m1
              obtain ⟨r1, r2⟩ := hR2.step_iter hb hφ hg2 hφm hbm m12 m2 rfl (leftE_ok.1 h1).1 a1 h2
              rw [hE] at h1
              refine ⟨(.miter (some m) cl (seen ++ [e.key]) cl, .tup [.bool true, e.key, e.val]), List.mem_map.2 ⟨e, h1, rfl⟩, .tuple #[.bool true, left[n].key, left[n].val], _, .inl (hrun ?_),
                .tup _ _ (.cons _ _ _ _ (.bool true) (.cons _ _ _ _ h2.1.vr (.cons _ _ _ _ h2.2 .nil))), r1, fun nx => (Stp.same nx hn3 hn4 hn5 hn6).trans (r2 nx)⟩
              simp only [hy, Instr.next, Sem.run_bind, run_getObj' hg rfl, run_getObj' m1 rfl, Result.andThen, hguard, Bool.false_eq_true, if_false, hleft, hold, hnew, hcand, Array.size_map, hn1, Array.getElem?_map, Array.getElem?_eq_getElem hn2, Option.map_some, run_setObj' _ hg2 rfl, Sem.run_pure]
end
end Go.X

namespace Go.X
open Go.Maps (Keyed)
theorem hasM1_eq (q : String × TypeId) : ∀ l : List Method, hasM1 l q = l.any fun m => m.name == q.1 && m.sig == q.2
  | [] => rfl
  | m :: r => by
    simp only [hasM1, List.any_cons, hasM1_eq q r]
    cases (m.name == q.1 && m.sig == q.2) <;> rfl
theorem least_none {l : List String} : Instr.least l = none ↔ l = [] := by
  cases l <;> simp [Instr.least]
theorem missing_none {want : Array (String × TypeId)} {got : Array Method} : Instr.missingMethod want got = none ↔ allL (hasM1 got.toList) want.toList = true := by
  have h1 : allL (hasM1 got.toList) want.toList = true ↔ want.toList.filter (fun (name, sig) => !got.any fun m => m.name == name && m.sig == sig) = [] := by
    rw [List.filter_eq_nil_iff]
    constructor
    · intro h x hx
      have := allL_ok h x hx
      rw [hasM1_eq, Array.any_toList] at this
      simp [this]
    · intro h
      have key : ∀ l : List (String × TypeId), (∀ x ∈ l, hasM1 got.toList x = true) → allL (hasM1 got.toList) l = true := by
        intro l
        induction l with
        | nil => intro _; rfl
        | cons a r ih =>
          intro ha
          simp only [allL, ha a (List.mem_cons_self ..), cond_true]
          exact ih fun x hx => ha x (List.mem_cons_of_mem _ hx)
      refine key _ fun x hx => ?_
      have := h x hx
      rw [hasM1_eq, Array.any_toList]
      simpa using this
  rw [h1]
  unfold Instr.missingMethod
  simp only [List.partition_eq_filter_filter]
  constructor
  · intro h
    apply Classical.byContradiction
    intro hne
    generalize hm : (List.filter (fun (x : String × TypeId) => !got.any fun m => m.name == x.1 && m.sig == x.2) want.toList) = ms at *
    cases ms with
    | nil => exact hne rfl
    | cons a r =>
      simp only [List.map_cons, List.filter_cons] at h
      revert h
      split <;> split <;> simp_all [Instr.least]
  · intro h
    have h' : (List.filter (fun (x : String × TypeId) => !got.any fun m => m.name == x.1 && m.sig == x.2) want.toList) = [] := h
    rw [h']
    rfl
section
variable {P : Program} {φ : Ph} {H : Nat → Obj} {w : World} {ρ : Operand → Value} {o : Oper} {c : Cx}
theorem effEntry_ok {it : Operand} (hs : Sub (c.hp) H) (hR : RelH P φ H w) (ho : o.op = .entry it) (hx : VR φ (c.rd it) (ρ it)) :
    EffOk P φ H c.nx w (effEntry it P c) ((execOp ρ o).run P w) := by
  have hrun : ∀ {y : Value} {w' : World}, (Instr.entry (ρ it)).run P w = .ok y w' → (execOp ρ o).run P w = .ok (.value y) w' := by
    intro y w' h
    simp only [execOp, ho]
    exact run_v h
  unfold effEntry
  cases hc : c.rd it <;> (try trivial)
  rename_i b off0
  cases off0 with
  | succ _ => trivial
  | zero =>
    rw [hc] at hx
    obtain ⟨B, off, sz, hy, hφ⟩ := ptr0_inv hx
    simp only
    cases hob : c.hp b <;> (try trivial)
    rename_i m since seen last
    have hb := sub_ne hs hob (by simp)
    have hne : H b ≠ .free := by rw [hb]; simp
    have hcell := cell_of hR hne hφ
    rw [hb] at hcell
    obtain ⟨h0, M, seen', hg, hm⟩ := hcell
    subst h0
    cases m with
    | none => trivial
    | some m =>
      obtain ⟨R, szm, hφm, hM⟩ := hm
      subst hM
      simp only
      cases hl : lastL seen with
      | none => trivial
      | some k =>
        cases hom : c.hp m <;> (try trivial)
        rename_i kt es cl
        simp only
        cases hq : Nat.beq cl last with
        | false => trivial
        | true =>
          have q2 := Nat.eq_of_beq_eq_true hq
          subst q2
          cases hf : findE k es with
          | none => trivial
          | some v =>
            simp only
            obtain ⟨L, m1, m2⟩ := map_of hs hR hom hφm
            have hbm := sub_ne hs hom (by simp)
            have hI := hR.iter b m since seen cl kt es cl hb hbm _ _ _ _ _ _ _ _ _ hφ hφm hg m1
            have m2' := m2
            obtain ⟨L1, l, e1, hp, ha, hes, hpw, hbn, hnd⟩ := m2'
            cases e1
            obtain ⟨e, he, h1, h2⟩ := findE_some hf
            have ek := keyEq_eq h1
            obtain ⟨me, hme, hr⟩ := ha.fwd e he
            have hme' := hp.mem_iff.1 hme
            have hbk : seen'.back? = some me.born := (hI.2.2.2.1 rfl k hl me hme').2 (by rw [ek]; exact hr.1)
            have hfind : L.find? (fun x => x.born == me.born) = some me := by
              rw [← Array.find?_toList]
              have hsome : (L.toList.find? fun x => x.born == me.born).isSome = true := by
                rw [List.find?_isSome]; exact ⟨me, hme', by simp⟩
              obtain ⟨me', h3⟩ := Option.isSome_iff_exists.1 hsome
              rw [h3]
              have h4 := List.find?_some h3
              have h5 := List.mem_of_find?_eq_some h3
              rw [born_inj hnd me' h5 me hme' (by simpa using h4)]
            refine .value (hrun (y := .tuple #[me.key, me.val]) ?_) (.tup _ _ (.cons _ _ _ _ (by rw [ek]; exact hr.1.vr) (.cons _ _ _ _ (by rw [← h2]; exact hr.2) .nil))) hR
            have : (cl != cl) = false := by simp
            simp only [hy, Instr.entry, Sem.run_bind, run_getObj' hg rfl, run_getObj' m1 rfl, Result.andThen, hbk, this, Bool.false_eq_true, if_false, hfind, Sem.run_pure]
theorem effAssert_ok {x : Operand} {xt u : TypeId} {ok : Bool} (hR : RelH P φ H w) (ho : o.op = .typeAssert x xt u ok) (hx : VR φ (c.rd x) (ρ x)) :
    EffOk P φ H c.nx w (effAssert x xt u ok P c) ((execOp ρ o).run P w) := by
  have hrun : ∀ {y : Value} {w' : World}, (Instr.typeAssert (ρ x) xt u ok).run P w = .ok y w' → (execOp ρ o).run P w = .ok (.value y) w' := by
    intro y w' h
    simp only [execOp, ho]
    exact run_v h
  unfold effAssert
  simp only
  cases hu : P.underlying u with
  | none => simp only [isIfc, hu]; cases c.rd x <;> trivial
  | some d =>
    cases hd : isIfc P u with
    | none => cases c.rd x <;> trivial
    | some isI =>
      cases hc : c.rd x <;> (try trivial) <;> (try (cases isI <;> trivial))
      · -- a value in an interface
        rename_i t v
        rw [hc] at hx
        generalize hy : ρ x = y at hx hrun
        cases hx with
        | ifc _ _ vx hv =>
          cases isI with
          | true =>
            simp only
            have hI : ∃ want, d = .interface want := by
              unfold isIfc at hd; rw [hu] at hd
              cases d <;> first | exact ⟨_, rfl⟩ | cases hd
            obtain ⟨want, rfl⟩ := hI
            unfold hasMs
            rw [hu]
            cases hi : P.info? t with
            | none => trivial
            | some i =>
              simp only
              cases hmm : Instr.missingMethod want i.methods with
              | none =>
                rw [missing_none.1 hmm]
                cases ok with
                | true =>
                  refine .value (hrun ?_) (.tup _ _ (.cons _ _ _ _ (.ifc _ _ _ hv) (.cons _ _ _ _ (.bool true) .nil))) hR
                  simp only [Instr.typeAssert, Sem.run_bind, run_underlying' hu, Result.andThen, run_typeInfo' hi, hmm, if_true, Sem.run_pure]
                | false =>
                  refine .value (hrun ?_) (.ifc _ _ _ hv) hR
                  simp only [Instr.typeAssert, Sem.run_bind, run_underlying' hu, Result.andThen, run_typeInfo' hi, hmm, Bool.false_eq_true, if_false, Sem.run_pure]
              | some m =>
                have hne : allL (hasM1 i.methods.toList) want.toList = false := by
                  cases hq : allL (hasM1 i.methods.toList) want.toList with
                  | false => rfl
                  | true => rw [missing_none.2 hq] at hmm; cases hmm
                rw [hne]
                cases ok with
                | false => trivial
                | true =>
                  cases hz : zeroV P u with
                  | none => trivial
                  | some z =>
                    obtain ⟨zv, z1, z2⟩ := zeroV_ok (φ := φ) hz
                    refine .value (hrun ?_) (.tup _ _ (.cons _ _ _ _ z1 (.cons _ _ _ _ (.bool false) .nil))) hR
                    simp only [Instr.typeAssert, Sem.run_bind, run_underlying' hu, Result.andThen, run_typeInfo' hi, hmm, if_true, z2, Sem.run_pure]
          | false =>
            simp only
            have hI : ∀ want, d ≠ .interface want := by
              rintro want rfl
              unfold isIfc at hd; rw [hu] at hd; cases hd
            cases htu : Nat.beq t u with
            | true =>
              have := Nat.eq_of_beq_eq_true htu
              subst this
              simp only [cond_true]
              cases ok with
              | true =>
                refine .value (hrun ?_) (.tup _ _ (.cons _ _ _ _ hv (.cons _ _ _ _ (.bool true) .nil))) hR
                simp only [Instr.typeAssert, Sem.run_bind, run_underlying' hu, Result.andThen]
                cases d <;> first | exact absurd rfl (hI _) | simp only [if_true, Sem.run_pure]
              | false =>
                refine .value (hrun ?_) hv hR
                simp only [Instr.typeAssert, Sem.run_bind, run_underlying' hu, Result.andThen]
                cases d <;> first | exact absurd rfl (hI _) | simp only [if_true, Bool.false_eq_true, if_false, Sem.run_pure]
            | false =>
              have htu' : t ≠ u := by intro e; subst e; simp at htu
              simp only [cond_false]
              cases ok with
              | false => trivial
              | true =>
                cases hz : zeroV P u with
                | none => trivial
                | some z =>
                  obtain ⟨zv, z1, z2⟩ := zeroV_ok (φ := φ) hz
                  refine .value (hrun ?_) (.tup _ _ (.cons _ _ _ _ z1 (.cons _ _ _ _ (.bool false) .nil))) hR
                  simp only [Instr.typeAssert, Sem.run_bind, run_underlying' hu, Result.andThen]
                  cases d <;> first | exact absurd rfl (hI _) | simp only [htu', if_true, if_false, Sem.run_bind, z2, Result.andThen, Sem.run_pure]
      · rw [hc] at hx
        generalize hy : ρ x = y at hx hrun
        cases hx
        have key : ok = true → ∀ z, zeroV P u = some z → EffOk P φ H c.nx w (.val (.tup [z, .bool false])) ((execOp ρ o).run P w) := by
          intro hok z hz
          obtain ⟨zv, z1, z2⟩ := zeroV_ok (φ := φ) hz
          refine .value (hrun ?_) (.tup _ _ (.cons _ _ _ _ z1 (.cons _ _ _ _ (.bool false) .nil))) hR
          simp only [Instr.typeAssert, Sem.run_bind, run_underlying' hu, Result.andThen, hok]
          cases d <;> simp only [if_true, Sem.run_bind, z2, Result.andThen, Sem.run_pure]
        cases ok with
        | false => cases isI <;> trivial
        | true =>
          cases hz : zeroV P u with
          | none => cases isI <;> trivial
          | some z => cases isI <;> exact key rfl z hz
end
end Go.X

namespace Go.X
theorem methL_eq (name : String) : ∀ l : List Method, methL l name = l.find? (·.name == name)
  | [] => rfl
  | m :: r => by
    simp only [methL, List.find?_cons, methL_eq name r]
    cases (m.name == name) <;> rfl
section
variable {P : Program} {φ : Ph} {H : Nat → Obj} {w : World} {ρ : Operand → Value} {o : Oper} {c : Cx}
def isPtrD : TypeDesc → Bool | .pointer _ => true | _ => false
/-- what is asked of a function without a body -/
def ExtOk (P : Program) (f : FuncId) (x : Ext) : Prop := ∀ (φ : Ph) (H : Nat → Obj) (w : World) (c : Cx) (args : List V) (args' : Array Value), Sub (c.hp) H → RelH P φ H w → φ c.nx = none → (∀ g, g < 1000 → ∃ sz, φ g = some (g, 0, sz)) →
  VRs φ args args'.toList → EffOk P φ H c.nx w (effExt x args c) ((callFunc f args').run P w)
structure CfgOk (C : Cfg) : Prop where
  num : ∀ (f : FuncId) (fn : Func), C.P.funcs[f]? = some fn → (fn.name == "runtime.NumGoroutine") = false
  ext : ∀ (f : FuncId) (x : Ext), C.ext f = some x → ExtOk C.P f x
theorem callX_ok {C : Cfg} (hC : CfgOk C) {f : FuncId} {args : List V} {args' : Array Value} (hs : Sub (c.hp) H) (hR : RelH C.P φ H w) (hn : φ c.nx = none) (hgl : ∀ g, g < 1000 → ∃ sz, φ g = some (g, 0, sz)) (ha : VRs φ args args'.toList) :
    EffOk C.P φ H c.nx w (callX C f args c) ((callFunc f args').run C.P w) := by
  unfold callX
  cases hf : C.P.funcs[f]? with
  | none => trivial
  | some fn =>
    simp only
    cases hb : fn.body with
    | some code =>
      refine ⟨args', ?_, ha⟩
      simp only [callFunc, Sem.run_bind, run_program, Result.andThen, hf, hC.num f fn hf, hb, Bool.false_eq_true, if_false, Option.isNone_some, Sem.run_pure]
    | none =>
      simp only
      cases he : C.ext f with
      | none => trivial
      | some x => exact hC.ext f x he φ H w c args args' hs hR hn hgl ha
theorem run_callValue {q : Call} {f : Operand} (ho : o.op = .call q) (hq : q.callee = .value f) {fn : Fn} {cs : Array Value} (hv : ρ f = .func fn #[] cs)
    {r : Result Next} (hr : (invoke (.fn fn cs) (q.args.map ρ)).run P w = r) : (execOp ρ o).run P w = r := by
  have h0 : (#[] : Array Value) ++ q.args.map ρ = q.args.map ρ := by simp
  simp only [execOp, ho, Sem.run_bind, resolve, hq, hv, Deferred.ofValue, Sem.run_pure, Result.andThen, h0]
  exact hr
theorem effCallV_ok {C : Cfg} (hC : CfgOk C) {q : Call} {f : Operand} (hs : Sub (c.hp) H) (hR : RelH C.P φ H w) (hn : φ c.nx = none) (hgl : ∀ g, g < 1000 → ∃ sz, φ g = some (g, 0, sz)) (ho : o.op = .call q) (hq : q.callee = .value f)
    (hf : VR φ (c.rd f) (ρ f)) (ha : ∀ x ∈ q.args.toList, VR φ (c.rd x) (ρ x)) :
    EffOk C.P φ H c.nx w (match c.rd f with
    | .fn (.func g) cap => callX C g (rds q.args.toList c ++ cap) c
    | .fn (.yield l) _ => .round l (rds q.args.toList c)
    | _ => .bad "call: value") ((execOp ρ o).run C.P w) := by
  have hargs := rds_ok ha
  cases hc : c.rd f <;> (try trivial)
  rename_i fn cap
  rw [hc] at hf
  generalize hy : ρ f = y at hf
  cases hf with
  | fnF g l cs hl =>
    simp only
    have h : VRs φ (rds q.args.toList c ++ cap) (q.args.map ρ ++ (⟨cs⟩ : Array Value)).toList := by
      rw [Array.toList_append, Array.toList_map]; exact hargs.append hl
    have := callX_ok hC hs hR hn hgl h (f := g)
    rw [run_callValue ho hq hy (r := (callFunc g (q.args.map ρ ++ (⟨cs⟩ : Array Value))).run C.P w) rfl]
    exact this
  | fnY r R sz hφ =>
    simp only
    refine ⟨q.args.map ρ, by rw [Array.toList_map]; exact hargs, fun B sz' lp h1 h2 h3 => ?_⟩
    rw [hφ] at h1; cases h1
    rw [run_callValue ho hq hy rfl]
    simp only [invoke, Instr.yield, Instr.getLoop, Sem.run_bind, run_getObj' h2 rfl, Result.andThen, Sem.run_pure, h3, ne_eq, not_true_eq_false, if_false]
theorem run_callInvoke {q : Call} {r : Operand} {name : String} (ho : o.op = .call q) (hq : q.callee = .invoke r name)
    {res : Result Next} (hr : (callMethod (ρ r) name (q.args.map ρ)).run P w = res) : (execOp ρ o).run P w = res := by
  have h0 : (#[ρ r] ++ q.args.map ρ)[0]? = some (ρ r) := by rw [Array.getElem?_append_left (by simp)]; rfl
  have h1 : (#[ρ r] ++ q.args.map ρ).extract 1 (#[ρ r] ++ q.args.map ρ).size = q.args.map ρ := by
    apply Array.toList_inj.1
    simp
    exact List.take_of_length_le (by simp)
  simp only [execOp, ho, Sem.run_bind, resolve, hq, Sem.run_pure, Result.andThen, invoke, h0, h1]
  exact hr
theorem run_method {t : TypeId} {i : TypeInfo} {m : Method} {v : Value} {name : String} {f : FuncId} {pr : Bool} {d : TypeDesc} (k : Nat) (hi : P.info? t = some i) (hm : i.methods.find? (·.name == name) = some m)
    (hp : m.path.isEmpty = true) (hf : m.func = some (f, pr)) (hu : P.underlying t = some d) (hd : isPtrD d = pr) :
    (method (k + 1) t v name).run P w = .ok (f, v) w := by
  have hp' : m.path.toList = [] := by
    have := Array.isEmpty_iff.1 hp
    rw [this]
  simp only [method, Sem.run_bind, run_typeInfo' hi, Result.andThen, hm, hp', follow, Sem.run_pure, hf, hp, if_true, receiverAt, run_underlying' hu]
  cases d <;> simp only [isPtrD] at hd <;> subst hd <;> simp only [Place.get, Sem.run_pure]
theorem effInvoke_ok {C : Cfg} (hC : CfgOk C) {q : Call} {r : Operand} {name : String} (hs : Sub (c.hp) H) (hR : RelH C.P φ H w) (hn : φ c.nx = none) (hgl : ∀ g, g < 1000 → ∃ sz, φ g = some (g, 0, sz)) (ho : o.op = .call q) (hq : q.callee = .invoke r name)
    (hf : VR φ (c.rd r) (ρ r)) (ha : ∀ x ∈ q.args.toList, VR φ (c.rd x) (ρ x)) :
    EffOk C.P φ H c.nx w (effInvoke C (c.rd r) name (rds q.args.toList c) c) ((execOp ρ o).run C.P w) := by
  have hargs := rds_ok ha
  unfold effInvoke
  cases hc : c.rd r <;> (try trivial)
  rename_i t v
  rw [hc] at hf
  generalize hy : ρ r = y at hf
  cases hf with
  | ifc _ _ vx hv =>
    simp only
    unfold methOf
    cases hi : C.P.info? t with
    | none => trivial
    | some i =>
      simp only
      rw [methL_eq, Array.find?_toList]
      cases hm : i.methods.find? (·.name == name) with
      | none => trivial
      | some m =>
        simp only
        cases hp : m.path.isEmpty with
        | false => trivial
        | true =>
          simp only [cond_true]
          cases hmf : m.func with
          | none => trivial
          | some p =>
            obtain ⟨f, pr⟩ := p
            simp only
            have key : ∀ d, C.P.underlying t = some d → isPtrD d = pr → EffOk C.P φ H c.nx w (callX C f (v :: rds q.args.toList c) c) ((execOp ρ o).run C.P w) := by
              intro d hu hd
              have h : VRs φ (v :: rds q.args.toList c) (#[vx] ++ q.args.map ρ).toList := by
                simp only [Array.toList_append, Array.toList_map, List.cons_append, List.nil_append]
                exact .cons _ _ _ _ hv hargs
              have h2 := callX_ok hC hs hR hn hgl h (f := f)
              rw [run_callInvoke ho hq (res := (callFunc f (#[vx] ++ q.args.map ρ)).run C.P w) ?_]
              · exact h2
              · rw [hy]
                have hmet := run_method (w := w) (v := vx) (C.P.types.size + 99) hi hm hp hmf hu hd
                have hk : C.P.types.size + Made.depth = C.P.types.size + 99 + 1 := rfl
                simp only [callMethod, Sem.run_bind, run_program, Result.andThen, hk, hmet]
            unfold isPtr
            cases hu : C.P.underlying t with
            | none => cases pr <;> trivial
            | some d =>
              cases hd : isPtrD d with
              | true =>
                cases d <;> simp only [isPtrD] at hd <;> try cases hd
                cases pr with
                | true => exact key _ hu rfl
                | false => trivial
              | false =>
                cases pr with
                | true => cases d <;> trivial
                | false =>
                  cases d <;> first | (simp only [isPtrD] at hd; cases hd; done) | exact key _ hu rfl
end
end Go.X

namespace Go.X
section
variable {φ : Ph} {H : Nat → Obj} {w : World} {ρ : Operand → Value} {o : Oper} {c : Cx}
theorem opsB {b : Builtin} {q : Call} (hq : q.callee = .builtin b) (hv : ∀ x ∈ (Op.call q).operands.toList, VR φ (c.rd x) (ρ x)) : ∀ x ∈ q.args.toList, VR φ (c.rd x) (ρ x) := fun x hx => by
  refine hv x ?_
  simp only [Op.operands, Call.operands, hq, Array.toList_append]
  simpa using hx
theorem eff_ok {C : Cfg} (hC : CfgOk C) (hs : Sub (c.hp) H) (hR : RelH C.P φ H w) (hn : φ c.nx = none) (hgl : ∀ g, g < 1000 → ∃ sz, φ g = some (g, 0, sz)) (hf : isBig o.op = true → ∀ b, c.nx ≤ b → φ b = none)
    (hv : ∀ x ∈ o.op.operands.toList, VR φ (c.rd x) (ρ x)) :
    EffOk C.P φ H c.nx w (eff o.op C c) ((execOp ρ o).run C.P w) := by
  cases ho : o.op with
  | move x => rw [ho] at hv; exact effMove_ok (C := C) hR (.inl ho) (hv x (by simp [Op.operands]))
  | assign x => rw [ho] at hv; exact effMove_ok (C := C) hR (.inr ho) (hv x (by simp [Op.operands]))
  | pick k a b => rw [ho] at hv; exact effPick_ok hR ho (hv k (by simp [Op.operands])) (hv a (by simp [Op.operands])) (hv b (by simp [Op.operands]))
  | alloc e => exact effAlloc_ok hn ho
  | box e x => rw [ho] at hv; exact effBox_ok hn ho (hv x (by simp [Op.operands]))
  | build t ps => rw [ho] at hv; exact effBuild_ok hR ho (fun p hp => hv p.2 (by simp [Op.operands]; exact ⟨p.1, by simpa using hp⟩))
  | buildSlice t n ps => rw [ho] at hv; exact effBuildSlice_ok hn ho (fun p hp => hv p.2 (by simp [Op.operands]; exact ⟨p.1, by simpa using hp⟩))
  | insert t m k v => rw [ho] at hv; exact effUpdate_ok hs hR (.inr ho) (hv m (by simp [Op.operands])) (hv k (by simp [Op.operands])) (hv v (by simp [Op.operands]))
  | load t a => rw [ho] at hv; exact effLoad_ok hs hR ho (hv a (by simp [Op.operands]))
  | store t a x => rw [ho] at hv; exact effStore_ok hs hR ho (hv a (by simp [Op.operands])) (hv x (by simp [Op.operands]))
  | nilCheck x => rw [ho] at hv; exact effNil_ok hR ho (hv x (by simp [Op.operands]))
  | binOp op t x y q => rw [ho] at hv; exact effBin_ok hs hR ho (hv x (by simp [Op.operands])) (hv y (by simp [Op.operands]))
  | unOp op t x => rw [ho] at hv; exact effUn_ok hR ho (hv x (by simp [Op.operands]))
  | convert s d x => rw [ho] at hv; exact effConv_ok hs hR hn ho (hv x (by simp [Op.operands]))
  | makeInterface t x => rw [ho] at hv; exact effIface_ok hR ho (hv x (by simp [Op.operands]))
  | makeFunc f a b => rw [ho] at hv; exact effFunc_ok hR ho (fun x hx => hv x (by simp only [Op.operands, Array.toList_append, List.mem_append]; exact .inr hx))
  | makeMap t r => rw [ho] at hv; exact eMap_ok (c := c) rfl ho (fun x hx => hv x (by subst hx; simp [Op.operands]))
  | makeSlice t l k => rw [ho] at hv; exact effMakeSlice_ok hn ho (hv l (by simp [Op.operands])) (hv k (by simp [Op.operands]))
  | slice t x l h m => rw [ho] at hv; exact effSlice_ok hs hR ho (hv x (by simp [Op.operands])) (fun y hy => hv y (by subst hy; simp [Op.operands])) (fun y hy => hv y (by subst hy; simp [Op.operands])) (fun y hy => hv y (by subst hy; simp [Op.operands]))
  | fieldAddr s x f => rw [ho] at hv; exact effFieldAddr_ok hR ho (hv x (by simp [Op.operands]))
  | field s x f => rw [ho] at hv; exact effField_ok hR ho (hv x (by simp [Op.operands]))
  | indexAddr t x i => rw [ho] at hv; exact effIndexAddr_ok hR ho (hv x (by simp [Op.operands])) (hv i (by simp [Op.operands]))
  | index t x i => rw [ho] at hv; exact effIndex_ok hR ho (hv x (by simp [Op.operands])) (hv i (by simp [Op.operands]))
  | lookup t x i ok => rw [ho] at hv; exact effLookup_ok hs hR ho (hv x (by simp [Op.operands])) (hv i (by simp [Op.operands]))
  | mapUpdate t m k v => rw [ho] at hv; exact effUpdate_ok hs hR (.inl ho) (hv m (by simp [Op.operands])) (hv k (by simp [Op.operands])) (hv v (by simp [Op.operands]))
  | range t x => rw [ho] at hv; exact effRange_ok hn hs hR ho (hv x (by simp [Op.operands]))
  | next i s => rw [ho] at hv; exact effNext_ok hs hR ho (hv i (by simp [Op.operands]))
  | entry i => rw [ho] at hv; exact effEntry_ok hs hR ho (hv i (by simp [Op.operands]))
  | typeAssert x xt u ok => rw [ho] at hv; exact effAssert_ok hR ho (hv x (by simp [Op.operands]))
  | extract x i => rw [ho] at hv; exact effExtract_ok hR ho (hv x (by simp [Op.operands]))
  | call q =>
    rw [ho] at hv hf
    simp only [eff, effCall]
    cases hq : q.callee with
    | value f =>
      exact effCallV_ok hC hs hR hn hgl ho hq (hv f (by simp [Op.operands, Call.operands, hq])) (fun x hx => hv x (by simp only [Op.operands, Call.operands, Array.toList_append, List.mem_append]; exact .inr hx))
    | invoke r name =>
      exact effInvoke_ok hC hs hR hn hgl ho hq (hv r (by simp [Op.operands, Call.operands, hq])) (fun x hx => hv x (by simp only [Op.operands, Call.operands, Array.toList_append, List.mem_append]; exact .inr hx))
    | builtin b =>
      have ha := opsB hq hv
      have hb : b = b := rfl
      cases b <;> (try trivial)
      · rcases hx : q.args.toList with _ | ⟨s, _ | ⟨x, _ | ⟨y, r⟩⟩⟩ <;> simp only [effBuiltin, hx] <;> (try trivial)
        rw [hx] at ha; exact effAppend_ok hs hR (hf (by simp [isBig, hq])) ho hq hx (ha s (by simp)) (ha x (by simp))
      · rcases hx : q.args.toList with _ | ⟨x, _ | ⟨y, r⟩⟩ <;> simp only [effBuiltin, hx] <;> (try trivial)
        rw [hx] at ha; exact effCap_ok hR ho hq hx (ha x (by simp))
      · rcases hx : q.args.toList with _ | ⟨x, _ | ⟨y, r⟩⟩ <;> simp only [effBuiltin, hx] <;> (try trivial)
        rw [hx] at ha; exact effClear_ok hs hR ho hq hx (ha x (by simp))
      · rcases hx : q.args.toList with _ | ⟨s, _ | ⟨x, _ | ⟨y, r⟩⟩⟩ <;> simp only [effBuiltin, hx] <;> (try trivial)
        rw [hx] at ha; exact effCopy_ok hs hR ho hq hx (ha s (by simp)) (ha x (by simp))
      · rcases hx : q.args.toList with _ | ⟨s, _ | ⟨x, _ | ⟨y, r⟩⟩⟩ <;> simp only [effBuiltin, hx] <;> (try trivial)
        rw [hx] at ha; exact effDelete_ok hs hR ho hq hx (ha s (by simp)) (ha x (by simp))
      · rcases hx : q.args.toList with _ | ⟨x, _ | ⟨y, r⟩⟩ <;> simp only [effBuiltin, hx] <;> (try trivial)
        rw [hx] at ha; exact effLen_ok hs hR ho hq hx (ha x (by simp))
      · simp only [effBuiltin]; exact effMM_ok true hR ho hq ha
      · simp only [effBuiltin]; exact effMM_ok false hR ho hq ha
  | _ => trivial
end
end Go.X
