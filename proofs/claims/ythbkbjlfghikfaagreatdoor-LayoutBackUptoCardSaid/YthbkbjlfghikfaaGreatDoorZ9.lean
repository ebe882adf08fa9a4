/-
  OPERATIONS with a check: what is asked at run time stands apart from the value.
-/
import Derived.Test.YthbkbjlfghikfaaGreatDoorZ8
set_option linter.unusedVariables false
set_option linter.unusedSimpArgs false
namespace Go.Ab
open Go Go.RowKit
def Ext (β β' : Binds) : Prop := ∀ j b, bget β j = some b → bget β' j = some b
theorem Ext.refl (β : Binds) : Ext β β := fun _ _ h => h
theorem Ext.trans {a b c : Binds} (h : Ext a b) (k : Ext b c) : Ext a c := fun j x e => k j x (h j x e)
structure VB (m : Mp) (os : Slots) (β : Binds) : Prop where
 dom : ∀ j b, bget β j = some b → (os[j]?).isSome = true
 laid : ∀ j p nm, bget β j = some (.at p nm) → ∃ loc, m nm = some loc
 one : ∀ j j' p nm nm', bget β j = some (.at p nm) → bget β j' = some (.at p nm') → j = j'
theorem bfree_spec {p : Nat} : ∀ {β : Binds}, bfree p β = true → ∀ j nm, bget β j = some (.at p nm) → False
 | [], _, j, nm, e => by simp [bget] at e
 | (j', .nil) :: l, h, j, nm, e => by
  simp only [bget] at e
  split at e
  ·cases e
  ·exact bfree_spec (β := l) h j nm e
 | (j', .at p' n') :: l, h, j, nm, e => by
  simp only [bfree, Bool.and_eq_true, Bool.not_eq_true'] at h
  simp only [bget] at e
  split at e
  ·cases e; simp at h
  ·exact bfree_spec (β := l) h.2 j nm e
theorem bput_ext {j : Nat} {b : Bnd} {β β' : Binds} (h : bput j b β = some β') : Ext β β' ∧ bget β' j = some b ∧ ∀ j' b', bget β' j' = some b' → bget β j' = some b' ∨ (j' = j ∧ b' = b ∧ bget β j = none ∧ ∀ p nm, b = .at p nm → bfree p β = true) := by
 unfold bput at h
 split at h
 ·rename_i b0 hb
  split at h
  ·rename_i e; subst e; cases h; exact ⟨.refl _, hb, fun j' b' e => .inl e⟩
  ·cases h
 ·rename_i hb
  have key : ∀ b', Ext β ((j, b') :: β) ∧ bget ((j, b') :: β) j = some b' ∧ ∀ j2 b2, bget ((j, b') :: β) j2 = some b2 → bget β j2 = some b2 ∨ (j2 = j ∧ b2 = b') := fun b' => by
   refine ⟨fun j2 b2 e => ?_, by simp [bget], fun j2 b2 e => ?_⟩
   ·simp only [bget]
    split
    ·rename_i e'; subst e'; rw [hb] at e; cases e
    ·exact e
   ·simp only [bget] at e
    split at e
    ·rename_i e'; subst e'; cases e; exact .inr ⟨rfl, rfl⟩
    ·exact .inl e
  split at h
  ·cases h
   obtain ⟨k1, k2, k3⟩ := key .nil
   exact ⟨k1, k2, fun j2 b2 e => (k3 j2 b2 e).imp_right fun q => ⟨q.1, q.2, hb, fun p nm e => by cases e⟩⟩
  ·rename_i p nm
   split at h
   ·rename_i hf
    cases h
    obtain ⟨k1, k2, k3⟩ := key (.at p nm)
    exact ⟨k1, k2, fun j2 b2 e => (k3 j2 b2 e).imp_right fun q => ⟨q.1, q.2, hb, fun p' nm' e => by cases e; exact hf⟩⟩
   ·cases h
theorem bput_vb {m : Mp} {os : Slots} {j : Nat} {b : Bnd} {β β' : Binds} (h : bput j b β = some β') (hj : (os[j]?).isSome = true) (hl : ∀ p nm, b = .at p nm → ∃ loc, m nm = some loc) (hv : VB m os β) : VB m os β' := by
 obtain ⟨h1, h2, h3⟩ := bput_ext h
 refine ⟨fun j' b' e => ?_, fun j' p nm e => ?_, fun j1 j2 p nm nm' e1 e2 => ?_⟩
 ·rcases h3 j' _ e with e | ⟨rfl, e, _⟩
  ·exact hv.dom _ _ e
  ·exact hj
 ·rcases h3 j' _ e with e | ⟨rfl, e, _⟩
  ·exact hv.laid j' p nm e
  ·exact hl p nm e.symm
 ·rcases h3 j1 _ e1 with e1 | ⟨rfl, q1, q2, q3⟩
  ·rcases h3 j2 _ e2 with e2 | ⟨rfl, q1, q2, q3⟩
   ·exact hv.one j1 j2 p nm nm' e1 e2
   ·exact (bfree_spec (q3 p nm' q1.symm) _ _ e1).elim
  ·rcases h3 j2 _ e2 with e2 | ⟨rfl, _, _, _⟩
   ·exact (bfree_spec (q3 p nm q1.symm) _ _ e2).elim
   ·rfl
def Link (m m' : Mp) (ρ : Pl) (os : Slots) (β : Binds) : Prop := ∀ j b, bget β j = some b → match b with
 | .at p nm => m' (ρ j).2.1 = m nm ∧ ∀ e loc, slotTg os j e = true → m nm = some loc → loc.len = (ρ j).2.2
 | .nil => ∃ loc, m' (ρ j).2.1 = some loc ∧ loc.nil = true ∧ loc.len = 0 ∧ (ρ j).2.2 = 0
theorem Link.ext {m m' : Mp} {ρ : Pl} {os : Slots} {β β' : Binds} (h : Link m m' ρ os β') (he : Ext β β') : Link m m' ρ os β := fun j b e => h j b (he j b e)
theorem rel_agg_conv {kn : Kn} {m m' : Mp} {cs ds : List AV} {v : Value} (h : Rel kn m (.agg cs) v) : ∃ us, RelL kn m cs us ∧ (RelL kn m' ds us → Rel kn m' (.agg ds) v) := by
 cases h with
 | agg _ vs hl hr h1 =>
  exact ⟨vs.toList, ⟨by simpa using hl, fun i x v a b => hr i x v a (by simpa using b)⟩, fun this => .agg ds vs (by simpa using this.1) (fun i x v a b => this.2 i x v a (by simpa using b)) h1⟩
theorem rel_tup_conv {kn : Kn} {m m' : Mp} {cs ds : List AV} {v : Value} (h : Rel kn m (.tup cs) v) : ∃ us, RelL kn m cs us ∧ (RelL kn m' ds us → Rel kn m' (.tup ds) v) := by
 cases h with
 | tup _ vs hl hr =>
  exact ⟨vs.toList, ⟨by simpa using hl, fun i x v a b => hr i x v a (by simpa using b)⟩, fun this => .tup ds vs (by simpa using this.1) (fun i x v a b => this.2 i x v a (by simpa using b))⟩
theorem rel_rptr_conv {kn : Kn} {m m' : Mp} {cs ds : List AV} {v : Value} (h : Rel kn m (.rptr cs) v) : ∃ us, RelL kn m cs us ∧ (RelL kn m' ds us → Rel kn m' (.rptr ds) v) := by
 cases h with
 | rptr _ b o vals hk hr h1 =>
  have hget : ∀ j, j < cs.length → ((List.range cs.length).map vals)[j]? = some (vals j) := fun j hj => by simp [hj]
  refine ⟨(List.range cs.length).map vals, ⟨by simp, fun i x v a b => ?_⟩, fun hrl => ?_⟩
  ·have hi := (List.getElem?_eq_some_iff.1 a).1
   rw [hget i hi] at b; cases b; exact hr i x a
  ·have hlen : ds.length = cs.length := by have := hrl.1; simpa using this
   have hlt : ∀ j x, ds[j]? = some x → ∃ y, cs[j]? = some y := fun j x e => by
    have hj := (List.getElem?_eq_some_iff.1 e).1
    exact ⟨cs[j]'(by omega), List.getElem?_eq_getElem (by omega)⟩
   refine .rptr ds b o vals (fun j x e => ?_) (fun j x e => ?_) (fun j x e => ?_)
   ·obtain ⟨y, hy⟩ := hlt j x e; exact hk j y hy
   ·exact hrl.2 j x _ e (hget j (by have := (List.getElem?_eq_some_iff.1 e).1; omega))
   ·obtain ⟨y, hy⟩ := hlt j x e; exact h1 j y hy
theorem rel_fn_conv {kn : Kn} {m m' : Mp} {f : Fn} {a b a' b' : List AV} {v : Value} (h : Rel kn m (.fn f a b) v) : ∃ us ws, RelL kn m a us ∧ RelL kn m b ws ∧ (RelL kn m' a' us → RelL kn m' b' ws → Rel kn m' (.fn f a' b') v) := by
 cases h with
 | fn _ _ _ f1 c1 h1 h2 hf hc =>
  exact ⟨f1.toList, c1.toList, ⟨by simpa using h1, fun i x v a b => hf i x v a (by simpa using b)⟩, ⟨by simpa using h2, fun i x v a b => hc i x v a (by simpa using b)⟩,
   fun p q => .fn f a' b' f1 c1 (by simpa using p.1) (by simpa using q.1) (fun i x v a b => p.2 i x v a (by simpa using b)) (fun i x v a b => q.2 i x v a (by simpa using b))⟩
section
variable {kn : Kn} {m : Mp} {os : Slots}
def OkV (kn : Kn) (m : Mp) (os : Slots) (β β' : Binds) (s : Sh) (v : AV) (x : s.den) : Prop :=
 Ext β β' ∧ ∀ u, Rel kn m v u → (VB m os β → VB m os β') ∧ ∀ m' ρ, Link m m' ρ os β' → Rel kn m' (patV ρ s x) u
def OkL (kn : Kn) (m : Mp) (os : Slots) (β β' : Binds) (l : List Sh) (vs : List AV) (x : Sh.denL l) : Prop :=
 Ext β β' ∧ ∀ us, RelL kn m vs us → (VB m os β → VB m os β') ∧ ∀ m' ρ, Link m m' ρ os β' → RelL kn m' (patL ρ l x) us
theorem slotTg_some {j : Nat} {e : E} (h : slotTg os j e = true) : (os[j]?).isSome = true := by
 unfold slotTg at h
 split at h
 ·rename_i b o he; rw [he]; rfl
 ·cases h
mutual
theorem absV_ok : ∀ (s : Sh) (β β' : Binds) (v : AV) (x : s.den), absV os β s v = some (x, β') → OkV kn m os β β' s v x
 | .d e, β, β', v, x, h => by
  have h : pairO β (absE e v) = some (x, β') := h
  unfold pairO at h
  split at h
  ·rename_i y hy
   cases h
   exact ⟨.refl _, fun u hu => ⟨id, fun m' ρ _ => ((absE_rel hy hu).rf (E.av_rf e _) m')⟩⟩
  ·cases h
 | .c a, β, β', v, x, h => by
  have h : (if eqA a v = true then some ((), β) else none) = some (x, β') := h
  split at h
  ·rename_i he
   cases h
   obtain ⟨rfl, hf⟩ := eqA_sound he
   exact ⟨.refl _, fun u hu => ⟨id, fun m' ρ _ => hu.rf hf m'⟩⟩
  ·cases h
 | .ref j off, β, β', v, x, h => by
  cases v with
  | ref p nm off' =>
   have h : (if off' = off ∧ (os[j]?).isSome = true then unitO (bput j (.at p nm) β) else none) = some (x, β') := h
   split at h
   ·rename_i ho
    obtain ⟨rfl, hoj⟩ := ho
    unfold unitO at h
    split at h
    ·rename_i b hb
     cases h
     obtain ⟨h1, h2, h3⟩ := bput_ext hb
     refine ⟨h1, fun u hu => ?_⟩
     cases hu with
     | ref _ _ _ loc hm =>
      refine ⟨bput_vb hb hoj (fun p' nm' e => by cases e; exact ⟨loc, hm⟩), fun m' ρ hl => ?_⟩
      exact .ref _ _ _ loc ((hl j _ h2).1.trans hm)
    ·cases h
   ·cases h
  | _ => cases h
 | .gs j e, β, β', v, x, h => by
  cases v with
  | gs p nm e' len =>
   have h : (if e' = e ∧ slotTg os j e = true then unitO (bput j (.at p nm) β) else none) = some (x, β') := h
   split at h
   ·rename_i ho
    obtain ⟨rfl, hst⟩ := ho
    unfold unitO at h
    split at h
    ·rename_i b hb
     cases h
     obtain ⟨h1, h2, h3⟩ := bput_ext hb
     refine ⟨h1, fun u hu => ?_⟩
     cases hu with
     | gs _ _ _ _ _ loc hm hll hr =>
      refine ⟨bput_vb hb (slotTg_some hst) (fun p' nm' e => by cases e; exact ⟨loc, hm⟩), fun m' ρ hl => ?_⟩
      obtain ⟨q1, q2⟩ := hl j _ h2
      have hL := q2 e' loc hst hm
      refine .gs _ _ _ _ _ loc (q1.trans hm) hL ?_
      rw [← hL, hll]
      cases hr with
      | srefNil _ _ _ loc' hm' hn => exact .srefNil _ _ _ loc' (q1.trans hm') hn
      | sref _ _ _ _ _ loc' hm' hn he hc hle => exact .sref _ _ _ _ _ loc' (q1.trans hm') hn he hc hle
    ·cases h
   ·cases h
  | base v =>
   have h : (match v with
    | .slice none 0 0 => if slotTg os j e = true then unitO (bput j .nil β) else none
    | _ => none) = some (x, β') := by
    unfold absV at h
    split at h
    ·rename_i e'; cases e'
    ·rename_i e'; cases e'; exact h
    ·cases h
   split at h
   ·by_cases hst : slotTg os j e = true
    ·replace h : unitO (bput j .nil β) = some (x, β') := (if_pos hst).symm.trans h
     unfold unitO at h
     split at h
     ·rename_i b hb
      cases h
      obtain ⟨h1, h2, h3⟩ := bput_ext hb
      refine ⟨h1, fun u hu => ?_⟩
      cases hu
      refine ⟨bput_vb hb (slotTg_some hst) (fun p' nm' e => by cases e), fun m' ρ hl => ?_⟩
      obtain ⟨loc, q1, q2, q3, q4⟩ := hl j _ h2
      refine .gs _ _ _ _ _ loc q1 (by omega) ?_
      rw [q4]
      exact .srefNil _ _ _ loc q1 q2
     ·cases h
    ·replace h : none = some (x, β') := (if_neg hst).symm.trans h
     cases h
   ·cases h
  | _ => cases h
 | .gv j e, β, β', v, x, h => by
  cases v with
  | gv p nm e' off len =>
   have h : (if e' = e ∧ bget β j = some (.at p nm) then some ((off, len), β) else none) = some (x, β') := h
   split at h
   ·rename_i ho
    obtain ⟨rfl, hb⟩ := ho
    cases h
    refine ⟨.refl _, fun u hu => ⟨id, fun m' ρ hl => ?_⟩⟩
    have hq := (hl j _ hb).1
    cases hu with
    | gvE => exact .gvE _ _ _ _ _ _
    | gvS _ _ _ _ _ _ hr =>
     refine .gvS _ _ _ _ _ _ ?_
     cases hr with
     | srefNil _ _ _ loc hm hn => exact .srefNil _ _ _ loc (hq.trans hm) hn
     | sref _ _ _ _ _ loc hm hn he hc hle => exact .sref _ _ _ _ _ loc (hq.trans hm) hn he hc hle
   ·cases h
  | _ => cases h
 | .mref j off, β, β', v, x, h => by
  cases v with
  | ref p nm off' =>
   have h : (if off' = off ∧ (os[j]?).isSome = true then (match bput j (.at p nm) β with
    | some β' => some (true, β')
    | none => none) else none) = some (x, β') := h
   split at h
   ·rename_i ho
    obtain ⟨rfl, hoj⟩ := ho
    split at h
    ·rename_i b hb
     cases h
     obtain ⟨h1, h2, h3⟩ := bput_ext hb
     refine ⟨h1, fun u hu => ?_⟩
     cases hu with
     | ref _ _ _ loc hm =>
      refine ⟨bput_vb hb hoj (fun p' nm' e => by cases e; exact ⟨loc, hm⟩), fun m' ρ hl => ?_⟩
      exact .mrefSome _ _ _ loc ((hl j _ h2).1.trans hm)
    ·cases h
   ·cases h
  | mref p nm off' b =>
   have h : (if off' = off ∧ bget β j = some (.at p nm) then some (b, β) else none) = some (x, β') := h
   split at h
   ·rename_i ho
    obtain ⟨rfl, hb⟩ := ho
    cases h
    refine ⟨.refl _, fun u hu => ⟨id, fun m' ρ hl => ?_⟩⟩
    cases hu with
    | mrefSome _ _ _ loc hm => exact .mrefSome _ _ _ loc ((hl j _ hb).1.trans hm)
    | mrefNil => exact .mrefNil _ _ _
   ·cases h
  | base v =>
   have h : (match v with
    | .pointer none => some (false, β)
    | _ => none) = some (x, β') := by
    unfold absV at h
    split at h
    ·rename_i e'; cases e'
    ·rename_i e'; cases e'
    ·rename_i e'; cases e'; exact h
    ·cases h
   split at h
   ·cases h
    refine ⟨.refl _, fun u hu => ⟨id, fun m' ρ hl => ?_⟩⟩
    cases hu
    exact .mrefNil _ _ _
   ·cases h
  | _ => cases h
 | .agg l, β, β', v, x, h => by
  cases v with
  | agg cs =>
   obtain ⟨h1, h2⟩ := absL_ok l β β' cs x h
   refine ⟨h1, fun u hu => ?_⟩
   obtain ⟨us, q1, _⟩ := rel_agg_conv (m' := m) (ds := cs) hu
   refine ⟨(h2 us q1).1, fun m' ρ hl => ?_⟩
   obtain ⟨us, q1, q2⟩ := rel_agg_conv (m' := m') (ds := patL ρ l x) hu
   exact q2 ((h2 us q1).2 m' ρ hl)
  | _ => cases h
 | .tup l, β, β', v, x, h => by
  cases v with
  | tup cs =>
   obtain ⟨h1, h2⟩ := absL_ok l β β' cs x h
   refine ⟨h1, fun u hu => ?_⟩
   obtain ⟨us, q1, _⟩ := rel_tup_conv (m' := m) (ds := cs) hu
   refine ⟨(h2 us q1).1, fun m' ρ hl => ?_⟩
   obtain ⟨us, q1, q2⟩ := rel_tup_conv (m' := m') (ds := patL ρ l x) hu
   exact q2 ((h2 us q1).2 m' ρ hl)
  | _ => cases h
 | .rptr l, β, β', v, x, h => by
  cases v with
  | rptr cs =>
   obtain ⟨h1, h2⟩ := absL_ok l β β' cs x h
   refine ⟨h1, fun u hu => ?_⟩
   obtain ⟨us, q1, _⟩ := rel_rptr_conv (m' := m) (ds := cs) hu
   refine ⟨(h2 us q1).1, fun m' ρ hl => ?_⟩
   obtain ⟨us, q1, q2⟩ := rel_rptr_conv (m' := m') (ds := patL ρ l x) hu
   exact q2 ((h2 us q1).2 m' ρ hl)
  | _ => cases h
 | .fn f a b, β, β', v, x, h => by
  cases v with
  | fn f' p q =>
   have h : (if f' = f then (match absL os β a p with
    | some (a', β1) => match absL os β1 b q with
     | some (b', β2) => some ((a', b'), β2)
     | none => none
    | none => none) else none) = some (x, β') := h
   split at h
   ·rename_i hf
    subst hf
    split at h
    ·rename_i a' β1 ha
     split at h
     ·rename_i b' β2 hb
      cases h
      obtain ⟨h1, h2⟩ := absL_ok a β β1 p a' ha
      obtain ⟨h3, h4⟩ := absL_ok b β1 _ q b' hb
      refine ⟨h1.trans h3, fun u hu => ?_⟩
      obtain ⟨us, ws, q1, q2, _⟩ := rel_fn_conv (m' := m) (a' := p) (b' := q) hu
      refine ⟨fun hv => (h4 ws q2).1 ((h2 us q1).1 hv), fun m' ρ hl => ?_⟩
      obtain ⟨us, ws, q1, q2, q3⟩ := rel_fn_conv (m' := m') (a' := patL ρ a a') (b' := patL ρ b b') hu
      exact q3 ((h2 us q1).2 m' ρ (hl.ext h3)) ((h4 ws q2).2 m' ρ hl)
     ·cases h
    ·cases h
   ·cases h
  | _ => cases h
 | .iface t s, β, β', v, x, h => by
  cases v with
  | iface t' y =>
   have h : (if t' = t then absV os β s y else none) = some (x, β') := h
   split at h
   ·rename_i ht
    subst ht
    obtain ⟨h1, h2⟩ := absV_ok s β β' y x h
    refine ⟨h1, fun u hu => ?_⟩
    cases hu with
    | iface _ _ v hv => exact ⟨(h2 v hv).1, fun m' ρ hl => .iface _ _ v ((h2 v hv).2 m' ρ hl)⟩
   ·cases h
  | _ => cases h
theorem absL_ok : ∀ (l : List Sh) (β β' : Binds) (vs : List AV) (x : Sh.denL l), absL os β l vs = some (x, β') → OkL kn m os β β' l vs x
 | [], β, β', vs, x, h => by
  cases vs with
  | nil => cases h; exact ⟨.refl _, fun us hu => ⟨id, fun m' ρ _ => ⟨hu.1, fun i x v a => by simp [patL] at a⟩⟩⟩
  | cons v vs => cases h
 | s :: l, β, β', vs, x, h => by
  cases vs with
  | nil => cases h
  | cons v vs =>
   have h : (match absV os β s v with
    | some (x, β1) => match absL os β1 l vs with
     | some (y, β2) => some ((x, y), β2)
     | none => none
    | none => none) = some (x, β') := h
   split at h
   ·rename_i a β1 ha
    split at h
    ·rename_i b β2 hb
     cases h
     obtain ⟨h1, h2⟩ := absV_ok s β β1 v a ha
     obtain ⟨h3, h4⟩ := absL_ok l β1 _ vs b hb
     refine ⟨h1.trans h3, fun us hu => ?_⟩
     obtain ⟨w, ws, rfl, q1, q2⟩ := hu.uncons
     exact ⟨fun hv => (h4 ws q2).1 ((h2 w q1).1 hv), fun m' ρ hl => .cons ((h2 w q1).2 m' ρ (hl.ext h3)) ((h4 ws q2).2 m' ρ hl)⟩
    ·cases h
   ·cases h
end
theorem absEnv_ok {n : Nat} {act : Act} {env : List AV} (hE : RelEnv kn m (xenv env) n act) : ∀ (l : List (Nat × Sh)) (β β' : Binds) (x : denE l), absEnv os β l env = some (x, β') →
  Ext β β' ∧ (VB m os β → VB m os β') ∧ ∀ m' ρ, Link m m' ρ os β' → ∀ t, Rel kn m' (patE ρ l x t) (act.tmps.getD t undef)
 | [], β, β', x, h => by cases h; exact ⟨.refl _, id, fun m' ρ _ t => .any _⟩
 | (t0, s) :: l, β, β', x, h => by
  have h : (match absV os β s (env.getD t0 .undef) with
   | some (x, β1) => match absEnv os β1 l env with
    | some (y, β2) => some ((x, y), β2)
    | none => none
   | none => none) = some (x, β') := h
  split at h
  ·rename_i a β1 ha
   split at h
   ·rename_i b β2 hb
    cases h
    obtain ⟨h1, h2⟩ := absV_ok (kn := kn) (m := m) s β β1 _ a ha
    obtain ⟨h3, h4, h5⟩ := absEnv_ok hE l β1 _ b hb
    refine ⟨h1.trans h3, fun hv => h4 ((h2 _ (hE.tmp t0)).1 hv), fun m' ρ hl t => ?_⟩
    show Rel kn m' (if t0 = t then patV ρ s a else patE ρ l b t) _
    split
    ·rename_i e; subst e; exact (h2 _ (hE.tmp t0)).2 m' ρ (hl.ext h3)
    ·exact h5 m' ρ hl t
   ·cases h
  ·cases h
end
end Go.Ab

namespace Go.Ab
open Go Go.RowKit
section
variable {C : Cx} {B : Base} {kn : Kn} {m : Mp} {σ : Sto} {nx : Nat} {w : World} {os : Slots}
theorem GvRel.rf {kn : Kn} {m m' : Mp} {w : World} {nm nm' esz ety : Nat} {rows : List (List AV)} (h : GvRel kn m w nm esz ety rows) (he : m' nm' = m nm) (hf : ∀ r ∈ rows, RFL r) : GvRel kn m' w nm' esz ety rows := by
 obtain ⟨loc, hn, hl, h⟩ := h
 refine ⟨loc, he.trans hn, hl, ?_⟩
 rcases h with h | ⟨hnl, he, arr, h1, h2, h3, h4, h4', h5, h6⟩
 ·exact .inl h
 ·exact .inr ⟨hnl, he, arr, h1, h2, h3, h4, h4', h5, fun i row j x v a b c => (h6 i row j x v a b c).rf ((hf row (List.mem_of_getElem? a)).get b) m'⟩
theorem rows_rfl (e : E) (l : List e.den) : ∀ r ∈ l.map e.row, RFL r := fun r hr => by obtain ⟨x, _, rfl⟩ := List.mem_map.1 hr; exact E.row_rf e x
theorem absO_ok (hI : Inv C B kn m σ nx w) {o : OSh} {b : Option Bnd} {β β' : Binds} {x : o.den} (h : absO os β σ b o = some (x, β')) (hlaid : ∀ p nm, b = some (.at p nm) → ∃ loc, m nm = some loc) :
  Ext β β' ∧ (VB m os β → VB m os β') ∧ ∃ b0, b = some b0 ∧ (∀ p nm, b0 = .at p nm → ∃ ob, σ[p]? = some (nm, ob) ∧ live ob ∧ isHand ob = false) ∧ (b0 = .nil → ∃ e ety, o = .tg e ety) ∧
   ((b0 = .nil → lenO o x = 0) ∧ ∀ e, oTg o e = true → ∀ p nm loc, b0 = .at p nm → m nm = some loc → loc.len = lenO o x) ∧ (isSk o = true → ∃ p nm ob, b0 = .at p nm ∧ σ[p]? = some (nm, ob) ∧ isStk ob = true) ∧
   ∀ m' ρ nm', Link m m' ρ os β' → live (patO ρ o x) ∧ (∀ p nm, b0 = .at p nm → m' nm' = m nm → ObjRel C.P B kn m' w nm' (patO ρ o x)) ∧ (b0 = .nil → ∀ loc, m' nm' = some loc → loc.nil = true → loc.len = 0 → ObjRel C.P B kn m' w nm' (patO ρ o x)) := by
 cases o with
 | cells T l =>
  replace h : absCellsO os β σ T l b = some (x, β') := h
  unfold absCellsO at h
  split at h
  ·rename_i p nm
   split at h
   ·rename_i T' cs hs
    split at h
    ·rename_i hT
     subst hT
     have hp := sget_some hs
     obtain ⟨loc, hm⟩ := hlaid p nm rfl
     have hob := hI.obj _ _ _ hp
     simp only [ObjRel, hm] at hob
     obtain ⟨hnl, h0, arr, hw, hrl⟩ := hob
     obtain ⟨h1, h2⟩ := absL_ok (kn := kn) (m := m) l β β' cs x h
     refine ⟨h1, (h2 _ hrl.1).1, _, rfl, fun p' nm' e => ?_, (fun e => by cases e), ⟨(fun e => by cases e), (fun e e' => by cases e')⟩, (fun e => by cases e), fun m' ρ nm' hl => ⟨trivial, fun p' nm'' e he => ?_, (fun e => by cases e)⟩⟩
     ·cases e; exact ⟨_, hp, trivial, rfl⟩
     ·cases e
      simp only [patO, ObjRel, he, hm]
      exact ⟨hnl, h0, arr, hw, (h2 _ hrl.1).2 m' ρ hl, hrl.2⟩
    ·cases h
   ·cases h
  ·cases h
 | tg e ety =>
  replace h : absTgO β σ e ety b = some (x, β') := h
  unfold absTgO at h
  split at h
  ·rename_i p nm
   split at h
   ·rename_i e' ety' l hs
    split at h
    ·rename_i he
     subst he
     split at h
     ·rename_i hety
      subst hety
      rw [castL_rfl] at h
      have hp := sget_some hs
      have hgv : GvRel kn m w nm e'.size ety' (l.map e'.row) := hI.obj _ _ _ hp
      cases h
      refine ⟨.refl _, id, _, rfl, fun p' nm' e => ?_, (fun e => by cases e), ⟨(fun e => by cases e), fun e e' p' nm' loc q hm => ?_⟩, (fun e => by cases e), fun m' ρ nm' hl => ⟨trivial, fun p' nm'' e he => ?_, (fun e => by cases e)⟩⟩
      ·cases e; exact ⟨_, hp, trivial, rfl⟩
      ·cases q
       obtain ⟨loc', hm', hll, _⟩ := hgv
       rw [hm] at hm'; cases hm'
       rw [hll, List.length_map]; rfl
      ·cases e
       exact hgv.rf he (rows_rfl _ _)
     ·cases h
    ·cases h
   ·cases h
  ·cases h
   refine ⟨.refl _, id, _, rfl, (fun p' nm' e => by cases e), fun _ => ⟨e, ety, rfl⟩, ⟨fun _ => rfl, (fun e e' p' nm' loc q => by cases q)⟩, (fun e => by cases e), fun m' ρ nm' hl => ⟨trivial, (fun p' nm'' e => by cases e), fun _ loc hm hn hll => ?_⟩⟩
   exact ⟨loc, hm, hll, .inl ⟨hn, rfl⟩⟩
  ·cases h
 | stk e ety =>
  replace h : absSkO β σ e ety b = some (x, β') := h
  unfold absSkO at h
  split at h
  ·rename_i p nm
   split at h
   ·rename_i e' ety' l hs
    split at h
    ·rename_i he
     have he' : e' = e := by cases he; rfl
     subst he'
     split at h
     ·rename_i hety
      subst hety
      replace h : some (l, β) = some (x, β') := h
      have hp := sget_some hs
      have hgv := hI.obj _ _ _ hp
      cases h
      refine ⟨.refl _, id, _, rfl, fun p' nm' e => ?_, (fun e => by cases e), ⟨(fun e => by cases e), fun e e' p' nm' loc q hm => ?_⟩, fun _ => ⟨p, nm, _, rfl, hp, rfl⟩, fun m' ρ nm' hl => ⟨trivial, fun p' nm'' e he => ?_, (fun e => by cases e)⟩⟩
      ·cases e; exact ⟨_, hp, trivial, rfl⟩
      ·cases q
       obtain ⟨rv, ⟨loc', hm', hll, _⟩, hlen, _⟩ := hgv
       rw [hm] at hm'; cases hm'
       rw [hll]
       simp only [stkRows, List.length_map]
       exact hlen
      ·cases e
       obtain ⟨rv, h1, h2, h3, h4, h5⟩ := hgv
       exact ⟨rv, h1.rf he (fun r hr => by
        simp only [stkRows, List.mem_map] at hr
        obtain ⟨v, _, rfl⟩ := hr
        exact ⟨trivial, trivial⟩), h2, h3, h4, trivial⟩
     ·cases h
    ·cases h
   ·cases h
  ·cases h
def SlotOk (C : Cx) (B : Base) (kn : Kn) (m : Mp) (σ : Sto) (w : World) (os : Slots) (β' : Binds) (j : Nat) (l : Slots) (x : denO l) (i : Nat) (o : OSh) : Prop :=
 ∃ b, bget β' (j + i) = some b ∧ (∀ p nm, b = .at p nm → ∃ ob, σ[p]? = some (nm, ob) ∧ live ob ∧ isHand ob = false) ∧ (b = .nil → ∃ e ety, o = .tg e ety) ∧
  ((b = .nil → lensO l x i = 0) ∧ ∀ e, oTg o e = true → ∀ p nm loc, b = .at p nm → m nm = some loc → loc.len = lensO l x i) ∧ (isSk o = true → ∃ p nm ob, b = .at p nm ∧ σ[p]? = some (nm, ob) ∧ isStk ob = true) ∧
  ∀ m' ρ nmf, Link m m' ρ os β' → ∃ ob', (patOs ρ nmf j l x)[i]? = some (nmf (j + i), ob') ∧ live ob' ∧ (∀ p nm, b = .at p nm → m' (nmf (j + i)) = m nm → ObjRel C.P B kn m' w (nmf (j + i)) ob') ∧
   (b = .nil → ∀ loc, m' (nmf (j + i)) = some loc → loc.nil = true → loc.len = 0 → ObjRel C.P B kn m' w (nmf (j + i)) ob')
theorem absOs_ok (hI : Inv C B kn m σ nx w) : ∀ (l : Slots) (j : Nat) (β β' : Binds) (x : denO l), absOs os σ β j l = some (x, β') → VB m os β →
  Ext β β' ∧ VB m os β' ∧ ∀ i kp o, l[i]? = some (kp, o) → SlotOk C B kn m σ w os β' j l x i o
 | [], j, β, β', x, h, hv => by cases h; exact ⟨.refl _, hv, fun i kp o e => by simp at e⟩
 | (kp0, o0) :: l, j, β, β', x, h, hv => by
  have h : (match absO os β σ (bget β j) o0 with
   | some (x, β1) => match absOs os σ β1 (j + 1) l with
    | some (y, β2) => some ((x, y), β2)
    | none => none
   | none => none) = some (x, β') := h
  split at h
  ·rename_i a β1 ha
   split at h
   ·rename_i b β2 hb
    cases h
    obtain ⟨h1, h2, b0, hb0, h3, h4, h5, h5', h6⟩ := absO_ok hI ha (fun p nm e => hv.laid j p nm e)
    obtain ⟨k1, k2, k3⟩ := absOs_ok hI l (j + 1) β1 _ b hb (h2 hv)
    refine ⟨h1.trans k1, k2, fun i kp o e => ?_⟩
    cases i with
    | zero =>
     simp at e
     obtain ⟨rfl, rfl⟩ := e
     refine ⟨b0, (h1.trans k1) _ _ hb0, h3, h4, h5, h5', fun m' ρ nmf hl => ?_⟩
     obtain ⟨q1, q2, q3⟩ := h6 m' ρ (nmf j) (hl.ext k1)
     exact ⟨_, rfl, q1, q2, q3⟩
    | succ i =>
     simp at e
     obtain ⟨b1, q1, q2, q3, q4, q4', q5⟩ := k3 i kp o e
     have hji : j + 1 + i = j + (i + 1) := by omega
     rw [hji] at q1 q5
     exact ⟨b1, q1, q2, q3, q4, q4', fun m' ρ nmf hl => by
      obtain ⟨ob', p1, p2⟩ := q5 m' ρ nmf hl
      exact ⟨ob', p1, p2⟩⟩
   ·cases h
  ·cases h
theorem patOs_len (ρ : Pl) (nmf : Nat → Nat) : ∀ (l : Slots) (j : Nat) (x : denO l), (patOs ρ nmf j l x).length = l.length
 | [], _, _ => rfl
 | (_, _) :: l, j, x => by show (patOs ρ nmf (j + 1) l x.2).length + 1 = _; rw [patOs_len ρ nmf l (j + 1) x.2]; rfl
theorem patO_sk {ρ : Pl} {o : OSh} {x : o.den} : isStk (patO ρ o x) = isSk o := by cases o <;> rfl
theorem patOs_sk {ρ : Pl} (nmf : Nat → Nat) : ∀ (l : Slots) (j : Nat) (x : denO l) (i : Nat) (q : Nat × AObj) (s : Bool × OSh), (patOs ρ nmf j l x)[i]? = some q → l[i]? = some s → isStk q.2 = isSk s.2
 | [], _, _, i, q, s, _, h => by simp at h
 | (kp, o) :: l, j, x, 0, q, s, h, h' => by
  simp [patOs] at h h'
  subst h; subst h'
  exact patO_sk
 | (_, _) :: l, j, x, i + 1, q, s, h, h' => patOs_sk nmf l (j + 1) x.2 i q s (by simpa [patOs] using h) (by simpa using h')
theorem binds0_get : ∀ (l : Slots) (j j' : Nat) (b : Bnd), bget (binds0 j l) j' = some b ↔ ∃ i o, j' = j + i ∧ l[i]? = some (true, o) ∧ b = .at j' j'
 | [], j, j', b => by simp [binds0, bget]
 | (true, o0) :: l, j, j', b => by
  simp only [binds0, bget]
  split
  ·rename_i e
   subst e
   constructor
   ·intro h; cases h; exact ⟨0, o0, rfl, rfl, rfl⟩
   ·rintro ⟨i, o, h1, h2, h3⟩; rw [h3]
  ·rename_i e
   rw [binds0_get l (j + 1) j' b]
   constructor
   ·rintro ⟨i, o, h1, h2, h3⟩; exact ⟨i + 1, o, by omega, by simpa using h2, h3⟩
   ·rintro ⟨i, o, h1, h2, h3⟩
    cases i with
    | zero => exact absurd (by omega) e
    | succ i => exact ⟨i, o, by omega, by simpa using h2, h3⟩
 | (false, o0) :: l, j, j', b => by
  simp only [binds0]
  rw [binds0_get l (j + 1) j' b]
  constructor
  ·rintro ⟨i, o, h1, h2, h3⟩; exact ⟨i + 1, o, by omega, by simpa using h2, h3⟩
  ·rintro ⟨i, o, h1, h2, h3⟩
   cases i with
   | zero => simp at h2
   | succ i => exact ⟨i, o, by omega, by simpa using h2, h3⟩
theorem listTo_get (f : Nat → AV) : ∀ (n t0 t : Nat), (listTo f n t0)[t]? = if t < n then some (f (t0 + t)) else none
 | 0, t0, t => by simp [listTo]
 | n + 1, t0, t => by
  cases t with
  | zero => simp [listTo]
  | succ t =>
   simp only [listTo, List.getElem?_cons_succ]
   rw [listTo_get f n (t0 + 1) t]
   by_cases h : t < n
   ·rw [if_pos h, if_pos (by omega), Nat.add_assoc, Nat.add_comm 1 t]
   ·rw [if_neg h, if_neg (by omega)]
def keepB (k : Nat) : Nat → Slots → Bool
 | _, [] => true
 | j, (kp, _) :: l => (!kp || Nat.blt j k) && keepB k (j + 1) l
theorem keepB_spec {k : Nat} : ∀ {l : Slots} {j : Nat}, keepB k j l = true → ∀ i o, l[i]? = some (true, o) → j + i < k
 | [], j, h, i, o, e => by simp at e
 | (kp, o0) :: l, j, h, i, o, e => by
  simp only [keepB, Bool.and_eq_true] at h
  cases i with
  | zero =>
   simp at e
   obtain ⟨rfl, rfl⟩ := e
   simpa [Nat.blt_eq] using h.1
  | succ i =>
   have := keepB_spec h.2 i o (by simpa using e)
   omega
def nilLoc : Loc := ⟨0, 0, 0, 0, 0, true⟩
def mNew (k : Nat) (os : Slots) (β : Binds) (m : Mp) : Mp := fun i => if i < k then m i else match os[i - k]? with
 | some (false, _) => match bget β (i - k) with
  | some (.at _ nm) => m nm
  | some .nil => some nilLoc
  | none => none
 | _ => none
theorem nameOf_keep {k j : Nat} {o : OSh} (h : os[j]? = some (true, o)) : nameOf k j os = j := by simp [nameOf, h]
theorem nameOf_new {k j : Nat} {o : OSh} (h : os[j]? = some (false, o)) : nameOf k j os = k + j := by simp [nameOf, h]
theorem norm_sound {k n : Nat} {ss : SS} {x : XS} {d : ss.den} {act : Act} (h : absS ss x = some d) (hkeep : keepB k 0 ss.objs = true) (hI : Inv C B kn m x.σ x.nx w) (hE : RelEnv kn m (xenv x.env) n act) (hlay : ∀ i, i < k → ∃ loc, m i = some loc) :
  ∃ m', Inv C B kn m' (patS k n ss d).σ (patS k n ss d).nx w ∧ RelEnv kn m' (xenv (patS k n ss d).env) n act ∧ (∀ i, i < k → m' i = m i) ∧ ∀ j, j < ss.objs.length → ∃ loc, m' (nameOf k j ss.objs) = some loc := by
 unfold absS at h
 split at h
 ·rename_i a β1 ha
  split at h
  ·rename_i o βf ho
   cases h
   have hk0 := fun i o e => keepB_spec hkeep i o e
   simp only [Nat.zero_add] at hk0
   have hv0 : VB m ss.objs (binds0 0 ss.objs) := ⟨fun j b e => by
     obtain ⟨i, o', h1, h2, h3⟩ := (binds0_get _ _ _ _).1 e
     rw [Nat.zero_add] at h1; subst h1; rw [h2]; rfl, fun j p nm e => by
     obtain ⟨i, o', h1, h2, h3⟩ := (binds0_get _ _ _ _).1 e
     rw [Nat.zero_add] at h1; subst h1; cases h3; exact hlay _ (hk0 _ _ h2), fun j j' p nm nm' e e' => by
     obtain ⟨i, o', h1, h2, h3⟩ := (binds0_get _ _ _ _).1 e
     obtain ⟨i', o'', h1', h2', h3'⟩ := (binds0_get _ _ _ _).1 e'
     cases h3; cases h3'; rfl⟩
   obtain ⟨e1, v1, r1⟩ := absEnv_ok (os := ss.objs) hE ss.env _ _ a ha
   obtain ⟨e2, v2, r2⟩ := absOs_ok (os := ss.objs) hI ss.objs 0 β1 βf o ho (v1 hv0)
   simp only [SlotOk, Nat.zero_add] at r2
   have hkp : ∀ j o', ss.objs[j]? = some (true, o') → bget βf j = some (.at j j) := fun j o' e => (e1.trans e2) _ _ ((binds0_get _ _ _ _).2 ⟨j, o', (Nat.zero_add _).symm, e, rfl⟩)
   have hmn : ∀ j o', ss.objs[j]? = some (false, o') → mNew k ss.objs βf m (k + j) = match bget βf j with
     | some (.at _ nm) => m nm
     | some .nil => some nilLoc
     | none => none := fun j o' e => by
    unfold mNew
    rw [if_neg (by omega), Nat.add_sub_cancel_left, e]
   have hat : ∀ j p nm, bget βf j = some (.at p nm) → mNew k ss.objs βf m (nameOf k j ss.objs) = m nm := fun j p nm e => by
    have hd := v2.dom j _ e
    cases hs : ss.objs[j]? with
    | none => rw [hs] at hd; cases hd
    | some q =>
     obtain ⟨kp, o'⟩ := q
     cases kp with
     | true =>
      rw [hkp j o' hs] at e; cases e
      rw [nameOf_keep hs]
      unfold mNew
      rw [if_pos (hk0 _ _ hs)]
     | false => rw [nameOf_new hs, hmn j o' hs, e]
   have hnil : ∀ j, bget βf j = some .nil → mNew k ss.objs βf m (nameOf k j ss.objs) = some nilLoc := fun j e => by
    have hd := v2.dom j _ e
    cases hs : ss.objs[j]? with
    | none => rw [hs] at hd; cases hd
    | some q =>
     obtain ⟨kp, o'⟩ := q
     cases kp with
     | true => rw [hkp j o' hs] at e; cases e
     | false => rw [nameOf_new hs, hmn j o' hs, e]
   have hlink : Link m (mNew k ss.objs βf m) (plO k ss.objs o) ss.objs βf := fun j b e => by
    have hd := v2.dom j _ e
    cases b with
    | nil =>
     refine ⟨nilLoc, hnil j e, rfl, rfl, ?_⟩
     cases hs : ss.objs[j]? with
     | none => rw [hs] at hd; cases hd
     | some q =>
      obtain ⟨b', q1, _, _, q4, _, _⟩ := r2 j q.1 q.2 hs
      rw [e] at q1; cases q1
      exact q4.1 rfl
    | «at» p nm =>
     refine ⟨hat j p nm e, fun e' loc hst hm => ?_⟩
     unfold slotTg at hst
     split at hst
     ·rename_i kp o2 hs
      obtain ⟨b', q1, _, _, q4, _, _⟩ := r2 j _ _ hs
      rw [e] at q1; cases q1
      exact q4.2 e' hst p nm loc rfl hm
     ·cases hst
   have hent : ∀ i nm' ob', (patOs (plO k ss.objs o) (fun j => nameOf k j ss.objs) 0 ss.objs o)[i]? = some (nm', ob') → nm' = nameOf k i ss.objs ∧ ∃ kp osh, ss.objs[i]? = some (kp, osh) ∧ live ob' ∧ ObjRel C.P B kn (mNew k ss.objs βf m) w nm' ob' ∧
     ∃ b, bget βf i = some b ∧ (∀ p nm, b = .at p nm → ∃ ob, x.σ[p]? = some (nm, ob) ∧ live ob ∧ isHand ob = false) ∧ (isStk ob' = true → ∃ p nm ob, b = .at p nm ∧ x.σ[p]? = some (nm, ob) ∧ isStk ob = true) := fun i nm' ob' e => by
    have hi := (List.getElem?_eq_some_iff.1 e).1
    rw [patOs_len] at hi
    obtain ⟨b, q1, q2, q3, q4, q4', q5⟩ := r2 i _ _ (List.getElem?_eq_getElem hi)
    obtain ⟨ob2, p1, p2, p3, p4⟩ := q5 _ (plO k ss.objs o) (fun j => nameOf k j ss.objs) hlink
    have hsk := patOs_sk (ρ := plO k ss.objs o) (fun j => nameOf k j ss.objs) ss.objs 0 o i _ _ e (List.getElem?_eq_getElem hi)
    rw [e] at p1; cases p1
    refine ⟨rfl, _, _, List.getElem?_eq_getElem hi, p2, ?_, b, q1, q2, fun s => q4' (hsk.symm.trans s)⟩
    cases b with
    | nil => exact p4 rfl nilLoc (hnil i q1) rfl rfl
    | «at» p nm => exact p3 p nm rfl (hat i p nm q1)
   have hgetloc : ∀ i b loc, bget βf i = some b → mNew k ss.objs βf m (nameOf k i ss.objs) = some loc → loc.nil = false → ∃ p nm, b = .at p nm ∧ m nm = some loc := fun i b loc e hm hn => by
    cases b with
    | nil => rw [hnil i e] at hm; cases hm; cases hn
    | «at» p nm => exact ⟨p, nm, rfl, by rw [← hat i p nm e]; exact hm⟩
   refine ⟨mNew k ss.objs βf m, ⟨hI.knok, hI.size, hI.os, hI.tape, hI.output, hI.old, fun i nm' ob' e => ?_, fun i nm' ob' loc e hl hm hn => ?_, fun i1 n1 ob1 l1 i2 n2 ob2 l2 f1 f2 w1 w2 m1 m2 hn1 hn2 hne => ?_, fun q hq => ?_, fun i nm' ob' e => ?_, fun i1 i2 n1 ob1 ob2 f1 f2 => ?_, fun i1 i2 n1 n2 ob1 ob2 f1 f2 s1 s2 => ?_, fun g => (hI.glob g).rf (C.rf g) _, hI.tab⟩, ⟨hE.size, fun t => ?_⟩, fun i hi => ?_, fun j hj => ?_⟩
   ·obtain ⟨rfl, _, _, _, _, q, _⟩ := hent i nm' ob' e; exact q
   ·obtain ⟨rfl, kp, osh, hs, _, _, b, q1, q2, _⟩ := hent i nm' ob' e
    obtain ⟨p, nm, rfl, hm'⟩ := hgetloc i b loc q1 hm hn
    obtain ⟨ob, hp, hlv, hnh⟩ := q2 p nm rfl
    obtain ⟨w1, w2, w3⟩ := hI.own p nm ob loc hp hlv hm' hn
    exact ⟨w1, w2, fun _ => w3 hnh⟩
   ·obtain ⟨rfl, _, _, _, _, _, b1, q1, q2, _⟩ := hent i1 n1 ob1 f1
    obtain ⟨rfl, _, _, _, _, _, b2, q1', q2', _⟩ := hent i2 n2 ob2 f2
    obtain ⟨p, nm, rfl, hm'⟩ := hgetloc i1 b1 l1 q1 m1 hn1
    obtain ⟨p', nm', rfl, hm''⟩ := hgetloc i2 b2 l2 q1' m2 hn2
    obtain ⟨ob, hp, hlv, _⟩ := q2 p nm rfl
    obtain ⟨ob', hp', hlv', _⟩ := q2' p' nm' rfl
    refine hI.dist p nm ob l1 p' nm' ob' l2 hp hp' hlv hlv' hm' hm'' hn1 hn2 (fun e => hne ?_)
    subst e
    exact v2.one i1 i2 p nm nm' q1 q1'
   ·have hq : k + ss.objs.length ≤ q := hq
    unfold mNew
    rw [if_neg (by omega), List.getElem?_eq_none (by omega)]
   ·obtain ⟨rfl, kp, osh, hs, _⟩ := hent i nm' ob' e
    show nameOf k i ss.objs < k + ss.objs.length
    have hi := (List.getElem?_eq_some_iff.1 hs).1
    cases kp with
    | true => rw [nameOf_keep hs]; have := hk0 _ _ hs; omega
    | false => rw [nameOf_new hs]; omega
   ·obtain ⟨h1, kp, osh, hs, _⟩ := hent i1 n1 ob1 f1
    obtain ⟨h2, kp', osh', hs', _⟩ := hent i2 n1 ob2 f2
    rw [h1] at h2
    cases kp with
    | true =>
     rw [nameOf_keep hs] at h2
     have := hk0 _ _ hs
     cases kp' with
     | true => rw [nameOf_keep hs'] at h2; exact h2
     | false => rw [nameOf_new hs'] at h2; omega
    | false =>
     rw [nameOf_new hs] at h2
     cases kp' with
     | true => rw [nameOf_keep hs'] at h2; have := hk0 _ _ hs'; omega
     | false => rw [nameOf_new hs'] at h2; omega
   ·obtain ⟨_, _, _, _, _, _, b1, q1, _, q3⟩ := hent i1 n1 ob1 f1
    obtain ⟨_, _, _, _, _, _, b2, q1', _, q3'⟩ := hent i2 n2 ob2 f2
    obtain ⟨p, nm, ob, rfl, h1, h2⟩ := q3 s1
    obtain ⟨p', nm', ob', rfl, h1', h2'⟩ := q3' s2
    have := hI.stk1 _ _ _ _ _ _ h1 h1' h2 h2'
    subst this
    exact v2.one i1 i2 p nm nm' q1 q1'
   ·show Rel kn _ ((listTo (patE (plO k ss.objs o) ss.env a) n 0).getD t .undef) _
    rw [List.getD_eq_getElem?_getD, listTo_get]
    split
    ·rw [Nat.zero_add]; exact r1 _ _ (hlink.ext e2) t
    ·rename_i ht
     have : act.tmps.getD t undef = undef := by
      rw [Array.getD_eq_getD_getElem?, Array.getElem?_eq_none (by rw [hE.size]; omega)]; rfl
     rw [this]; exact .base _
   ·unfold mNew; rw [if_pos hi]
   ·obtain ⟨b, q1, _⟩ := r2 j _ _ (List.getElem?_eq_getElem hj)
    cases b with
    | nil => exact ⟨nilLoc, hnil j q1⟩
    | «at» p nm =>
     obtain ⟨loc, hl⟩ := v2.laid j p nm q1
     exact ⟨loc, by rw [hat j p nm q1]; exact hl⟩
  ·cases h
 ·cases h
end
end Go.Ab

namespace Go.Ab
open Go Go.RowKit
def sureO {α : Type} : Option α → Option (Bool × α)
 | some v => some (true, v)
 | none => none
theorem sureO_ok {α : Type} {o : Option α} {v : α} (h : sureO o = some (true, v)) : o = some v := by
 cases o with
 | none => cases h
 | some a => simp only [sureO, Option.some.injEq, Prod.mk.injEq, true_and] at h; rw [h]
def idxY (P : Program) (t : TypeId) (a i : AV) : Option (Bool × AV) :=
 match i with
 | .int k n => match elmT P t with
  | some (_, sz, _) => match a with
   | .tvec e l => if e.size = sz then some (decide (0 ≤ n ∧ n < (l.length : Int)), .rptr (e.cells (l.getD n.toNat e.dflt))) else none
   | .gs p nm e len => if e.size = sz then some (decide (0 ≤ n ∧ n < (len : Int)), .eref p nm n.toNat 0) else none
   | .gv p nm e off len => if e.size = sz then some (decide (0 ≤ n ∧ n < (len : Int)), .eref p nm (off + n.toNat) 0) else none
   | a => sureO (idxA P t a (.int k n))
  | none => sureO (idxA P t a (.int k n))
 | _ => none
theorem idxY_ok {P : Program} {t : TypeId} {a i v : AV} (h : idxY P t a i = some (true, v)) : idxA P t a i = some v := by
 unfold idxY at h
 split at h
 ·rename_i k n
  split at h
  ·rename_i q sz r he
   split at h
   ·rename_i e l
    simp only [Option.ite_none_right_eq_some, Option.some.injEq, Prod.mk.injEq, decide_eq_true_eq] at h
    obtain ⟨h1, h2, rfl⟩ := h
    unfold idxA
    simp only [he]
    rw [if_pos ⟨h1, h2.1, h2.2⟩]
   ·rename_i p nm e len
    simp only [Option.ite_none_right_eq_some, Option.some.injEq, Prod.mk.injEq, decide_eq_true_eq] at h
    obtain ⟨h1, h2, rfl⟩ := h
    unfold idxA
    simp only [he]
    rw [if_pos ⟨h1, h2.1, h2.2⟩]
   ·rename_i p nm e off len
    simp only [Option.ite_none_right_eq_some, Option.some.injEq, Prod.mk.injEq, decide_eq_true_eq] at h
    obtain ⟨h1, h2, rfl⟩ := h
    unfold idxA
    simp only [he]
    rw [if_pos ⟨h1, h2.1, h2.2⟩]
   ·exact sureO_ok h
  ·exact sureO_ok h
 ·cases h
def checkO (b : Bool) : Option AV → Option (Bool × AV)
 | some v => some (b, v)
 | none => none
def loadY (P : Program) (T : TypeId) (σ : Sto) (a : AV) : Option (Bool × AV) :=
 match a with
 | .eref p n i off => match sget σ p n with
  | some (.tg e _ l) => checkO (decide (i < l.length)) (loadC P T ((e.cells (l.getD i e.dflt)).drop off))
  | some (.stk e _ l .no) => checkO (decide (i < l.length)) (loadC P T ([AV.tvec e (l.getD i [])].drop off))
  | _ => sureO (readA P T σ (.eref p n i off))
 | a => sureO (readA P T σ a)
theorem loadY_ok {P : Program} {T : TypeId} {σ : Sto} {a v : AV} (h : loadY P T σ a = some (true, v)) : readA P T σ a = some v := by
 unfold loadY at h
 split at h
 ·rename_i p n i off
  split at h
  ·rename_i e ety l hs
   unfold checkO at h
   split at h
   ·rename_i u hu
    simp only [Option.some.injEq, Prod.mk.injEq, decide_eq_true_eq] at h
    obtain ⟨h1, rfl⟩ := h
    simp only [readA, hs]
    rw [if_pos h1]; exact hu
   ·cases h
  ·rename_i e ety l hs
   unfold checkO at h
   split at h
   ·rename_i u hu
    simp only [Option.some.injEq, Prod.mk.injEq, decide_eq_true_eq] at h
    obtain ⟨h1, rfl⟩ := h
    simp only [readA, hs]
    rw [if_pos h1]; exact hu
   ·cases h
  ·exact sureO_ok h
 ·exact sureO_ok h
def byteAt (l : List UInt8) (n : Int) : Int := ((l.getD n.toNat 0).toNat : Int)
def indexY (P : Program) (t : TypeId) (a i : AV) : Option (Bool × AV) :=
 match a, i with
 | .str l, .int _ n => if strT P t = true then some (decide (0 ≤ n ∧ n < (l.length : Int)), .int .u8 (byteAt l n)) else none
 | _, _ => none
theorem indexY_ok {P : Program} {t : TypeId} {a i v : AV} (h : indexY P t a i = some (true, v)) : indexA P t a i = some v := by
 unfold indexY at h
 split at h
 ·rename_i l k n
  simp only [Option.ite_none_right_eq_some, Option.some.injEq, Prod.mk.injEq, decide_eq_true_eq] at h
  obtain ⟨h1, h2, rfl⟩ := h
  unfold indexA
  simp only
  rw [if_pos ⟨h1, h2.1⟩]
  have hlt : n.toNat < l.length := by omega
  simp only [List.getElem?_eq_getElem hlt, byteAt, List.getD_eq_getElem?_getD, Option.getD_some]
 ·cases h
def sliceY (P : Program) (t : TypeId) (a : AV) (lo hi : Option AV) : Option (Bool × AV) :=
 match a with
 | .str s => if strT P t = true then (match bndA s.length lo hi with
  | some (l, h) => some (decide (0 ≤ l ∧ l ≤ h ∧ h ≤ (s.length : Int)), .str ((s.drop l.toNat).take (h.toNat - l.toNat)))
  | none => none) else none
 | .tvec e s => (match elmT P t, bndA s.length lo hi with
  | some (_, sz, _), some (l, h) => if e.size = sz then some (decide (0 ≤ l ∧ l ≤ h ∧ h ≤ (s.length : Int)), .tvec e ((s.drop l.toNat).take (h.toNat - l.toNat))) else none
  | _, _ => none)
 | .gs p nm e len => (match elmT P t, bndA len lo hi with
  | some (_, sz, _), some (l, h) => if e.size = sz then some (decide (0 ≤ l ∧ l ≤ h ∧ h ≤ (len : Int)), .gv p nm e l.toNat (h.toNat - l.toNat)) else none
  | _, _ => none)
 | a => sureO (sliceA P t a lo hi none)
theorem sliceY_ok {P : Program} {t : TypeId} {a v : AV} {lo hi : Option AV} (h : sliceY P t a lo hi = some (true, v)) : sliceA P t a lo hi none = some v := by
 unfold sliceY at h
 split at h
 ·split at h
  ·rename_i hs
   split at h
   ·rename_i l h' hb
    simp only [Option.some.injEq, Prod.mk.injEq, decide_eq_true_eq] at h
    obtain ⟨h1, rfl⟩ := h
    unfold sliceA
    simp only [hb]
    rw [if_pos hs, if_pos h1]
   ·cases h
  ·cases h
 ·split at h
  ·rename_i q sz r l h' he hb
   simp only [Option.ite_none_right_eq_some, Option.some.injEq, Prod.mk.injEq, decide_eq_true_eq] at h
   obtain ⟨h0, h1, rfl⟩ := h
   unfold sliceA
   simp only [he, hb]
   rw [if_pos ⟨h0, h1⟩]
  ·cases h
 ·split at h
  ·rename_i q sz r l h' he hb
   simp only [Option.ite_none_right_eq_some, Option.some.injEq, Prod.mk.injEq, decide_eq_true_eq] at h
   obtain ⟨h0, h1, rfl⟩ := h
   unfold sliceA
   simp only [he, hb]
   rw [if_pos ⟨h0, h1⟩]
  ·cases h
 ·exact sureO_ok h
def binIntY (op : BinOp) (k k' : IntKind) (x y : Int) : Option (Bool × AV) :=
 match op with
 | .shl => some (decide (0 ≤ y ∧ y ≤ (k.bits : Int)), .int k (k.wrap (x * 2 ^ y.toNat)))
 | .shr => some (decide (0 ≤ y ∧ y ≤ (k.bits : Int)), .int k (x / 2 ^ y.toNat))
 | .quo => if k = k' then some (!decide (y = 0), .int k (k.wrap (x.tdiv y))) else none
 | .rem => if k = k' then some (!decide (y = 0), .int k (x.tmod y)) else none
 | op => if k = k' then sureO (abinInt op k x y) else none
def binStrY (op : BinOp) (x y : List UInt8) : Option (Bool × AV) :=
 match op with
 | .add => some (decide (x.length + y.length ≤ 9223372036854775807), .str (x ++ y))
 | op => sureO (abinStr op x y)
def nilY (C : Cx) (op : BinOp) (t : TypeId) (y : Operand) (a b : AV) {α : Type} (l : List α) : Option (Bool × AV) :=
 if isNilConst y = true then (match C.P.underlying t with
  | some d => if (nilT d a && nilT d b) = true then (match nilA b, op with
   | some true, .eql => some (!l.isEmpty, .bool false)
   | some true, .neq => some (!l.isEmpty, .bool true)
   | _, _ => none) else none
  | none => none) else none
def binY (C : Cx) (op : BinOp) (t : TypeId) (x y : Operand) (a b : AV) : Option (Bool × AV) :=
 match a with
 | .int k p => match b with
  | .int k' q => binIntY op k k' p q
  | _ => none
 | .str p => match b with
  | .str q => binStrY op p q
  | _ => none
 | .tvec e l => nilY C op t y (.tvec e l) b l
 | a => sureO (abin C op t x y a b)
theorem nilY_ok {C : Cx} {op : BinOp} {t : TypeId} {x y : Operand} {e : E} {l : List e.den} {b v : AV} (h : nilY C op t y (.tvec e l) b l = some (true, v)) : abin C op t x y (.tvec e l) b = some v := by
 unfold nilY at h
 split at h
 ·rename_i hn
  split at h
  ·rename_i d hd
   split at h
   ·rename_i ht
    rw [Bool.and_eq_true] at ht
    have key : nilTest C.P t (.tvec e l) = (if l.isEmpty = true then none else some false) ∧ nilTest C.P t b = nilA b := by
     unfold nilTest
     simp only [hd]
     rw [if_pos ht.1, if_pos ht.2]
     exact ⟨rfl, rfl⟩
    split at h
    ·rename_i hb
     simp only [Option.some.injEq, Prod.mk.injEq, Bool.not_eq_true'] at h
     obtain ⟨h1, rfl⟩ := h
     unfold abin
     simp only [hn, if_true, key.1, key.2, hb, h1]
     rfl
    ·rename_i hb
     simp only [Option.some.injEq, Prod.mk.injEq, Bool.not_eq_true'] at h
     obtain ⟨h1, rfl⟩ := h
     unfold abin
     simp only [hn, if_true, key.1, key.2, hb, h1]
     rfl
    ·cases h
   ·cases h
  ·cases h
 ·cases h
theorem binY_ok {C : Cx} {op : BinOp} {t : TypeId} {x y : Operand} {a b v : AV} (h : binY C op t x y a b = some (true, v)) : abin C op t x y a b = some v := by
 unfold binY at h
 split at h
 ·rename_i k p
  split at h
  ·rename_i k' q
   unfold binIntY at h
   unfold abin
   split at h
   ·simp only [Option.some.injEq, Prod.mk.injEq, decide_eq_true_eq] at h
    obtain ⟨h1, rfl⟩ := h
    simp only; rw [if_pos h1]
   ·simp only [Option.some.injEq, Prod.mk.injEq, decide_eq_true_eq] at h
    obtain ⟨h1, rfl⟩ := h
    simp only; rw [if_pos h1]
   ·simp only [Option.ite_none_right_eq_some, Option.some.injEq, Prod.mk.injEq, Bool.not_eq_true', decide_eq_false_iff_not] at h
    obtain ⟨h0, h1, rfl⟩ := h
    simp only [abinInt]; rw [if_pos h0, if_neg h1]
   ·simp only [Option.ite_none_right_eq_some, Option.some.injEq, Prod.mk.injEq, Bool.not_eq_true', decide_eq_false_iff_not] at h
    obtain ⟨h0, h1, rfl⟩ := h
    simp only [abinInt]; rw [if_pos h0, if_neg h1]
   ·split at h
    ·rename_i hk
     have := sureO_ok h
     cases op <;> first | (simp only; rw [if_pos hk]; exact this) | (rename_i h1 h2 h3 h4; first | exact absurd rfl h1 | exact absurd rfl h2 | exact absurd rfl h3 | exact absurd rfl h4)
    ·cases h
  ·cases h
 ·rename_i p
  split at h
  ·rename_i q
   unfold binStrY at h
   unfold abin
   split at h
   ·simp only [Option.some.injEq, Prod.mk.injEq, decide_eq_true_eq] at h
    obtain ⟨h1, rfl⟩ := h
    simp only [abinStr]; rw [if_pos h1]
   ·exact sureO_ok h
  ·cases h
 ·exact nilY_ok h
 ·exact sureO_ok h
def convY (P : Program) (s d : TypeId) (a : AV) : Option (Bool × AV) :=
 match a with
 | .str l => if strT P s = true ∧ bytT P d = true then some (decide (l.length ≤ 4611686018427387904), .tvec (.int .u8) (intsOf l)) else sureO (aconv P s d (.str l))
 | a => sureO (aconv P s d a)
theorem strT_byt {P : Program} {d : TypeId} (h : bytT P d = true) : strT P d = false := by
 unfold bytT at h
 unfold strT
 split at h
 ·rename_i e he; rw [he]
 ·cases h
theorem convY_ok {P : Program} {s d : TypeId} {a v : AV} (h : convY P s d a = some (true, v)) : aconv P s d a = some v := by
 unfold convY at h
 split at h
 ·split at h
  ·rename_i hc
   simp only [Option.some.injEq, Prod.mk.injEq, decide_eq_true_eq] at h
   obtain ⟨h1, rfl⟩ := h
   unfold aconv
   simp only
   rw [if_neg (by rw [strT_byt hc.2]; simp), if_pos ⟨hc.1, hc.2, h1⟩]
  ·exact sureO_ok h
 ·exact sureO_ok h
def yfop (C : Cx) (al : Nat × Nat) (op : Op) (env : Nat → AV) (σ : Sto) : Option (Bool × AV) :=
 match op with
 | .load T a => loadY C.P T σ (opv C env a)
 | .binOp op t x y _ => binY C op t x y (opv C env x) (opv C env y)
 | .indexAddr t x i => idxY C.P t (opv C env x) (opv C env i)
 | .index t x i => indexY C.P t (opv C env x) (opv C env i)
 | .slice t x lo hi none => sliceY C.P t (opv C env x) (lo.map (opv C env)) (hi.map (opv C env))
 | .convert s d x => convY C.P s d (opv C env x)
 | op => sureO (fop C al op env σ)
theorem yfop_ok {C : Cx} {al : Nat × Nat} {op : Op} {env : Nat → AV} {σ : Sto} {v : AV} (h : yfop C al op env σ = some (true, v)) : fop C al op env σ = some v := by
 unfold yfop at h
 split at h
 ·exact loadY_ok h
 ·exact binY_ok h
 ·exact idxY_ok h
 ·exact indexY_ok h
 ·exact sliceY_ok h
 ·exact convY_ok h
 ·exact sureO_ok h
abbrev W3 := AV × Sto × Nat
def storeY (P : Program) (T : TypeId) (σ : Sto) (a x : AV) : Option (Bool × Sto) :=
 match a with
 | .eref p nm i off => match sget σ p nm with
  | some (.tg e ety l) => match cellsA x, szT P T with
   | some vs, some n => if vs.length = n then (match spliceA (e.cells (l.getD i e.dflt)) off vs with
    | some row' => match absC absF e row' with
     | some y => some (decide (i < l.length), σ.set p (nm, .tg e ety (l.set i y)))
     | none => none
    | none => none) else none
   | _, _ => none
  | _ => sureO (storeA P T σ (.eref p nm i off) x)
 | a => sureO (storeA P T σ a x)
theorem storeY_ok {P : Program} {T : TypeId} {σ σ' : Sto} {a x : AV} (h : storeY P T σ a x = some (true, σ')) : storeA P T σ a x = some σ' := by
 unfold storeY at h
 split at h
 ·rename_i p nm i off
  split at h
  ·rename_i e ety l hs
   split at h
   ·rename_i vs n hv hn
    split at h
    ·rename_i hl
     split at h
     ·rename_i row' hr
      split at h
      ·rename_i y hy
       simp only [Option.some.injEq, Prod.mk.injEq, decide_eq_true_eq] at h
       obtain ⟨h1, rfl⟩ := h
       unfold storeA
       simp only [hv, hn]
       rw [if_pos hl]
       simp only [hs]
       rw [if_pos h1, hr, Option.bind_some, hy, Option.map_some]
      ·cases h
     ·cases h
    ·cases h
   ·cases h
  ·exact sureO_ok h
 ·exact sureO_ok h
def appC (P : Program) (ety sz : Nat) (e : E) : Bool := Nat.blt 0 sz && (match zeroCells P ety with | some z => Nat.beq z.length sz | none => false) && Nat.beq e.size sz
theorem appC_ok {P : Program} {ety sz : Nat} {e : E} (h : appC P ety sz e = true) : 0 < sz ∧ ((zeroCells P ety).map (·.length)) = some sz ∧ e.size = sz := by
 unfold appC at h
 simp only [Bool.and_eq_true, Nat.blt_eq, Nat.beq_eq] at h
 obtain ⟨⟨h0, hz⟩, hs⟩ := h
 refine ⟨h0, ?_, hs⟩
 split at hz
 ·rename_i z e'; rw [e']; simp only [Nat.beq_eq] at hz; simp [hz]
 ·cases hz
def appendY (P : Program) (t t' : TypeId) (e : E) (σ : Sto) (nx : Nat) (x y : AV) : Option (Bool × W3) :=
 match elmT P t with
 | some (ety, sz, bytes) => match elemsT P t' e σ y with
  | some ys => if appC P ety sz e = true then (match x with
   | .base (.slice none 0 0) => some (decide (ys.length * bytes ≤ 140737488355328), .gs σ.length nx e ys.length, σ ++ [(nx, .tg e ety ys)], nx + 1)
   | .gs p nm e' len => match sget σ p nm with
    | some (.tg e2 ety' l) => if h : e2 = e then (if e' = e ∧ ety' = ety then
      some (decide ((l.length + ys.length) * bytes ≤ 140737488355328), .gs p nx e (l.length + ys.length), σ.set p (nx, .tg e ety (castL h l ++ ys)), nx + 1) else none) else none
    | _ => none
   | _ => none) else none
  | none => none
 | none => none
def bytesPos (P : Program) (t : TypeId) : Bool := match elmT P t with
 | some (_, _, bytes) => Nat.blt 0 bytes
 | none => false
theorem lim_of {n bytes : Nat} (hp : 0 < bytes) (h : n * bytes ≤ 140737488355328) : n * bytes ≤ limB ∧ n ≤ 4611686018427387904 := by
 refine ⟨h, ?_⟩
 have : n * 1 ≤ n * bytes := Nat.mul_le_mul_left _ hp
 omega
theorem appendY_ok {P : Program} {t t' : TypeId} {e : E} {σ : Sto} {nx : Nat} {x y : AV} {r : W3} (hp : bytesPos P t = true) (h : appendY P t t' e σ nx x y = some (true, r)) : appendT P t t' e σ nx x y = some r := by
 unfold appendY at h
 unfold bytesPos at hp
 split at h
 ·rename_i ety sz bytes he
  simp only [he, Nat.blt_eq] at hp
  split at h
  ·rename_i ys hys
   split at h
   ·rename_i hc
    unfold appendT
    simp only [he, hys]
    rw [if_pos (appC_ok hc)]
    split at h
    ·simp only [Option.some.injEq, Prod.mk.injEq, decide_eq_true_eq] at h
     obtain ⟨h1, rfl⟩ := h
     simp only
     rw [if_pos (lim_of hp h1)]
    ·split at h
     ·rename_i p nm e' len e2 ety' l hg
      split at h
      ·rename_i he2
       split at h
       ·rename_i hcc
        simp only [Option.some.injEq, Prod.mk.injEq, decide_eq_true_eq] at h
        obtain ⟨h1, rfl⟩ := h
        simp only [hg]
        rw [dif_pos he2, if_pos ⟨hcc.1, hcc.2, lim_of hp h1⟩]
       ·cases h
      ·cases h
     ·cases h
    ·cases h
   ·cases h
  ·cases h
 ·cases h
def makeY (P : Program) (t : TypeId) (e : E) (σ : Sto) (nx : Nat) (l c : AV) : Option (Bool × W3) :=
 match elmT P t with
 | some (ety, sz, bytes) => match l, c with
  | .int _ n, .int _ k => match zeroCells P ety with
   | some z => match absC absF e z with
    | some z' => if (Nat.blt 0 sz && Nat.beq z.length sz && Nat.beq e.size sz) = true then some (decide (0 ≤ n ∧ n ≤ k ∧ k * (bytes : Int) ≤ 281474976710656), .gs σ.length nx e n.toNat, σ ++ [(nx, .tg e ety (List.replicate n.toNat z'))], nx + 1) else none
    | none => none
   | none => none
  | _, _ => none
 | none => none
theorem makeY_ok {P : Program} {t : TypeId} {e : E} {σ : Sto} {nx : Nat} {l c : AV} {r : W3} (hp : bytesPos P t = true) (h : makeY P t e σ nx l c = some (true, r)) : makeT P t e σ nx l c = some r := by
 unfold makeY at h
 unfold bytesPos at hp
 split at h
 ·rename_i ety sz bytes he
  simp only [he, Nat.blt_eq] at hp
  split at h
  ·rename_i kl n kc k
   split at h
   ·rename_i z hz
    split at h
    ·rename_i z' hz'
     simp only [Option.ite_none_right_eq_some, Bool.and_eq_true, Nat.blt_eq, Nat.beq_eq, Option.some.injEq, Prod.mk.injEq, decide_eq_true_eq] at h
     obtain ⟨⟨⟨h0, h1⟩, h2⟩, ⟨h3, h4, h5⟩, rfl⟩ := h
     unfold makeT
     simp only [he, hz, hz']
     have : k ≤ k * (bytes : Int) := by
      have h1 : (1 : Int) ≤ bytes := by omega
      have := Int.mul_le_mul_of_nonneg_left h1 (show 0 ≤ k by omega)
      omega
     rw [if_pos ⟨h0, h1, h2, h3, h4, h5, by omega⟩]
    ·cases h
   ·cases h
  ·cases h
 ·cases h
def shrinkY (P : Program) (t : TypeId) (σ : Sto) (nx : Nat) (x : AV) (lo hi : Option AV) : Option (Bool × W3) :=
 match x with
 | .gs p nm e len => match lo with
  | none => match elmT P t, bndA len none hi, sget σ p nm with
   | some (_, sz, _), some (_, h), some (.tg e2 ety l) => if e = e2 ∧ e.size = sz then some (decide (0 ≤ h ∧ h ≤ (l.length : Int)), .gs p nx e2 h.toNat, σ.set p (nx, .tg e2 ety (l.take h.toNat)), nx + 1) else none
   | _, _, _ => none
  | some _ => none
 | _ => none
theorem shrinkY_ok {P : Program} {t : TypeId} {σ : Sto} {nx : Nat} {x : AV} {lo hi : Option AV} {r : W3} (h : shrinkY P t σ nx x lo hi = some (true, r)) : shrinkT P t σ nx x lo hi = some r := by
 unfold shrinkY at h
 split at h
 ·rename_i p nm e len
  split at h
  ·split at h
   ·rename_i q sz by_ l' hh e2 ety l he hb hg
    simp only [Option.ite_none_right_eq_some, Option.some.injEq, Prod.mk.injEq, decide_eq_true_eq] at h
    obtain ⟨⟨h1, h2⟩, ⟨h3, h4⟩, rfl⟩ := h
    have hl0 : l' = 0 := by
     unfold bndA at hb
     split at hb <;> simp_all
    subst hl0
    unfold shrinkT
    simp only [he, hb, hg]
    rw [if_pos ⟨h1, h2, trivial, h3, h4⟩]
   ·cases h
  ·cases h
 ·cases h
def clearY (P : Program) (t : TypeId) (σ : Sto) (x : AV) : Option (Bool × Sto) :=
 match x with
 | .gv p nm e off len => match elmT P t, sget σ p nm with
  | some (ety, sz, _), some (.tg e2 ety' l) => (match zeroCells P ety with
   | some z => (match absC absF e2 z with
    | some z' => if e = e2 ∧ (Nat.beq e.size sz && Nat.beq z.length sz) = true then some (decide (off + len ≤ l.length), σ.set p (nm, .tg e2 ety' (l.take off ++ (List.replicate len z' ++ l.drop (off + len))))) else none
    | none => none)
   | none => none)
  | _, _ => none
 | _ => none
theorem clearY_ok {P : Program} {t : TypeId} {σ σ' : Sto} {x : AV} (h : clearY P t σ x = some (true, σ')) : clearT P t σ x = some σ' := by
 unfold clearY at h
 split at h
 ·split at h
  ·rename_i ety sz by_ e2 ety' l he hg
   split at h
   ·rename_i z hz
    split at h
    ·rename_i z' hz'
     simp only [Option.ite_none_right_eq_some, Bool.and_eq_true, Nat.beq_eq, Option.some.injEq, Prod.mk.injEq, decide_eq_true_eq] at h
     obtain ⟨⟨h1, h2, h3⟩, h4, rfl⟩ := h
     unfold clearT
     simp only [he, hg, hz, hz']
     rw [if_pos ⟨h1, h2, h3, h4⟩]
    ·cases h
   ·cases h
  ·cases h
 ·cases h
def stkPushY (P : Program) (t t' : TypeId) (pe : Bool) (σ : Sto) (nx : Nat) (x y : AV) : Option (Bool × W3) :=
 match x with
 | .gs p nm e' len => match sget σ p nm with
  | some (.stk e ety l .no) => match y, elmT P t with
   | .vec 1 rows, some (ety', sz, bytes) => if e' = .slice e ∧ slcT P t' = true ∧ sz = 1 ∧ ety' = ety ∧ ((zeroCells P ety).map (·.length)) = some sz ∧ nilRows rows = true ∧ 0 < bytes then
     some (decide ((l.length + rows.length) * bytes ≤ 140737488355328), .gs p nx (.slice e) (l.length + rows.length), σ.set p (nx, .stk e ety (l ++ List.replicate rows.length []) .no), nx + 1) else none
   | _, _ => none
  | some (.hand e ps false r []) => match σ[ps]?, elmT P t, elemsT P t' e σ y with
   | some (n2, .stk e2 ety2 l2 (.out i2 h2 q2 true)), some (fty, sz, bytes), some ys => if e' = e ∧ e2 = e ∧ h2 = p ∧ q2 = nm ∧ ps ≠ p ∧ 0 < sz ∧ ((zeroCells P fty).map (·.length)) = some sz ∧ e.size = sz ∧ 0 < bytes then
     some (decide (i2 < l2.length) && decide ((r.length + ys.length) * bytes ≤ 140737488355328), .gs p nx e (r.length + ys.length), (σ.set ps (n2, .stk e2 ety2 l2 (.out i2 p nx true))).set p (nx, .hand e ps pe r ys), nx + 1) else none
   | _, _, _ => none
  | _ => none
 | _ => none
theorem stkPushY_ok {P : Program} {t t' : TypeId} {pe : Bool} {σ : Sto} {nx : Nat} {x y : AV} {r : W3} (h : stkPushY P t t' pe σ nx x y = some (true, r)) : stkPush P t t' pe σ nx x y = some r := by
 unfold stkPushY at h
 split at h
 ·split at h
  ·rename_i e ety l hs
   split at h
   ·rename_i rows ety' sz bytes he
    simp only [Option.ite_none_right_eq_some, Option.some.injEq, Prod.mk.injEq, decide_eq_true_eq] at h
    obtain ⟨⟨h1, h2, h3, h4, h5, h6, h7⟩, h8, rfl⟩ := h
    unfold stkPush
    simp only [hs, he]
    exact if_pos ⟨h1, h2, h3, h4, h5, h6, (lim_of h7 h8).1, (lim_of h7 h8).2⟩
   ·cases h
  ·rename_i e ps r0 hs
   split at h
   ·rename_i n2 e2 ety2 l2 i2 h2 q2 fty sz bytes ys hps he hys
    simp only [Option.ite_none_right_eq_some, Option.some.injEq, Prod.mk.injEq, Bool.and_eq_true, decide_eq_true_eq] at h
    obtain ⟨⟨h1, h2, h3, h4, h5, h6, h7, h8, h9⟩, ⟨h10, h11⟩, rfl⟩ := h
    unfold stkPush
    simp only [hs, hps, he, hys]
    exact if_pos ⟨h1, h2, h3, h4, h5, h10, h6, h7, h8, (lim_of h9 h11).1, (lim_of h9 h11).2⟩
   ·cases h
  ·cases h
 ·cases h
def stkPopY (P : Program) (t : TypeId) (σ : Sto) (nx : Nat) (x : AV) (lo hi : Option AV) : Option (Bool × W3) :=
 match x with
 | .gs p nm e len => match lo with
  | none => match elmT P t, bndA len none hi, sget σ p nm with
   | some (_, sz, _), some (_, h), some (.stk e2 ety l .no) => if e = .slice e2 ∧ sz = 1 then some (decide (0 ≤ h ∧ h ≤ (l.length : Int)), .gs p nx (.slice e2) h.toNat, σ.set p (nx, .stk e2 ety (l.take h.toNat) .no), nx + 1) else none
   | _, _, _ => none
  | some _ => none
 | _ => none
theorem stkPopY_ok {P : Program} {t : TypeId} {σ : Sto} {nx : Nat} {x : AV} {lo hi : Option AV} {r : W3} (h : stkPopY P t σ nx x lo hi = some (true, r)) : stkPop P t σ nx x lo hi = some r := by
 unfold stkPopY at h
 split at h
 ·rename_i p nm e len
  split at h
  ·split at h
   ·rename_i q sz by_ l' hh e2 ety l he hb hg
    simp only [Option.ite_none_right_eq_some, Option.some.injEq, Prod.mk.injEq, decide_eq_true_eq] at h
    obtain ⟨⟨h1, h2⟩, ⟨h3, h4⟩, rfl⟩ := h
    have hl0 : l' = 0 := by
     unfold bndA at hb
     split at hb <;> simp_all
    subst hl0
    unfold stkPop
    simp only [he, hb, hg]
    exact if_pos ⟨h1, h2, trivial, h3, h4⟩
   ·cases h
  ·cases h
 ·cases h
def stkRdY (P : Program) (T : TypeId) (σ : Sto) (nx : Nat) (a : AV) : Option (Bool × W3) :=
 match a with
 | .eref p nm i 0 => match sget σ p nm with
  | some (.stk e ety l .no) => if aggT P T = some false ∧ 0 < e.size ∧ noHand σ = true then some (decide (i < l.length), .gs σ.length nx e (l.getD i []).length, σ.set p (nm, .stk e ety l (.out i σ.length nx true)) ++ [(nx, .hand e p false (l.getD i []) [])], nx + 1) else none
  | _ => none
 | _ => none
theorem stkRdY_ok {P : Program} {T : TypeId} {σ : Sto} {nx : Nat} {a : AV} {r : W3} (h : stkRdY P T σ nx a = some (true, r)) : stkRd P T σ nx a = some r := by
 unfold stkRdY at h
 split at h
 ·split at h
  ·rename_i e ety l hs
   simp only [Option.ite_none_right_eq_some, Option.some.injEq, Prod.mk.injEq, decide_eq_true_eq] at h
   obtain ⟨⟨h1, h2, h3⟩, h4, rfl⟩ := h
   unfold stkRd
   simp only [hs]
   exact if_pos ⟨h4, h1, h2, h3⟩
  ·cases h
 ·cases h
def ysop (C : Cx) (e : E) (pe : Bool) (op : Op) (env : Nat → AV) (σ : Sto) (nx : Nat) : Option (Bool × W3) :=
 match op with
 | .buildSlice t len parts => sureO (stkNew C.P t len e σ nx (parts.toList.map fun p => (p.1, opv C env p.2)))
 | .load T a => stkRdY C.P T σ nx (opv C env a)
 | .slice t x lo hi none => stkPopY C.P t σ nx (opv C env x) (lo.map (opv C env)) (hi.map (opv C env))
 | .call c => match c.callee, c.argTypes.toList, c.args.toList.map (opv C env) with
  | .builtin .append, [t, t'], [x, y] => stkPushY C.P t t' pe σ nx x y
  | _, _, _ => none
 | _ => none
theorem ysop_ok {C : Cx} {e : E} {pe : Bool} {op : Op} {env : Nat → AV} {σ : Sto} {nx : Nat} {r : W3} (h : ysop C e pe op env σ nx = some (true, r)) : sop C e pe op env σ nx = some r := by
 unfold ysop at h
 split at h
 ·exact sureO_ok h
 ·exact stkRdY_ok h
 ·exact stkPopY_ok h
 ·split at h
  ·rename_i c t t' x y h1 h2 h3
   simp only [sop, h1, h2, h3]
   exact stkPushY_ok h
  ·cases h
 ·cases h
def storeOY (P : Program) (T : TypeId) (σ : Sto) (a x : AV) : Option (Bool × Sto) :=
 match a, x with
 | .eref p nm i 0, .gs h q e len => match sget σ p nm, sget σ h q with
  | some (.stk e1 ety l (.out i' h' q' true)), some (.hand e2 ps pe r ys) => if he : e2 = e1 then (if q' = q ∧ h' = h ∧ h ≠ p ∧ aggT P T = some false ∧ szT P T = some 1 then
    some (decide (i' = i) && decide (i < l.length), cond pe (σ.set p (nm, .stk e1 ety l (.out i h q false))) ((σ.set p (nm, .stk e1 ety (l.set i (castL he (r ++ ys))) .no)).set h (q, .none))) else none) else none
  | _, _ => none
 | _, _ => none
theorem storeOY_ok {P : Program} {T : TypeId} {σ σ' : Sto} {a x : AV} (h : storeOY P T σ a x = some (true, σ')) : storeO P T σ a x = some σ' := by
 unfold storeOY at h
 split at h
 ·split at h
  ·rename_i e1 ety l i' h' q' e2 ps pe r ys hs1 hs2
   split at h
   ·rename_i he
    simp only [Option.ite_none_right_eq_some, Option.some.injEq, Prod.mk.injEq, Bool.and_eq_true, decide_eq_true_eq] at h
    obtain ⟨⟨h1, h2, h3, h4, h5⟩, ⟨h6, h7⟩, rfl⟩ := h
    unfold storeO
    simp only [hs1, hs2]
    rw [dif_pos he, if_pos ⟨h6, h1, h2, h7, h3, h4, h5⟩]
    cases pe <;> rfl
   ·cases h
  ·cases h
 ·cases h
def storeHY (P : Program) (T : TypeId) (σ : Sto) (a x : AV) : Option (Bool × Sto) :=
 match a with
 | .eref h q i off => match cellsA x with
  | some vs => match szT P T with
   | some n => match sget σ h q with
    | some (.hand e ps true r ys) => if vs.length = n ∧ ps ≠ h then (match spliceA (e.cells (ys.getD (i - r.length) e.dflt)) off vs with
     | some row' => (match absC absF e row' with
      | some y => (match σ[ps]? with
       | some (n2, .stk e2 ety2 l2 (.out i2 h2 q2 b2)) => if he : e = e2 then (if h2 = h ∧ q2 = q then
         some ((decide (r.length ≤ i) && decide (i < r.length + ys.length)) && decide (i2 < l2.length), cond b2 (σ.set h (q, .hand e ps false r (ys.set (i - r.length) y))) ((σ.set ps (n2, .stk e2 ety2 (l2.set i2 (castL he (r ++ ys.set (i - r.length) y))) .no)).set h (q, .none))) else none) else none
       | _ => none)
      | none => none)
     | none => none) else none
    | _ => none
   | none => none
  | none => none
 | _ => none
theorem storeHY_ok {P : Program} {T : TypeId} {σ σ' : Sto} {a x : AV} (h : storeHY P T σ a x = some (true, σ')) : storeH P T σ a x = some σ' := by
 unfold storeHY at h
 split at h
 ·split at h
  ·rename_i vs hvs
   split at h
   ·rename_i n hn
    split at h
    ·rename_i e ps r ys hs
     split at h
     ·rename_i hc
      split at h
      ·rename_i row' hr
       split at h
       ·rename_i y hy
        split at h
        ·rename_i n2 e2 ety2 l2 i2 h2 q2 b2 hps
         split at h
         ·rename_i he
          simp only [Option.ite_none_right_eq_some, Option.some.injEq, Prod.mk.injEq, Bool.and_eq_true, decide_eq_true_eq] at h
          obtain ⟨⟨h1, h2⟩, ⟨⟨h3, h4⟩, h5⟩, rfl⟩ := h
          unfold storeH
          simp only [hvs, hn, hs]
          rw [if_pos ⟨hc.1, h3, h4, hc.2⟩, hr, Option.bind_some, hy]
          simp only [hps]
          rw [dif_pos he, if_pos ⟨h1, h2, h5⟩]
          cases b2 <;> rfl
         ·cases h
        ·cases h
       ·cases h
      ·cases h
     ·cases h
    ·cases h
   ·cases h
  ·cases h
 ·cases h
theorem storeO_none {P : Program} {T : TypeId} {σ σ' : Sto} {a x : AV} (h : storeO P T σ a x = some σ') : storeA P T σ a x = none ∧ True := by
 refine ⟨?_, trivial⟩
 unfold storeO at h
 split at h
 ·split at h
  ·rename_i e1 ety l i' h' q' e2 ps pe r ys hs1 hs2
   unfold storeA
   split
   ·split
    ·simp only [hs1]
    ·rfl
   ·rfl
  ·cases h
 ·cases h
theorem storeH_none {P : Program} {T : TypeId} {σ σ' : Sto} {a x : AV} (h : storeH P T σ a x = some σ') : storeA P T σ a x = none ∧ storeO P T σ a x = none := by
 unfold storeH at h
 split at h
 ·split at h
  ·rename_i e ps r ys hs
   refine ⟨?_, ?_⟩
   ·unfold storeA
    split
    ·split
     ·simp only [hs]
     ·rfl
    ·rfl
   ·unfold storeO
    split
    ·rename_i h1 h2
     cases h1
     split
     ·rename_i hs1 _
      rw [hs] at hs1; cases hs1
     ·rfl
    ·rfl
  ·cases h
 ·cases h
def storeSY (P : Program) (T : TypeId) (σ : Sto) (a x : AV) : Option (Bool × Sto) :=
 match storeOY P T σ a x with
 | some r => some r
 | none => storeHY P T σ a x
theorem storeSY_ok {P : Program} {T : TypeId} {σ σ' : Sto} {a x : AV} (h : storeSY P T σ a x = some (true, σ')) : storeA P T σ a x = none ∧ storeS P T σ a x = some σ' := by
 unfold storeSY at h
 split at h
 ·rename_i r hr
  cases h
  have h1 := storeOY_ok hr
  exact ⟨(storeO_none h1).1, by unfold storeS; rw [h1]⟩
 ·have h1 := storeHY_ok h
  exact ⟨(storeH_none h1).1, by unfold storeS; rw [(storeH_none h1).2]; exact h1⟩
def yeop0 (C : Cx) (ty : Option E) (op : Op) (env : Nat → AV) (σ : Sto) (nx : Nat) : Option (Bool × W3) :=
 match op with
 | .store T a x => match storeY C.P T σ (opv C env a) (opv C env x) with
  | some (b, σ') => some (b, .undef, σ', nx)
  | none => match storeSY C.P T σ (opv C env a) (opv C env x) with
   | some (b, σ') => some (b, .undef, σ', nx)
   | none => none
 | .makeSlice t l c => match ty with
  | some e => if bytesPos C.P t = true then makeY C.P t e σ nx (opv C env l) (opv C env c) else none
  | none => sureO (makeA C.P t σ nx (opv C env l) (opv C env c))
 | .slice t x lo hi none => shrinkY C.P t σ nx (opv C env x) (lo.map (opv C env)) (hi.map (opv C env))
 | .call c => match c.callee, c.argTypes.toList, c.args.toList.map (opv C env) with
  | .builtin .append, [t, t'], [x, y] => match ty with
   | some e => if bytesPos C.P t = true then appendY C.P t t' e σ nx x y else none
   | none => sureO (appendA C.P t t' σ nx x y)
  | .builtin .clear, [t], [x] => match clearY C.P t σ x with
   | some (b, σ') => some (b, .tup [], σ', nx)
   | none => none
  | _, _, _ => none
 | op => sureO (eop0 C ty op env σ nx)
theorem yeop0_ok {C : Cx} {ty : Option E} {op : Op} {env : Nat → AV} {σ : Sto} {nx : Nat} {r : W3} (h : yeop0 C ty op env σ nx = some (true, r)) : eop0 C ty op env σ nx = some r := by
 unfold yeop0 at h
 split at h
 ·split at h
  ·rename_i b σ' hs
   simp only [Option.some.injEq, Prod.mk.injEq] at h
   obtain ⟨rfl, rfl⟩ := h
   simp only [eop0, storeY_ok hs, Option.map_some, orS]
  ·split at h
   ·rename_i b σ' hs
    simp only [Option.some.injEq, Prod.mk.injEq] at h
    obtain ⟨rfl, rfl⟩ := h
    obtain ⟨h1, h2⟩ := storeSY_ok hs
    simp only [eop0, h1, h2, Option.map_none, Option.map_some, orS]
   ·cases h
 ·split at h
  ·split at h
   ·rename_i hp; exact makeY_ok hp h
   ·cases h
  ·exact sureO_ok h
 ·exact shrinkY_ok h
 ·split at h
  ·rename_i c t t' x y h1 h2 h3
   simp only [eop0, h1, h2, h3]
   split at h
   ·split at h
    ·rename_i hp; exact appendY_ok hp h
    ·cases h
   ·exact sureO_ok h
  ·rename_i c t x h1 h2 h3
   simp only [eop0, h1, h2, h3]
   split at h
   ·rename_i b σ' hs
    simp only [Option.some.injEq, Prod.mk.injEq] at h
    obtain ⟨rfl, rfl⟩ := h
    simp only [clearY_ok hs, Option.map_some]
   ·cases h
  ·cases h
 ·exact sureO_ok h
def yeop (C : Cx) (ty : Option E) (op : Op) (env : Nat → AV) (σ : Sto) (nx : Nat) : Option (Bool × W3) :=
 match op with
 | .buildSlice t len parts => match isSE ty with
  | some e => ysop C e.1 e.2 (.buildSlice t len parts) env σ nx
  | none => yeop0 C ty (.buildSlice t len parts) env σ nx
 | .load T a => match isSE ty with
  | some e => ysop C e.1 e.2 (.load T a) env σ nx
  | none => none
 | .slice t x lo hi mx => match isSE ty with
  | some e => ysop C e.1 e.2 (.slice t x lo hi mx) env σ nx
  | none => yeop0 C ty (.slice t x lo hi mx) env σ nx
 | .call c => match isSE ty with
  | some e => ysop C e.1 e.2 (.call c) env σ nx
  | none => yeop0 C ty (.call c) env σ nx
 | op => yeop0 C ty op env σ nx
theorem yeop_ok {C : Cx} {ty : Option E} {op : Op} {env : Nat → AV} {σ : Sto} {nx : Nat} {r : W3} (h : yeop C ty op env σ nx = some (true, r)) : eop C ty op env σ nx = some r := by
 cases op with
 | buildSlice t len parts =>
  simp only [yeop] at h
  simp only [eop]
  cases hs : isSE ty with
  | some e => rw [hs] at h; exact ysop_ok h
  | none => rw [hs] at h; exact yeop0_ok h
 | load T a =>
  simp only [yeop] at h
  simp only [eop]
  cases hs : isSE ty with
  | some e => rw [hs] at h; exact ysop_ok h
  | none => rw [hs] at h; cases h
 | slice t a lo hi mx =>
  simp only [yeop] at h
  simp only [eop]
  cases hs : isSE ty with
  | some e => rw [hs] at h; exact ysop_ok h
  | none => rw [hs] at h; exact yeop0_ok h
 | call c =>
  simp only [yeop] at h
  simp only [eop]
  cases hs : isSE ty with
  | some e => rw [hs] at h; exact ysop_ok h
  | none => rw [hs] at h; exact yeop0_ok h
 | _ => simp only [yeop] at h; simp only [eop]; exact yeop0_ok h
end Go.Ab
