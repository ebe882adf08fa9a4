/-
  OPERATIONS THAT WRITE, part two: 'eop' and that it is sound.
-/
import Derived.Test.YthbkbjlfghikfaaGreatDoorZ2
import Derived.Laws.AppendOwn
import Derived.Laws.MakeOwn
set_option linter.unusedVariables false
set_option linter.unusedSimpArgs false
namespace Go.Ab
open Go Go.RowKit
structure Keep (m : Mp) (σ : Sto) (nx : Nat) (m' : Mp) (σ' : Sto) (nx' : Nat) : Prop where
 le : nx ≤ nx'
 ag : ∀ n, n < nx → m' n = m n
 pend : ∀ (p nm : Nat) (ob : AObj), σ[p]? = some (nm, ob) → m nm = none → σ'[p]? = some (nm, ob)
theorem Keep.refl (m : Mp) (σ : Sto) (nx : Nat) : Keep m σ nx m σ nx := ⟨Nat.le_refl _, fun _ _ => rfl, fun _ _ _ h _ => h⟩
theorem Keep.mple {C : Cx} {B : Base} {kn : Kn} {m m' : Mp} {σ σ' : Sto} {nx nx' : Nat} {w : World} (hI : Inv C B kn m σ nx w) (h : Keep m σ nx m' σ' nx') : MpLe m m' := fun n l e => by
 rcases Nat.lt_or_ge n nx with hlt | hge
 ·rw [h.ag n hlt]; exact e
 ·rw [hI.dom n hge] at e; cases e
theorem Keep.trans {m m' m'' : Mp} {σ σ' σ'' : Sto} {nx nx' nx'' : Nat} (h : Keep m σ nx m' σ' nx') (k : Keep m' σ' nx' m'' σ'' nx'') (hlt : ∀ (p nm : Nat) (ob : AObj), σ[p]? = some (nm, ob) → nm < nx) : Keep m σ nx m'' σ'' nx'' :=
 ⟨Nat.le_trans h.le k.le, fun n hn => (k.ag n (Nat.lt_of_lt_of_le hn h.le)).trans (h.ag n hn), fun p nm ob a b => k.pend p nm ob (h.pend p nm ob a b) (by rw [h.ag nm (hlt p nm ob a)]; exact b)⟩
section
variable {C : Cx} {B : Base} {kn : Kn} {m : Mp} {σ : Sto} {nx : Nat} {w : World}
def mput (m : Mp) (n : Nat) (l : Loc) : Mp := fun k => if k = n then some l else m k
theorem mput_same (m : Mp) (n : Nat) (l : Loc) : mput m n l n = some l := by simp [mput]
theorem mput_ne (m : Mp) (n : Nat) (l : Loc) (k : Nat) (h : k ≠ n) : mput m n l k = m k := by simp [mput, h]
theorem Inv.replace (hI : Inv C B kn m σ nx w) {p nm : Nat} {ob ob' : AObj} {loc loc' : Loc} (hp : σ[p]? = some (nm, ob)) (hl : live ob) (hm : m nm = some loc) {w' : World}
  (hs : w.heap.size ≤ w'.heap.size) (ho : w'.os = w.os) (ht : w'.tape = w.tape) (hout : w'.output = w.output)
  (hb : loc'.nil = true ∨ (loc.nil = false ∧ loc'.blk = loc.blk) ∨ w.heap.size ≤ loc'.blk) (hb' : loc'.nil = false → loc'.blk < w'.heap.size) (hh : ∀ b, b < w.heap.size → (loc'.nil = true ∨ b ≠ loc'.blk) → w'.heap[b]? = w.heap[b]?)
  (hob : ObjRel C.P B kn (mput m nx loc') w' nx ob') (hsk : isStk ob' = true → isStk ob = true := by intro h; first | rfl | cases h) (hnh : isHand ob = false := by rfl) : Inv C B kn (mput m nx loc') (σ.set p (nx, ob')) (nx + 1) w' ∧ Keep m σ nx (mput m nx loc') (σ.set p (nx, ob')) (nx + 1) := by
 have hpl : p < σ.length := (List.getElem?_eq_some_iff.1 hp).1
 have hkn : ∀ b o v, kn b o = some v → loc'.nil = true ∨ b ≠ loc'.blk := fun b o v e => by
  rcases hb with h | ⟨hln, h⟩ | h
  ·exact .inl h
  ·refine .inr fun eb => ?_
   rw [eb, h, (hI.own p nm ob loc hp hl hm hln).2.2 hnh o] at e; cases e
  ·refine .inr fun eb => ?_
   have := hI.kn_lt e; omega
 have hmle : MpLe m (mput m nx loc') := fun n l e => by
  rw [mput_ne]
  ·exact e
  ·intro en; subst en; rw [hI.dom n (Nat.le_refl _)] at e; cases e
 have other : ∀ (p' nm' : Nat) (ob'' : AObj) (l : Loc), σ[p']? = some (nm', ob'') → p' ≠ p → live ob'' → m nm' = some l → l.nil = false → loc'.nil = false → l.blk ≠ loc'.blk := fun p' nm' ob'' l e hne hl'' e' hn1 hn2 => by
  rcases hb with h | ⟨hln, h⟩ | h
  ·rw [hn2] at h; cases h
  ·rw [h]; exact hI.dist p' nm' ob'' l p nm ob loc e hp hl'' hl e' hm hn1 hln hne
  ·have := (hI.own p' nm' ob'' l e hl'' e' hn1).1; omega
 have hset : ∀ (p' nm' : Nat) (ob'' : AObj), (σ.set p (nx, ob'))[p']? = some (nm', ob'') → (p' = p ∧ nm' = nx ∧ ob'' = ob') ∨ (p' ≠ p ∧ σ[p']? = some (nm', ob'')) := fun p' nm' ob'' e => by
  rw [List.getElem?_set] at e
  split at e
  ·rename_i hpp
   cases e; exact .inl ⟨hpp.symm, rfl, rfl⟩
  ·rename_i hpp; exact .inr ⟨fun h => hpp h.symm, e⟩
 refine ⟨⟨fun b o v e => ?_, Nat.le_trans hI.size hs, ho.trans hI.os, ht.trans hI.tape, hout.trans hI.output, fun b hbb hob' => ?_, fun p' nm' ob'' e => ?_, fun p' nm' ob'' l e hl' hm' hn' => ?_, fun p1 n1 o1 l1 p2 n2 o2 l2 e1 e2 v1 v2 m1 m2 hn1 hn2 hne => ?_, fun n hn => ?_, fun p' nm' ob'' e => ?_, fun p1 p2 n1 o1 o2 e1 e2 => ?_, fun p1 p2 n1 n2 o1 o2 e1 e2 s1 s2 => ?_, fun g => (hI.glob g).mono (KnLe.refl _) hmle, hI.tab⟩,
  ⟨Nat.le_succ _, fun n hn => mput_ne _ _ _ _ (by omega), fun p' nm' ob'' e e' => ?_⟩⟩
 ·have h1 := hI.knok b o v e
  have := hh b (hI.kn_lt e) (hkn b o v e)
  unfold World.cell? at h1 ⊢
  rw [this]; exact h1
 ·have h1 := hI.old b hbb hob'
  refine ⟨?_, h1.2⟩
  rw [← h1.1]
  refine hh b (Nat.lt_of_lt_of_le hbb hI.size) ?_
  rcases hb with h | ⟨hln, h⟩ | h
  ·exact .inl h
  ·refine .inr fun eb => ?_
   rw [h] at eb
   subst eb
   rcases (hI.own p nm ob loc hp hl hm hln).2.1 with h2 | h2
   ·omega
   ·exact hob' h2
  ·refine .inr fun eb => ?_
   have := hI.size; omega
 ·rcases hset p' nm' ob'' e with ⟨rfl, rfl, rfl⟩ | ⟨hne, e'⟩
  ·exact hob
  ·have hlt := hI.lt p' nm' ob'' e'
   have hm'' : mput m nx loc' nm' = m nm' := mput_ne _ _ _ _ (by omega)
   have h0 := hI.obj p' nm' ob'' e'
   have h1 : ObjRel C.P B kn m w' nm' ob'' := h0.mono (KnLe.refl _) (fun l hlv hml hln => hh _ (hI.own p' nm' ob'' l e' hlv hml hln).1 (by
    cases hx : loc'.nil with
    | true => exact .inl rfl
    | false => exact .inr (other p' nm' ob'' l e' hne hlv hml hln hx))) (fun b hq => by
    rcases hq with ⟨_, o, v, e⟩ | ⟨hx, l, hml, hln, rfl⟩
    ·exact ⟨hh b (hI.kn_lt e) (hkn b o v e), rfl⟩
    ·have hlv : live ob'' := by cases ob'' <;> first | trivial | simp_all [isHand]
     refine ⟨hh _ (hI.own p' nm' ob'' l e' hlv hml hln).1 ?_, rfl⟩
     cases hy : loc'.nil with
     | true => exact .inl rfl
     | false => exact .inr (other p' nm' ob'' l e' hne hlv hml hln hy))
   exact h1.mono_m hm'' hmle
 ·rcases hset p' nm' ob'' e with ⟨rfl, rfl, rfl⟩ | ⟨hne, e'⟩
  ·rw [mput_same] at hm'
   cases hm'
   refine ⟨hb' hn', ?_, fun _ o => ?_⟩
   ·rcases hb with h | ⟨hln, h⟩ | h
    ·rw [hn'] at h; cases h
    ·rw [h]; exact (hI.own _ nm ob loc hp hl hm hln).2.1
    ·exact .inl (Nat.le_trans hI.size h)
   ·rcases hb with h | ⟨hln, h⟩ | h
    ·rw [hn'] at h; cases h
    ·rw [h]; exact (hI.own _ nm ob loc hp hl hm hln).2.2 hnh o
    ·cases hk : kn loc'.blk o with
     | none => rfl
     | some v => have := hI.kn_lt hk; omega
  ·rw [mput_ne _ _ _ _ (by have := hI.lt p' nm' ob'' e'; omega)] at hm'
   obtain ⟨a, b, c⟩ := hI.own p' nm' ob'' l e' hl' hm' hn'
   exact ⟨Nat.lt_of_lt_of_le a hs, b, c⟩
 ·rcases hset p1 n1 o1 e1 with ⟨rfl, rfl, rfl⟩ | ⟨h1, e1'⟩
  ·rcases hset p2 n2 o2 e2 with ⟨rfl, rfl, rfl⟩ | ⟨h2, e2'⟩
   ·exact absurd rfl hne
   ·rw [mput_same] at m1; cases m1
    rw [mput_ne _ _ _ _ (by have := hI.lt p2 n2 o2 e2'; omega)] at m2
    exact fun h => other p2 n2 o2 l2 e2' h2 v2 m2 hn2 hn1 h.symm
  ·rw [mput_ne _ _ _ _ (by have := hI.lt p1 n1 o1 e1'; omega)] at m1
   rcases hset p2 n2 o2 e2 with ⟨rfl, rfl, rfl⟩ | ⟨h2, e2'⟩
   ·rw [mput_same] at m2; cases m2
    exact other p1 n1 o1 l1 e1' h1 v1 m1 hn1 hn2
   ·rw [mput_ne _ _ _ _ (by have := hI.lt p2 n2 o2 e2'; omega)] at m2
    exact hI.dist p1 n1 o1 l1 p2 n2 o2 l2 e1' e2' v1 v2 m1 m2 hn1 hn2 hne
 ·rw [mput_ne _ _ _ _ (by omega)]; exact hI.dom n (by omega)
 ·rcases hset p' nm' ob'' e with ⟨_, rfl, _⟩ | ⟨hne, e'⟩
  ·omega
  ·have := hI.lt p' nm' ob'' e'; omega
 ·rcases hset p1 n1 o1 e1 with ⟨rfl, rfl, _⟩ | ⟨h1, e1'⟩
  ·rcases hset p2 _ o2 e2 with ⟨rfl, _, _⟩ | ⟨h2, e2'⟩
   ·rfl
   ·have := hI.lt _ _ _ e2'; omega
  ·rcases hset p2 n1 o2 e2 with ⟨rfl, rfl, _⟩ | ⟨h2, e2'⟩
   ·have := hI.lt _ _ _ e1'; omega
   ·exact hI.uniq p1 p2 n1 o1 o2 e1' e2'
 ·have back : ∀ (q n : Nat) (o : AObj), (σ.set p (nx, ob'))[q]? = some (n, o) → isStk o = true → ∃ n' o', σ[q]? = some (n', o') ∧ isStk o' = true := fun q n o e s => by
   rcases hset q n o e with ⟨rfl, rfl, rfl⟩ | ⟨_, e'⟩
   ·exact ⟨_, _, hp, hsk s⟩
   ·exact ⟨_, _, e', s⟩
  obtain ⟨n1', o1', a1, b1⟩ := back p1 n1 o1 e1 s1
  obtain ⟨n2', o2', a2, b2⟩ := back p2 n2 o2 e2 s2
  exact hI.stk1 _ _ _ _ _ _ a1 a2 b1 b2
 ·rw [List.getElem?_set]
  split
  ·rename_i hpp; subst hpp; rw [hp] at e; cases e; rw [hm] at e'; cases e'
  ·exact e
theorem Inv.write (hI : Inv C B kn m σ nx w) {p nm : Nat} {ob ob' : AObj} {loc : Loc} (hp : σ[p]? = some (nm, ob)) (hl : live ob) (hm : m nm = some loc) (hnl : loc.nil = false) {w' : World}
  (hs : w'.heap.size = w.heap.size) (ho : w'.os = w.os) (ht : w'.tape = w.tape) (hout : w'.output = w.output) (hh : ∀ b, b ≠ loc.blk → w'.heap[b]? = w.heap[b]?)
  (hob : ObjRel C.P B kn m w' nm ob') (hsk : isStk ob' = true → isStk ob = true := by intro h; first | rfl | cases h) (hnh : isHand ob = false := by rfl) : Inv C B kn m (σ.set p (nm, ob')) nx w' ∧ Keep m σ nx m (σ.set p (nm, ob')) nx := by
 obtain ⟨own1, own2, own3⟩ := hI.own p nm ob loc hp hl hm hnl
 have hpl : p < σ.length := (List.getElem?_eq_some_iff.1 hp).1
 have hset : ∀ (p' nm' : Nat) (ob'' : AObj), (σ.set p (nm, ob'))[p']? = some (nm', ob'') → (p' = p ∧ nm' = nm ∧ ob'' = ob') ∨ (p' ≠ p ∧ σ[p']? = some (nm', ob'')) := fun p' nm' ob'' e => by
  rw [List.getElem?_set] at e
  split at e
  ·rename_i hpp
   cases e; exact .inl ⟨hpp.symm, rfl, rfl⟩
  ·rename_i hpp; exact .inr ⟨fun h => hpp h.symm, e⟩
 refine ⟨⟨fun b o v e => ?_, by rw [hs]; exact hI.size, ho.trans hI.os, ht.trans hI.tape, hout.trans hI.output, fun b hbb hob' => ?_, fun p' nm' ob'' e => ?_, fun p' nm' ob'' l e hl' hm' hn' => ?_, fun p1 n1 o1 l1 p2 n2 o2 l2 e1 e2 v1 v2 m1 m2 hn1 hn2 hne => ?_, hI.dom, fun p' nm' ob'' e => ?_, fun p1 p2 n1 o1 o2 e1 e2 => ?_, fun p1 p2 n1 n2 o1 o2 e1 e2 s1 s2 => ?_, hI.glob, hI.tab⟩,
  ⟨Nat.le_refl _, fun n hn => rfl, fun p' nm' ob'' e e' => ?_⟩⟩
 ·have h1 := hI.knok b o v e
  have := hh b (fun eb => by rw [eb, own3 hnh o] at e; cases e)
  unfold World.cell? at h1 ⊢
  rw [this]; exact h1
 ·have h1 := hI.old b hbb hob'
  refine ⟨?_, h1.2⟩
  rw [← h1.1]
  refine hh b (fun eb => ?_)
  subst eb
  rcases own2 with h2 | h2
  ·omega
  ·exact hob' h2
 ·rcases hset p' nm' ob'' e with ⟨rfl, rfl, rfl⟩ | ⟨hne, e'⟩
  ·exact hob
  ·exact (hI.obj p' nm' ob'' e').mono (KnLe.refl _) (fun l hlv hml hln => hh _ (hI.dist p' nm' ob'' l p nm ob loc e' hp hlv hl hml hm hln hnl hne)) (fun b hq => by
    rcases hq with ⟨_, o, v, e⟩ | ⟨hx, l, hml, hln, rfl⟩
    ·exact ⟨hh b (fun eb => by rw [eb, own3 hnh o] at e; cases e), rfl⟩
    ·have hlv : live ob'' := by cases ob'' <;> first | trivial | simp_all [isHand]
     exact ⟨hh _ (hI.dist p' nm' ob'' l p nm ob loc e' hp hlv hl hml hm hln hnl hne), rfl⟩)
 ·rcases hset p' nm' ob'' e with ⟨rfl, rfl, rfl⟩ | ⟨hne, e'⟩
  ·rw [hm] at hm'; cases hm'
   exact ⟨by rw [hs]; exact own1, own2, fun _ => own3 hnh⟩
  ·obtain ⟨a, b, c⟩ := hI.own p' nm' ob'' l e' hl' hm' hn'
   exact ⟨by rw [hs]; exact a, b, c⟩
 ·have get : ∀ (p' nm' : Nat) (ob'' : AObj), (σ.set p (nm, ob'))[p']? = some (nm', ob'') → ∀ l, live ob'' → m nm' = some l → ∃ ob3, σ[p']? = some (nm', ob3) ∧ live ob3 := fun p' nm' ob'' e l hl' hm' => by
   rcases hset p' nm' ob'' e with ⟨rfl, rfl, rfl⟩ | ⟨hne, e'⟩
   ·exact ⟨ob, hp, hl⟩
   ·exact ⟨ob'', e', hl'⟩
  obtain ⟨a1, b1, c1⟩ := get p1 n1 o1 e1 l1 v1 m1
  obtain ⟨a2, b2, c2⟩ := get p2 n2 o2 e2 l2 v2 m2
  exact hI.dist p1 n1 a1 l1 p2 n2 a2 l2 b1 b2 c1 c2 m1 m2 hn1 hn2 hne
 ·rcases hset p' nm' ob'' e with ⟨rfl, rfl, rfl⟩ | ⟨hne, e'⟩
  ·exact hI.lt _ _ _ hp
  ·exact hI.lt _ _ _ e'
 ·rcases hset p1 n1 o1 e1 with ⟨rfl, rfl, _⟩ | ⟨h1, e1'⟩
  ·rcases hset p2 _ o2 e2 with ⟨rfl, _, _⟩ | ⟨h2, e2'⟩
   ·rfl
   ·exact hI.uniq _ _ _ _ _ hp e2'
  ·rcases hset p2 n1 o2 e2 with ⟨rfl, rfl, _⟩ | ⟨h2, e2'⟩
   ·exact hI.uniq _ _ _ _ _ e1' hp
   ·exact hI.uniq p1 p2 n1 o1 o2 e1' e2'
 ·have back : ∀ (q n : Nat) (o : AObj), (σ.set p (nm, ob'))[q]? = some (n, o) → isStk o = true → ∃ n' o', σ[q]? = some (n', o') ∧ isStk o' = true := fun q n o e s => by
   rcases hset q n o e with ⟨rfl, rfl, rfl⟩ | ⟨_, e'⟩
   ·exact ⟨_, _, hp, hsk s⟩
   ·exact ⟨_, _, e', s⟩
  obtain ⟨n1', o1', a1, b1⟩ := back p1 n1 o1 e1 s1
  obtain ⟨n2', o2', a2, b2⟩ := back p2 n2 o2 e2 s2
  exact hI.stk1 _ _ _ _ _ _ a1 a2 b1 b2
 ·rw [List.getElem?_set]
  split
  ·rename_i hpp; subst hpp; rw [hp] at e; cases e; rw [hm] at e'; cases e'
  ·exact e
theorem Inv.new (hI : Inv C B kn m σ nx w) {ob' : AObj} {loc' : Loc} {w' : World}
  (hs : w.heap.size ≤ w'.heap.size) (ho : w'.os = w.os) (ht : w'.tape = w.tape) (hout : w'.output = w.output)
  (hb : loc'.nil = true ∨ w.heap.size ≤ loc'.blk) (hb' : loc'.nil = false → loc'.blk < w'.heap.size) (hh : ∀ b, b < w.heap.size → w'.heap[b]? = w.heap[b]?)
  (hob : ObjRel C.P B kn (mput m nx loc') w' nx ob') (hsk : isStk ob' = true → ∀ (p nm : Nat) (ob : AObj), σ[p]? = some (nm, ob) → isStk ob = false := by intro h; cases h) : Inv C B kn (mput m nx loc') (σ ++ [(nx, ob')]) (nx + 1) w' ∧ Keep m σ nx (mput m nx loc') (σ ++ [(nx, ob')]) (nx + 1) := by
 have hmle : MpLe m (mput m nx loc') := fun n l e => by
  rw [mput_ne]
  ·exact e
  ·intro en; subst en; rw [hI.dom n (Nat.le_refl _)] at e; cases e
 have hget : ∀ (p' nm' : Nat) (ob'' : AObj), (σ ++ [(nx, ob')])[p']? = some (nm', ob'') → (p' = σ.length ∧ nm' = nx ∧ ob'' = ob') ∨ (p' ≠ σ.length ∧ σ[p']? = some (nm', ob'')) := fun p' nm' ob'' e => by
  rcases Nat.lt_trichotomy p' σ.length with h | h | h
  ·rw [List.getElem?_append_left h] at e; exact .inr ⟨by omega, e⟩
  ·subst h; rw [List.getElem?_append_right (Nat.le_refl _)] at e; simp at e; exact .inl ⟨rfl, e.1.symm, e.2.symm⟩
  ·rw [List.getElem?_eq_none (by simp; omega)] at e; cases e
 obtain ⟨_, hI0⟩ := hI.grow (kn' := kn) hs ho ht hout hh (fun _ _ => rfl) (fun b o v hb e => absurd (hI.kn_lt e) (by omega))
 refine ⟨⟨hI0.knok, hI0.size, hI0.os, hI0.tape, hI0.output, hI0.old, fun p' nm' ob'' e => ?_, fun p' nm' ob'' l e hl' hm' hn' => ?_, fun p1 n1 o1 l1 p2 n2 o2 l2 e1 e2 v1 v2 m1 m2 hn1 hn2 hne => ?_, fun n hn => ?_, fun p' nm' ob'' e => ?_, fun p1 p2 n1 o1 o2 e1 e2 => ?_, fun p1 p2 n1 n2 o1 o2 e1 e2 s1 s2 => ?_, fun g => (hI.glob g).mono (KnLe.refl _) hmle, hI.tab⟩,
  ⟨Nat.le_succ _, fun n hn => mput_ne _ _ _ _ (by omega), fun p' nm' ob'' e e' => ?_⟩⟩
 ·rcases hget p' nm' ob'' e with ⟨rfl, rfl, rfl⟩ | ⟨hne, e'⟩
  ·exact hob
  ·have hlt := hI.lt p' nm' ob'' e'
   have hm'' : mput m nx loc' nm' = m nm' := mput_ne _ _ _ _ (by omega)
   have h1 := hI0.obj p' nm' ob'' e'
   exact h1.mono_m hm'' hmle
 ·rcases hget p' nm' ob'' e with ⟨rfl, rfl, rfl⟩ | ⟨hne, e'⟩
  ·rw [mput_same] at hm'
   cases hm'
   have hb : w.heap.size ≤ loc'.blk := hb.resolve_left (by rw [hn']; exact Bool.false_ne_true)
   refine ⟨hb' hn', .inl (Nat.le_trans hI.size hb), fun _ o => ?_⟩
   cases hk : kn loc'.blk o with
   | none => rfl
   | some v => have := hI.kn_lt hk; omega
  ·rw [mput_ne _ _ _ _ (by have := hI.lt p' nm' ob'' e'; omega)] at hm'
   exact hI0.own p' nm' ob'' l e' hl' hm' hn'
 ·rcases hget p1 n1 o1 e1 with ⟨rfl, rfl, rfl⟩ | ⟨h1, e1'⟩
  ·rcases hget p2 n2 o2 e2 with ⟨rfl, rfl, rfl⟩ | ⟨h2, e2'⟩
   ·exact absurd rfl hne
   ·rw [mput_same] at m1; cases m1
    rw [mput_ne _ _ _ _ (by have := hI.lt p2 n2 o2 e2'; omega)] at m2
    have := (hI.own p2 n2 o2 l2 e2' v2 m2 hn2).1
    have hb : w.heap.size ≤ loc'.blk := hb.resolve_left (by rw [hn1]; exact Bool.false_ne_true)
    omega
  ·rw [mput_ne _ _ _ _ (by have := hI.lt p1 n1 o1 e1'; omega)] at m1
   rcases hget p2 n2 o2 e2 with ⟨rfl, rfl, rfl⟩ | ⟨h2, e2'⟩
   ·rw [mput_same] at m2; cases m2
    have := (hI.own p1 n1 o1 l1 e1' v1 m1 hn1).1
    have hb : w.heap.size ≤ loc'.blk := hb.resolve_left (by rw [hn2]; exact Bool.false_ne_true)
    omega
   ·rw [mput_ne _ _ _ _ (by have := hI.lt p2 n2 o2 e2'; omega)] at m2
    exact hI.dist p1 n1 o1 l1 p2 n2 o2 l2 e1' e2' v1 v2 m1 m2 hn1 hn2 hne
 ·rw [mput_ne _ _ _ _ (by omega)]; exact hI.dom n (by omega)
 ·rcases hget p' nm' ob'' e with ⟨_, rfl, _⟩ | ⟨hne, e'⟩
  ·omega
  ·have := hI.lt p' nm' ob'' e'; omega
 ·rcases hget p1 n1 o1 e1 with ⟨rfl, rfl, _⟩ | ⟨h1, e1'⟩
  ·rcases hget p2 _ o2 e2 with ⟨rfl, _, _⟩ | ⟨h2, e2'⟩
   ·rfl
   ·have := hI.lt _ _ _ e2'; omega
  ·rcases hget p2 n1 o2 e2 with ⟨rfl, rfl, _⟩ | ⟨h2, e2'⟩
   ·have := hI.lt _ _ _ e1'; omega
   ·exact hI.uniq p1 p2 n1 o1 o2 e1' e2'
 ·rcases hget p1 n1 o1 e1 with ⟨rfl, rfl, rfl⟩ | ⟨h1, e1'⟩
  ·rcases hget p2 n2 o2 e2 with ⟨rfl, rfl, rfl⟩ | ⟨h2, e2'⟩
   ·rfl
   ·rw [hsk s1 _ _ _ e2'] at s2; cases s2
  ·rcases hget p2 n2 o2 e2 with ⟨rfl, rfl, rfl⟩ | ⟨h2, e2'⟩
   ·rw [hsk s2 _ _ _ e1'] at s1; cases s1
   ·exact hI.stk1 _ _ _ _ _ _ e1' e2' s1 s2
 ·rw [List.getElem?_append_left (List.getElem?_eq_some_iff.1 e).1]; exact e
end
end Go.Ab

namespace Go.Ab
open Go Go.RowKit
def mapO {α β : Type} (f : α → Option β) : List α → Option (List β)
 | [] => some []
 | a :: t => match f a, mapO f t with
  | some b, some l => some (b :: l)
  | _, _ => none
def castL {e' e : E} (h : e' = e) (l : List e'.den) : List e.den := h ▸ l
theorem castL_rfl {e : E} (l : List e.den) : castL (rfl : e = e) l = l := rfl
def absSl (e : E) (rec : List AV → Option e.den) : AV → Option (List e.den)
 | .tvec e' l => if h : e' = e then some (castL h l) else none
 | .base (.slice none 0 0) => some []
 | .base (.slice (some _) 0 _) => some []
 | .emp => some []
 | .vec esz rows => if esz = e.size then mapO rec rows else none
 | _ => none
def absInt (k : IntKind) : List AV → Option Int
 | [.int k' n] => if k' = k then some n else none
 | _ => none
def absBool : List AV → Option Bool
 | [.bool b] => some b
 | _ => none
def absStr : List AV → Option (List UInt8)
 | [.str l] => some l
 | _ => none
def absErri : List AV → Option Bool
 | [.erri b] => some b
 | [.base .nilIface] => some true
 | [.iface _ _] => some false
 | _ => none
def absForm (rec : List AV → Option Fm) : List AV → Option Fm
 | [.int .i64 k, .int .i64 n, .str t, s] => (absSl .form rec s).map (Fm.mk k n t)
 | _ => none
def absUn : List AV → Option Unit
 | [] => some ()
 | _ => none
def absPr {α β : Type} : Option α → Option β → Option (α × β)
 | some x, some y => some (x, y)
 | _, _ => none
def absOne (e : E) (rec : List AV → Option e.den) : List AV → Option (List e.den)
 | [s] => absSl e rec s
 | _ => none
def absStep (rec : (e : E) → List AV → Option e.den) : (e : E) → List AV → Option e.den
 | .int k, cs => absInt k cs
 | .bool, cs => absBool cs
 | .str, cs => absStr cs
 | .erri, cs => absErri cs
 | .form, cs => absForm (rec .form) cs
 | .un, cs => absUn cs
 | .pr a b, cs => absPr (rec a (cs.take a.size)) (rec b (cs.drop a.size))
 | .slice e, cs => absOne e (rec e) cs
def absC : Nat → (e : E) → List AV → Option e.den
 | 0, _, _ => none
 | f + 1, e, cs => absStep (absC f) e cs
def absF : Nat := 40
def spliceA (cs : List AV) (off : Nat) (vs : List AV) : Option (List AV) := if off + vs.length ≤ cs.length then some (cs.take off ++ (vs ++ cs.drop (off + vs.length))) else none
def storeA (P : Program) (T : TypeId) (σ : Sto) (a x : AV) : Option Sto :=
 match cellsA x, szT P T with
 | some vs, some n => if vs.length = n then (match a with
  | .ref p nm off => match sget σ p nm with
   | some (.cells T' cs) => (spliceA cs off vs).map fun cs' => σ.set p (nm, .cells T' cs')
   | _ => none
  | .eref p nm i off => match sget σ p nm with
   | some (.gvec esz ety rows) => match rows[i]? with
    | some row => (spliceA row off vs).map fun row' => σ.set p (nm, .gvec esz ety (rows.set i row'))
    | none => none
   | some (.tg e ety l) => if i < l.length then (spliceA (e.cells (l.getD i e.dflt)) off vs).bind fun row' => (absC absF e row').map fun y => σ.set p (nm, .tg e ety (l.set i y)) else none
   | _ => none
  | _ => none) else none
 | _, _ => none
def elemsA (sz : Nat) (σ : Sto) (y : AV) : Option (List (List AV)) :=
 match y with
 | .vec esz rows => if esz = sz ∨ rows = [] then some rows else none
 | .sref p nm esz off len => match sget σ p nm with
  | some (.gvec esz' _ rows) => if esz = sz ∧ esz' = sz ∧ off + len ≤ rows.length then some ((rows.drop off).take len) else none
  | _ => none
 | .base (.slice none 0 0) => some []
 | .emp => some []
 | _ => none
def strElems (l : List UInt8) : List (List AV) := l.map fun b => [.int .u8 b.toNat]
def limB : Nat := 140737488355328
def appendA (P : Program) (t t' : TypeId) (σ : Sto) (nx : Nat) (x y : AV) : Option (AV × Sto × Nat) :=
 match elmT P t with
 | some (e, sz, bytes) => if 0 < sz ∧ ((zeroCells P e).map (·.length)) = some sz then (match (match y with
   | .str l => if strT P t' ∧ sz = 1 then some (strElems l) else none
   | y => if slcT P t' then elemsA sz σ y else none) with
  | some ys => (match x with
   | .base (.slice none 0 0) => if ys.length * bytes ≤ limB ∧ ys.length ≤ 4611686018427387904 then (if ys.length = 0 then some (.base (.slice none 0 0), σ, nx) else some (.sref σ.length nx sz 0 ys.length, σ ++ [(nx, .gvec sz e ys)], nx + 1)) else none
   | .emp => if ys.length * bytes ≤ limB ∧ ys.length ≤ 4611686018427387904 then (if ys.length = 0 then some (.emp, σ, nx) else some (.sref σ.length nx sz 0 ys.length, σ ++ [(nx, .gvec sz e ys)], nx + 1)) else none
   | .sref p nm esz off len => match sget σ p nm with
    | some (.gvec esz' e' rows) => if esz = sz ∧ esz' = sz ∧ e' = e ∧ off + len ≤ rows.length ∧ (len + ys.length) * bytes ≤ limB ∧ len + ys.length ≤ 4611686018427387904 then
      some (.sref p nx sz 0 (len + ys.length), σ.set p (nx, .gvec sz e ((rows.drop off).take len ++ ys)), nx + 1) else none
    | _ => none
   | _ => none)
  | none => none) else none
 | none => none
def makeA (P : Program) (t : TypeId) (σ : Sto) (nx : Nat) (l c : AV) : Option (AV × Sto × Nat) :=
 match elmT P t, l, c with
 | some (e, sz, bytes), .int _ n, .int _ k => (match zeroCells P e with
  | some z => if 0 < sz ∧ z.length = sz ∧ 0 ≤ n ∧ n ≤ k ∧ k * bytes ≤ 281474976710656 ∧ k ≤ 4611686018427387904 then some (.sref σ.length nx sz 0 n.toNat, σ ++ [(nx, .gvec sz e (List.replicate n.toNat z))], nx + 1) else none
  | none => none)
 | _, _, _ => none
def elemsT (P : Program) (t' : TypeId) (e : E) (σ : Sto) (y : AV) : Option (List e.den) :=
 match y with
 | .str l => if strT P t' = true then (if h : (.int .u8) = e then some (castL h (l.map fun b => (b.toNat : Int))) else none) else none
 | .gs p nm e' len => if slcT P t' = true then (match sget σ p nm with
  | some (.tg e2 _ l) => if h : e2 = e then (if e' = e then some (castL h l) else none) else none
  | _ => none) else none
 | y => if slcT P t' = true then absSl e (absC absF e) y else none
def appendT (P : Program) (t t' : TypeId) (e : E) (σ : Sto) (nx : Nat) (x y : AV) : Option (AV × Sto × Nat) :=
 match elmT P t, elemsT P t' e σ y with
 | some (ety, sz, bytes), some ys => if 0 < sz ∧ ((zeroCells P ety).map (·.length)) = some sz ∧ e.size = sz then (match x with
  | .base (.slice none 0 0) => if ys.length * bytes ≤ limB ∧ ys.length ≤ 4611686018427387904 then some (.gs σ.length nx e ys.length, σ ++ [(nx, .tg e ety ys)], nx + 1) else none
  | .gs p nm e' len => match sget σ p nm with
   | some (.tg e2 ety' l) => if h : e2 = e then (if e' = e ∧ ety' = ety ∧ (l.length + ys.length) * bytes ≤ limB ∧ l.length + ys.length ≤ 4611686018427387904 then
     some (.gs p nx e (l.length + ys.length), σ.set p (nx, .tg e ety (castL h l ++ ys)), nx + 1) else none) else none
   | _ => none
  | _ => none) else none
 | _, _ => none
def makeT (P : Program) (t : TypeId) (e : E) (σ : Sto) (nx : Nat) (l c : AV) : Option (AV × Sto × Nat) :=
 match elmT P t, l, c with
 | some (ety, sz, bytes), .int _ n, .int _ k => (match zeroCells P ety with
  | some z => (match absC absF e z with
   | some z' => if 0 < sz ∧ z.length = sz ∧ e.size = sz ∧ 0 ≤ n ∧ n ≤ k ∧ k * bytes ≤ 281474976710656 ∧ k ≤ 4611686018427387904 then some (.gs σ.length nx e n.toNat, σ ++ [(nx, .tg e ety (List.replicate n.toNat z'))], nx + 1) else none
   | none => none)
  | none => none)
 | _, _, _ => none
def bslT (P : Program) (t len : Nat) (e : E) (σ : Sto) (nx : Nat) (parts : List (Nat × AV)) : Option (AV × Sto × Nat) :=
 match elmT P t with
 | some (ety, sz, _) => match zeroCells P ety with
  | some z => if 0 < sz ∧ z.length = sz ∧ e.size = sz ∧ len * sz ≤ 16777216 then (match rowsA sz (List.replicate len z) parts with
   | some rows => (mapO (absC absF e) rows).map fun l => (.gs σ.length nx e l.length, σ ++ [(nx, .tg e ety l)], nx + 1)
   | none => none) else none
  | none => none
 | none => none
def shrinkT (P : Program) (t : TypeId) (σ : Sto) (nx : Nat) (x : AV) (lo hi : Option AV) : Option (AV × Sto × Nat) :=
 match x with
 | .gs p nm e len => match elmT P t, bndA len lo hi, sget σ p nm with
  | some (_, sz, _), some (l', h), some (.tg e2 ety l) => if e = e2 ∧ e.size = sz ∧ l' = 0 ∧ 0 ≤ h ∧ h ≤ l.length then some (.gs p nx e2 h.toNat, σ.set p (nx, .tg e2 ety (l.take h.toNat)), nx + 1) else none
  | _, _, _ => none
 | _ => none
def clearT (P : Program) (t : TypeId) (σ : Sto) (x : AV) : Option Sto :=
 match x with
 | .gv p nm e off len => match elmT P t, sget σ p nm with
  | some (ety, sz, _), some (.tg e2 ety' l) => (match zeroCells P ety with
   | some z => (match absC absF e2 z with
    | some z' => if e = e2 ∧ e.size = sz ∧ z.length = sz ∧ off + len ≤ l.length then some (σ.set p (nm, .tg e2 ety' (l.take off ++ (List.replicate len z' ++ l.drop (off + len))))) else none
    | none => none)
   | none => none)
  | _, _ => none
 | _ => none
def nextA (σ : Sto) (nx : Nat) (it : AV) : Option (AV × Sto × Nat) :=
 match it with
 | .ref p nm 0 => match sget σ p nm with
  | some (.siter l pos) => if pos < l.length then some (.tup [.bool true, .int .i64 pos, .int .i32 (Utf8.decode ⟨l.toArray⟩ pos).1], σ.set p (nm, .siter l (pos + (Utf8.decode ⟨l.toArray⟩ pos).2)), nx)
   else some (.tup [.bool false], σ, nx)
  | _ => none
 | _ => none
def rangeA (P : Program) (t : TypeId) (σ : Sto) (nx : Nat) (x : AV) : Option (AV × Sto × Nat) :=
 match x with
 | .str l => if strT P t = true then some (.ref σ.length nx 0, σ ++ [(nx, .siter l 0)], nx + 1) else none
 | _ => none
def nilRow : List AV → Bool
 | [.base (.slice none 0 0)] => true
 | _ => false
def nilRows : List (List AV) → Bool
 | [] => true
 | r :: l => nilRow r && nilRows l
def noStk : Sto → Bool
 | [] => true
 | (_, o) :: l => !isStk o && noStk l
def noHand : Sto → Bool
 | [] => true
 | (_, o) :: l => !isHand o && noHand l
def stkNew (P : Program) (t len : Nat) (e : E) (σ : Sto) (nx : Nat) (parts : List (Nat × AV)) : Option (AV × Sto × Nat) :=
 match elmT P t with
 | some (ety, sz, _) => match zeroCells P ety with
  | some z => if sz = 1 ∧ z.length = 1 ∧ len * sz ≤ 16777216 ∧ noStk σ = true then (match rowsA sz (List.replicate len z) parts with
   | some rows => if nilRows rows = true then some (.gs σ.length nx (.slice e) rows.length, σ ++ [(nx, .stk e ety (List.replicate rows.length []) .no)], nx + 1) else none
   | none => none) else none
  | none => none
 | none => none
def stkPush (P : Program) (t t' : TypeId) (pe : Bool) (σ : Sto) (nx : Nat) (x y : AV) : Option (AV × Sto × Nat) :=
 match x with
 | .gs p nm e' len => match sget σ p nm with
  | some (.stk e ety l .no) => match y, elmT P t with
   | .vec 1 rows, some (ety', sz, bytes) => if e' = .slice e ∧ slcT P t' = true ∧ sz = 1 ∧ ety' = ety ∧ ((zeroCells P ety).map (·.length)) = some sz ∧ nilRows rows = true ∧ (l.length + rows.length) * bytes ≤ limB ∧ l.length + rows.length ≤ 4611686018427387904 then
     some (.gs p nx (.slice e) (l.length + rows.length), σ.set p (nx, .stk e ety (l ++ List.replicate rows.length []) .no), nx + 1) else none
   | _, _ => none
  | some (.hand e ps false r []) => match σ[ps]?, elmT P t, elemsT P t' e σ y with
   | some (n2, .stk e2 ety2 l2 (.out i2 h2 q2 true)), some (fty, sz, bytes), some ys => if e' = e ∧ e2 = e ∧ h2 = p ∧ q2 = nm ∧ ps ≠ p ∧ i2 < l2.length ∧ 0 < sz ∧ ((zeroCells P fty).map (·.length)) = some sz ∧ e.size = sz ∧ (r.length + ys.length) * bytes ≤ limB ∧ r.length + ys.length ≤ 4611686018427387904 then
     some (.gs p nx e (r.length + ys.length), (σ.set ps (n2, .stk e2 ety2 l2 (.out i2 p nx true))).set p (nx, .hand e ps pe r ys), nx + 1) else none
   | _, _, _ => none
  | _ => none
 | _ => none
def stkPop (P : Program) (t : TypeId) (σ : Sto) (nx : Nat) (x : AV) (lo hi : Option AV) : Option (AV × Sto × Nat) :=
 match x with
 | .gs p nm e len => match elmT P t, bndA len lo hi, sget σ p nm with
  | some (_, sz, _), some (l', h), some (.stk e2 ety l .no) => if e = .slice e2 ∧ sz = 1 ∧ l' = 0 ∧ 0 ≤ h ∧ h ≤ l.length then some (.gs p nx (.slice e2) h.toNat, σ.set p (nx, .stk e2 ety (l.take h.toNat) .no), nx + 1) else none
  | _, _, _ => none
 | _ => none
def stkRd (P : Program) (T : TypeId) (σ : Sto) (nx : Nat) (a : AV) : Option (AV × Sto × Nat) :=
 match a with
 | .eref p nm i 0 => match sget σ p nm with
  | some (.stk e ety l .no) => if i < l.length ∧ aggT P T = some false ∧ 0 < e.size ∧ noHand σ = true then some (.gs σ.length nx e (l.getD i []).length, σ.set p (nm, .stk e ety l (.out i σ.length nx true)) ++ [(nx, .hand e p false (l.getD i []) [])], nx + 1) else none
  | _ => none
 | _ => none
def storeO (P : Program) (T : TypeId) (σ : Sto) (a x : AV) : Option Sto :=
 match a, x with
 | .eref p nm i 0, .gs h q e len => match sget σ p nm, sget σ h q with
  | some (.stk e1 ety l (.out i' h' q' true)), some (.hand e2 ps pe r ys) => if he : e2 = e1 then (if i' = i ∧ q' = q ∧ h' = h ∧ i < l.length ∧ h ≠ p ∧ aggT P T = some false ∧ szT P T = some 1 then
    cond pe (some (σ.set p (nm, .stk e1 ety l (.out i h q false)))) (some ((σ.set p (nm, .stk e1 ety (l.set i (castL he (r ++ ys))) .no)).set h (q, .none))) else none) else none
  | _, _ => none
 | _, _ => none
def storeH (P : Program) (T : TypeId) (σ : Sto) (a x : AV) : Option Sto :=
 match a, cellsA x, szT P T with
 | .eref h q i off, some vs, some n => match sget σ h q with
  | some (.hand e ps true r ys) => if vs.length = n ∧ r.length ≤ i ∧ i < r.length + ys.length ∧ ps ≠ h then (match (spliceA (e.cells (ys.getD (i - r.length) e.dflt)) off vs).bind (absC absF e) with
   | some y => (match σ[ps]? with
    | some (n2, .stk e2 ety2 l2 (.out i2 h2 q2 b2)) => if he : e = e2 then (if h2 = h ∧ q2 = q ∧ i2 < l2.length then
      cond b2 (some (σ.set h (q, .hand e ps false r (ys.set (i - r.length) y)))) (some ((σ.set ps (n2, .stk e2 ety2 (l2.set i2 (castL he (r ++ ys.set (i - r.length) y))) .no)).set h (q, .none))) else none) else none
    | _ => none)
   | none => none) else none
  | _ => none
 | _, _, _ => none
def storeS (P : Program) (T : TypeId) (σ : Sto) (a x : AV) : Option Sto :=
 match storeO P T σ a x with
 | some σ' => some σ'
 | none => storeH P T σ a x
def sop (C : Cx) (e : E) (pe : Bool) (op : Op) (env : Nat → AV) (σ : Sto) (nx : Nat) : Option (AV × Sto × Nat) :=
 match op with
 | .buildSlice t len parts => stkNew C.P t len e σ nx (parts.toList.map fun p => (p.1, opv C env p.2))
 | .load T a => stkRd C.P T σ nx (opv C env a)
 | .slice t x lo hi none => stkPop C.P t σ nx (opv C env x) (lo.map (opv C env)) (hi.map (opv C env))
 | .call c => match c.callee, c.argTypes.toList, c.args.toList.map (opv C env) with
  | .builtin .append, [t, t'], [x, y] => stkPush C.P t t' pe σ nx x y
  | _, _, _ => none
 | _ => none
def orS {α : Type} (a b : Option α) : Option α := match a with
 | some x => some x
 | none => b
def isSE : Option E → Option (E × Bool)
 | some (.pr (.slice e) .un) => some (e, false)
 | some (.pr (.slice e) (.pr .un .un)) => some (e, true)
 | _ => none
def convG (P : Program) (σ : Sto) (nx : Nat) (s d : TypeId) (a : AV) : Option (AV × Sto × Nat) :=
 match a with
 | .gs p nm (.int .u8) _ => match sget σ p nm with
  | some (.tg (.int .u8) _ l) => if bytT P s = true ∧ strT P d = true then some (.str (strOf l), σ, nx) else none
  | _ => none
 | _ => none
def eop0 (C : Cx) (ty : Option E) (op : Op) (env : Nat → AV) (σ : Sto) (nx : Nat) : Option (AV × Sto × Nat) :=
 match op with
 | .box T x => (cellsA (opv C env x)).map fun cs => (.ref σ.length nx 0, σ ++ [(nx, .cells T cs)], nx + 1)
 | .buildSlice t len parts => match ty with
  | some e => bslT C.P t len e σ nx (parts.toList.map fun p => (p.1, opv C env p.2))
  | none => match elmT C.P t with
   | some (e, sz, _) => match zeroCells C.P e with
    | some z => if 0 < sz ∧ z.length = sz ∧ len * sz ≤ 16777216 then (rowsA sz (List.replicate len z) (parts.toList.map fun p => (p.1, opv C env p.2))).map fun rows =>
      (.sref σ.length nx sz 0 len, σ ++ [(nx, .gvec sz e rows)], nx + 1) else none
    | none => none
   | none => none
 | .store T a x => orS ((storeA C.P T σ (opv C env a) (opv C env x)).map fun σ' => (.undef, σ', nx)) ((storeS C.P T σ (opv C env a) (opv C env x)).map fun σ' => (.undef, σ', nx))
 | .makeSlice t l c => match ty with
  | some e => makeT C.P t e σ nx (opv C env l) (opv C env c)
  | none => makeA C.P t σ nx (opv C env l) (opv C env c)
 | .slice t x lo hi none => shrinkT C.P t σ nx (opv C env x) (lo.map (opv C env)) (hi.map (opv C env))
 | .range t x => rangeA C.P t σ nx (opv C env x)
 | .next x true => nextA σ nx (opv C env x)
 | .convert s d x => convG C.P σ nx s d (opv C env x)
 | .call c => match c.callee, c.argTypes.toList, c.args.toList.map (opv C env) with
  | .builtin .append, [t, t'], [x, y] => match ty with
   | some e => appendT C.P t t' e σ nx x y
   | none => appendA C.P t t' σ nx x y
  | .builtin .clear, [t], [x] => (clearT C.P t σ x).map fun σ' => (.tup [], σ', nx)
  | _, _, _ => none
 | _ => none
def eop (C : Cx) (ty : Option E) (op : Op) (env : Nat → AV) (σ : Sto) (nx : Nat) : Option (AV × Sto × Nat) :=
 match op with
 | .buildSlice t len parts => match isSE ty with
  | some e => sop C e.1 e.2 (.buildSlice t len parts) env σ nx
  | none => eop0 C ty (.buildSlice t len parts) env σ nx
 | .load T a => match isSE ty with
  | some e => sop C e.1 e.2 (.load T a) env σ nx
  | none => none
 | .slice t x lo hi mx => match isSE ty with
  | some e => sop C e.1 e.2 (.slice t x lo hi mx) env σ nx
  | none => eop0 C ty (.slice t x lo hi mx) env σ nx
 | .call c => match isSE ty with
  | some e => sop C e.1 e.2 (.call c) env σ nx
  | none => eop0 C ty (.call c) env σ nx
 | op => eop0 C ty op env σ nx
section
variable {C : Cx} {B : Base} {kn : Kn} {m : Mp} {σ : Sto} {nx : Nat} {w : World}
def Writes (C : Cx) (B : Base) (kn : Kn) (m : Mp) (σ : Sto) (nx : Nat) (x : AV) (σ' : Sto) (nx' : Nat) (r : Result Next) : Prop :=
 ∃ nxt u kn' m' w', r = .ok nxt w' ∧ (nxt = .value u ∨ (nxt = .skip ∧ u = undef)) ∧ KnLe kn kn' ∧ Rel kn' m' x u ∧ Inv C B kn' m' σ' nx' w' ∧ Keep m σ nx m' σ' nx'
theorem run_alloc_cells (w : World) (arr : Array Value) (T : TypeId) : (w.alloc (.cells arr T)).heap[w.heap.size]? = some (.cells arr T (0, 0)) := heap_alloc_new w _
theorem writes_box (hI : Inv C B kn m σ nx w) {T : TypeId} {x : AV} {v : Value} {cs : List AV} (hx : Rel kn m x v) (hc : cellsA x = some cs) :
  ∃ u m' w', (Instr.box T v).run C.P w = .ok u w' ∧ Rel kn m' (.ref σ.length nx 0) u ∧ Inv C B kn m' (σ ++ [(nx, .cells T cs)]) (nx + 1) w' ∧ Keep m σ nx m' (σ ++ [(nx, .cells T cs)]) (nx + 1) := by
 have hrl := hx.cells hc
 have hmle : MpLe m (mput m nx ⟨w.heap.size, 0, 0, 0, 0, false⟩) := fun n l e => by
  rw [mput_ne]
  ·exact e
  ·intro en; subst en; rw [hI.dom n (Nat.le_refl _)] at e; cases e
 obtain ⟨h1, h2⟩ := hI.new (ob' := .cells T cs) (loc' := ⟨w.heap.size, 0, 0, 0, 0, false⟩) (w' := w.alloc (.cells v.cells T)) (by simp) rfl rfl rfl (.inr (Nat.le_refl _)) (by simp) (fun b hb => Below.heap_alloc _ _ _ hb)
  (by
   simp only [ObjRel, mput_same]
   exact ⟨trivial, trivial, v.cells, run_alloc_cells w v.cells T, hrl.mono (KnLe.refl _) hmle⟩)
 exact ⟨_, _, _, rfl, .ref _ _ _ _ (mput_same _ _ _), h1, h2⟩
theorem gvec_obj {nm esz ety : Nat} {rows : List (List AV)} {loc : Loc} {arr : Array Value} {w : World} (hm : m nm = some loc) (hnl : loc.nil = false) (hll : loc.len = rows.length) (he : loc.esz = esz) (hw : w.heap[loc.blk]? = some (.cells arr ety (0, 0))) (ho : loc.off = 0) (hs : loc.cap * esz ≤ arr.size)
  (hr : rows.length ≤ loc.cap) (hcm : loc.cap ≤ maxLen) (h1 : ∀ v ∈ arr.toList, v.oneCell' = true) (hrow : ∀ (i : Nat) (row : List AV), rows[i]? = some row → row.length = esz)
  (hrel : ∀ (i : Nat) (row : List AV) (j : Nat) (x : AV) (v : Value), rows[i]? = some row → row[j]? = some x → arr[i * esz + j]? = some v → Rel kn m x v) : GvRel kn m w nm esz ety rows :=
 ⟨loc, hm, hll, .inr ⟨hnl, he, arr, hw, by omega, hr, hcm, h1, hrow, fun i row j x v a b c => hrel i row j x v a b (by rwa [ho, Nat.zero_add] at c)⟩⟩
theorem le62 {n : Nat} (h : n ≤ 4611686018427387904) : n ≤ 2 ^ 62 := h
theorem le62_max {n : Nat} (h : n ≤ 4611686018427387904) : n ≤ maxLen := by unfold maxLen; omega
theorem writes_buildSlice (hI : Inv C B kn m σ nx w) {t len e sz by_ : Nat} {z : List AV} {rows : List (List AV)} {parts : List (Nat × AV)} {parts' : Array (Nat × Value)} (he : elmT C.P t = some (e, sz, by_)) (hz : zeroCells C.P e = some z)
  (hs0 : 0 < sz) (hzl : z.length = sz) (hlim : len * sz ≤ 16777216) (hr : rowsA sz (List.replicate len z) parts = some rows) (hl : parts.length = parts'.size)
  (hp : ∀ (i : Nat) (p : Nat × AV) (p' : Nat × Value), parts[i]? = some p → parts'[i]? = some p' → p.1 = p'.1 ∧ Rel kn m p.2 p'.2) :
  ∃ u m' w', (Instr.buildSlice t len parts').run C.P w = .ok u w' ∧ Rel kn m' (.sref σ.length nx sz 0 len) u ∧ Inv C B kn m' (σ ++ [(nx, .gvec sz e rows)]) (nx + 1) w' ∧ Keep m σ nx m' (σ ++ [(nx, .gvec sz e rows)]) (nx + 1) := by
 obtain ⟨arr, hrun, hfl, has, hrl⟩ := gives_buildSlice hI he hz hs0 hzl hlim hr hl hp
 have hlen : len ≤ 16777216 := by have : len * 1 ≤ len * sz := Nat.mul_le_mul_left _ hs0; omega
 have hmle : MpLe m (mput m nx ⟨w.heap.size, 0, len, sz, len, false⟩) := fun n l e => by
  rw [mput_ne]
  ·exact e
  ·intro en; subst en; rw [hI.dom n (Nat.le_refl _)] at e; cases e
 obtain ⟨h1, h2⟩ := hI.new (ob' := .gvec sz e rows) (loc' := ⟨w.heap.size, 0, len, sz, len, false⟩) (w' := w.alloc (.cells arr e)) (by simp) rfl rfl rfl (.inr (Nat.le_refl _)) (by simp) (fun b hb => Below.heap_alloc _ _ _ hb)
  (gvec_obj (mput_same _ _ _) rfl hrl.symm rfl (run_alloc_cells w arr e) rfl (by rw [has]; exact Nat.le_refl _) (by rw [hrl]; exact Nat.le_refl _) (by show len ≤ maxLen; unfold maxLen; omega) hfl.2.2 hfl.1
   (fun i row j x v a b c => (hfl.2.1 i row j x v a b (by simpa using c)).mono (KnLe.refl _) hmle))
 refine ⟨_, _, _, hrun, ?_, h1, h2⟩
 have := Rel.sref (kn := kn) (m := mput m nx ⟨w.heap.size, 0, len, sz, len, false⟩) σ.length nx sz 0 len _ (mput_same _ _ _) rfl rfl (by simp) (le62 (by omega))
 simpa using this
theorem run_store_cells {g : Nat} {o : Nat} {ty : TypeId} {cur : Array Value} {T n : Nat} {v : Value} (hg : w.heap[g]? = some (.cells cur ty (0, 0))) (hT : szT C.P T = some n) (hn : v.cells.size = n) (hfit : o + n ≤ cur.size) (h1 : ∀ u ∈ v.cells.toList, u.oneCell' = true) :
  (Instr.storeAt T (.pointer (some ⟨g, o, none⟩)) v).run C.P w = .ok () (w.setRow g (cur.toList.take o ++ (v.cells.toList ++ cur.toList.drop (o + n))).toArray) := by
 have hst := run_storeCells_at C.P g o ty v.cells.toList 0 cur w hg (by simp [hn]; exact hfit) h1
 simp only [Nat.add_zero, List.append_assoc] at hst
 simp only [Instr.storeAt, Instr.sureAddr, storeVar, Sem.run_bind, Sem.run_pure, Result.andThen_ok, run_sizeOf' hT, hn]
 simp [hst, hn]
theorem mapO_get {α β : Type} {f : α → Option β} : ∀ {ags : List α} {bs : List β}, mapO f ags = some bs → bs.length = ags.length ∧ ∀ (i : Nat) (b : β), bs[i]? = some b → ∃ a, ags[i]? = some a ∧ f a = some b
 | [], bs, h => by simp only [mapO, Option.some.injEq] at h; subst h; exact ⟨rfl, fun i b h => by simp at h⟩
 | a :: t, bs, h => by
  simp only [mapO] at h
  split at h
  ·rename_i b l hb hl
   cases h
   obtain ⟨h1, h2⟩ := mapO_get hl
   refine ⟨by simp [h1], fun i c hc => ?_⟩
   cases i with
   | zero => simp at hc; subst hc; exact ⟨a, rfl, hb⟩
   | succ i => simp at hc; simpa using h2 i c hc
  ·cases h
theorem vec_conv {esz esz' : Nat} {rows rows' : List (List AV)} {v : Value} (h : Rel kn m (.vec esz rows) v) (he : esz = esz') (hl : rows'.length = rows.length)
  (hr : ∀ (i : Nat) (row row' : List AV), rows[i]? = some row → rows'[i]? = some row' → row'.length = esz' ∧ ∀ us, RelL kn m row us → RelL kn m row' us) : Rel kn m (.vec esz' rows') v := by
 subst he
 cases h with
 | vecNil _ a cap => have : rows' = [] := List.eq_nil_of_length_eq_zero (by simpa using hl); subst this; exact .vecNil _ _ _
 | vecNone _ => have : rows' = [] := List.eq_nil_of_length_eq_zero (by simpa using hl); subst this; exact .vecNone _
 | vec _ _ b o cap vals hc hm hrow hk hr' h1 =>
  have get : ∀ (i : Nat) (row' : List AV), rows'[i]? = some row' → ∃ row, rows[i]? = some row := fun i row' e => by
   have := (List.getElem?_eq_some_iff.1 e).1
   exact ⟨rows[i]'(by omega), List.getElem?_eq_getElem (by omega)⟩
  have lk : ∀ (i : Nat) (row row' : List AV) (j : Nat) (x : AV), rows[i]? = some row → rows'[i]? = some row' → row'[j]? = some x → ∃ y, row[j]? = some y := fun i row row' j x e e' ej => by
   have h1 := (List.getElem?_eq_some_iff.1 ej).1
   have h2 := (hr i row row' e e').1
   have h3 := hrow i row e
   exact ⟨row[j]'(by omega), List.getElem?_eq_getElem (by omega)⟩
  have := Rel.vec (kn := kn) (m := m) esz rows' b o cap vals (by omega) (by omega) (fun i row' e => (get i row' e).elim fun row er => (hr i row row' er e).1)
   (fun i row' j x e ej => by obtain ⟨row, er⟩ := get i row' e; obtain ⟨y, ey⟩ := lk i row row' j x er e ej; exact hk i row j y er ey)
   (fun i row' j x e ej => by
    obtain ⟨row, er⟩ := get i row' e
    have hrl := (hr i row row' er e).2 ((List.range row.length).map fun j => vals i j) ⟨by simp, fun k y v a b => by
     have hk := (List.getElem?_eq_some_iff.1 a).1
     simp [hk] at b; subst b; exact hr' i row k y er a⟩
    have hj := (List.getElem?_eq_some_iff.1 ej).1
    have hjr : j < row.length := by rw [hrow i row er]; rw [(hr i row row' er e).1] at hj; exact hj
    exact hrl.2 j x _ ej (by simp [hjr]))
   (fun i row' j x e ej => by obtain ⟨row, er⟩ := get i row' e; obtain ⟨y, ey⟩ := lk i row row' j x er e ej; exact h1 i row j y er ey)
  rw [hl] at this
  exact this
theorem absSl_sound {e : E} {rec : List AV → Option e.den} (hrec : ∀ cs x, rec cs = some x → ∀ us, RelL kn m cs us → RelL kn m (e.row x) us) {s : AV} {l : List e.den} (h : absSl e rec s = some l) {v : Value} (hv : Rel kn m s v) :
  Rel kn m (.vec e.size (l.map e.row)) v := by
 unfold absSl at h
 split at h
 ·split at h
  ·rename_i hh; subst hh; cases h; exact rel_tvec.1 hv
  ·cases h
 ·cases h; cases hv; exact .vecNone _
 ·cases h; cases hv; exact .vecNil _ _ _
 ·cases h; cases hv
  ·exact .vecNil _ _ _
  ·exact .vecNone _
 ·split at h
  ·rename_i he
   obtain ⟨hl, hg⟩ := mapO_get h
   refine vec_conv hv he (by simp [hl]) fun i row row' hi hi' => ?_
   rw [List.getElem?_map] at hi'
   cases hx : l[i]? with
   | none => simp [hx] at hi'
   | some x =>
    simp only [hx, Option.map_some, Option.some.injEq] at hi'
    subst hi'
    obtain ⟨a, ha, hf⟩ := hg i x hx
    rw [hi] at ha; cases ha
    exact ⟨E.row_len _ _, fun us => hrec row x hf us⟩
  ·cases h
 ·cases h
theorem relL_one {c : AV} {us : List Value} : RelL kn m [c] us ↔ ∃ v, us = [v] ∧ Rel kn m c v := by
 rw [RelL.cons_iff]
 constructor
 ·rintro ⟨v, us', rfl, h1, h2⟩
  have : us' = [] := List.eq_nil_of_length_eq_zero (by have := h2.1; simpa using this.symm)
  subst this; exact ⟨v, rfl, h1⟩
 ·rintro ⟨v, rfl, h⟩; exact ⟨v, [], rfl, h, .nil _ _⟩
theorem absStep_sound {rec : (e : E) → List AV → Option e.den} (ih : ∀ e cs x, rec e cs = some x → ∀ us, RelL kn m cs us → RelL kn m (e.row x) us) : ∀ (e : E) (cs : List AV) (x : e.den), absStep rec e cs = some x → ∀ us, RelL kn m cs us → RelL kn m (e.row x) us
 | .int k, cs, x, h, us, hr => by
  replace h : absInt k cs = some x := h
  unfold absInt at h
  split at h
  ·split at h
   ·rename_i hk; subst hk; cases h; exact hr
   ·cases h
  ·cases h
 | .bool, cs, x, h, us, hr => by
  replace h : absBool cs = some x := h
  unfold absBool at h
  split at h
  ·cases h; exact hr
  ·cases h
 | .str, cs, x, h, us, hr => by
  replace h : absStr cs = some x := h
  unfold absStr at h
  split at h
  ·cases h; exact hr
  ·cases h
 | .erri, cs, x, h, us, hr => by
  replace h : absErri cs = some x := h
  unfold absErri at h
  split at h
  ·cases h; exact hr
  ·cases h; obtain ⟨v, rfl, hv⟩ := relL_one.1 hr; cases hv; exact relL_one.2 ⟨_, rfl, .erriNil⟩
  ·cases h; obtain ⟨v, rfl, hv⟩ := relL_one.1 hr; cases hv; exact relL_one.2 ⟨_, rfl, .erriSome _ _⟩
  ·cases h
 | .form, cs, x, h, us, hr => by
  replace h : absForm (rec .form) cs = some x := h
  unfold absForm at h
  split at h
  ·rename_i k n t s
   obtain ⟨l, hl, rfl⟩ := Option.map_eq_some_iff.1 h
   have hs : ∀ v, Rel kn m s v → Rel kn m (.vec 4 (Fm.rows l)) v := fun v hv => by
    rw [Fm.rows_map]
    exact absSl_sound (e := .form) (fun cs x h us hr => ih .form cs x h us hr) hl hv
   show RelL kn m [.int .i64 k, .int .i64 n, .str t, .vec 4 (Fm.rows l)] us
   simp only [RelL.cons_iff] at hr ⊢
   obtain ⟨v1, u1, rfl, h1, v2, u2, rfl, h2, v3, u3, rfl, h3, v4, u4, rfl, h4, h5⟩ := hr
   exact ⟨v1, _, rfl, h1, v2, _, rfl, h2, v3, _, rfl, h3, v4, _, rfl, hs _ h4, h5⟩
  ·cases h
 | .un, cs, x, h, us, hr => by
  replace h : absUn cs = some x := h
  unfold absUn at h
  split at h
  ·exact hr
  ·cases h
 | .pr a b, cs, x, h, us, hr => by
  replace h : absPr (rec a (cs.take a.size)) (rec b (cs.drop a.size)) = some x := h
  unfold absPr at h
  split at h
  ·rename_i x y hx hy
   cases h
   show RelL kn m (a.row x ++ b.row y) us
   have hr' : RelL kn m (cs.take a.size ++ cs.drop a.size) us := by rw [List.take_append_drop]; exact hr
   obtain ⟨u1, u2, rfl, h1, h2⟩ := RelL.append_iff.1 hr'
   exact (ih a _ x hx u1 h1).append (ih b _ y hy u2 h2)
  ·cases h
 | .slice e, cs, x, h, us, hr => by
  replace h : absOne e (rec e) cs = some x := h
  unfold absOne at h
  split at h
  ·rename_i s
   obtain ⟨v, rfl, hv⟩ := relL_one.1 hr
   exact relL_one.2 ⟨v, rfl, absSl_sound (fun cs x h us hr => ih e cs x h us hr) h hv⟩
  ·cases h
theorem absC_sound : ∀ (f : Nat) (e : E) (cs : List AV) (x : e.den), absC f e cs = some x → ∀ us, RelL kn m cs us → RelL kn m (e.row x) us
 | 0, _, _, _, h, _, _ => by cases h
 | f + 1, e, cs, x, h, us, hr => absStep_sound (fun e cs x h us hr => absC_sound f e cs x h us hr) e cs x h us hr
theorem GvRel.conv {nm esz ety : Nat} {rows rows' : List (List AV)} (h : GvRel kn m w nm esz ety rows) (hl : rows'.length = rows.length)
  (hr : ∀ (i : Nat) (row row' : List AV), rows[i]? = some row → rows'[i]? = some row' → row'.length = esz ∧ ∀ us, RelL kn m row us → RelL kn m row' us) : GvRel kn m w nm esz ety rows' := by
 obtain ⟨loc, hm, hll, h⟩ := h
 refine ⟨loc, hm, by omega, ?_⟩
 rcases h with ⟨h1, h2⟩ | ⟨hnl, he, arr, hw, hsz, hle, hmx, hone, hrl, hrr⟩
 ·refine .inl ⟨h1, List.eq_nil_of_length_eq_zero ?_⟩
  rw [hl, h2]; rfl
 ·have get : ∀ (i : Nat) (row' : List AV), rows'[i]? = some row' → ∃ row, rows[i]? = some row := fun i row' e => by
   have := (List.getElem?_eq_some_iff.1 e).1
   exact ⟨rows[i]'(by omega), List.getElem?_eq_getElem (by omega)⟩
  refine .inr ⟨hnl, he, arr, hw, hsz, by omega, hmx, hone, fun i row' e => (get i row' e).elim fun row er => (hr i row row' er e).1, fun i row' j x v e ej ev => ?_⟩
  obtain ⟨row, er⟩ := get i row' e
  have hrow := hrl i row er
  have hir : i < rows.length := (List.getElem?_eq_some_iff.1 er).1
  have hin : ∀ k, k < esz → loc.off + i * esz + k < arr.size := fun k hk => by
   have : i * esz + esz ≤ loc.cap * esz := by
    rw [← Nat.succ_mul]; exact Nat.mul_le_mul_right _ (by omega)
   omega
  have hrl2 := (hr i row row' er e).2 ((List.range esz).map fun k => arr.getD (loc.off + i * esz + k) undef) ⟨by simp [hrow], fun k y v a b => by
   have hk : k < esz := by rw [← hrow]; exact (List.getElem?_eq_some_iff.1 a).1
   simp [hk] at b
   refine hrr i row k y v er a ?_
   rw [← b]; simp [hin k hk]⟩
  have hj : j < esz := by rw [← (hr i row row' er e).1]; exact (List.getElem?_eq_some_iff.1 ej).1
  refine hrl2.2 j x v ej ?_
  simp [hj]
  have := hin j hj
  simp [this] at ev ⊢
  exact ev
def Fr (kn : Kn) (w w' : World) : Prop := ∀ b o v, kn b o = some v → w'.heap[b]? = w.heap[b]?
theorem row_run {nm esz ety i off n : Nat} {rows : List (List AV)} {row cs vs row'' : List AV} {loc : Loc} {T : TypeId} {v : Value} (hgv : GvRel kn m w nm esz ety rows) (hm : m nm = some loc) (hnl : loc.nil = false)
  (hrow : rows[i]? = some row) (hcs : ∀ us, RelL kn m row us → RelL kn m cs us) (hcl : cs.length = esz)
  (hT : szT C.P T = some n) (hvn : v.cells.size = n) (hv : RelC kn m vs v.cells.toList) (hlen : vs.length = n) (hfit : off + vs.length ≤ cs.length)
  (hrow'' : ∀ us, RelL kn m (cs.take off ++ (vs ++ cs.drop (off + vs.length))) us → RelL kn m row'' us) (hrl'' : row''.length = esz) :
  ∃ w', (Instr.storeAt T (.pointer (some ⟨loc.blk, loc.off + i * loc.esz + off, none⟩)) v).run C.P w = .ok () w' ∧ w'.heap.size = w.heap.size ∧ w'.os = w.os ∧ w'.tape = w.tape ∧ w'.output = w.output ∧ (∀ b, b ≠ loc.blk → w'.heap[b]? = w.heap[b]?) ∧
   (∀ o, o < loc.off + i * loc.esz → w'.cell? ⟨loc.blk, o, none⟩ = w.cell? ⟨loc.blk, o, none⟩) ∧ GvRel kn m w' nm esz ety (rows.set i row'') := by
 obtain ⟨hll, he, arr, hw, hsz, hle, hmx, hone, hrl, hrr⟩ := hgv.get hm hnl
 subst he
 have hir : i < rows.length := (List.getElem?_eq_some_iff.1 hrow).1
 have hrowl := hrl i row hrow
 have hoff : i * loc.esz + loc.esz ≤ loc.cap * loc.esz := by rw [← Nat.succ_mul]; exact Nat.mul_le_mul_right _ (by omega)
 have hfit' : loc.off + i * loc.esz + off + n ≤ arr.size := by omega
 have hrun := run_store_cells (C := C) (w := w) (o := loc.off + i * loc.esz + off) (T := T) (v := v) hw hT hvn hfit' hv.2
 have hvl : v.cells.toList.length = n := by simpa using hvn
 have hget : ∀ k, (arr.toList.take (loc.off + i * loc.esz + off) ++ (v.cells.toList ++ arr.toList.drop (loc.off + i * loc.esz + off + n)))[k]? = if loc.off + i * loc.esz + off ≤ k ∧ k < loc.off + i * loc.esz + off + n then v.cells.toList[k - (loc.off + i * loc.esz + off)]? else arr.toList[k]? := fun k => by
  have := splice_get arr.toList v.cells.toList (loc.off + i * loc.esz + off) k (by rw [hvl]; simpa using hfit')
  rw [hvl] at this; exact this
 have hin : ∀ k, k < loc.esz → loc.off + i * loc.esz + k < arr.size := fun k hk => by omega
 have hold : RelL kn m cs ((List.range loc.esz).map fun k => arr.getD (loc.off + i * loc.esz + k) undef) := hcs _ ⟨by simp [hrowl], fun k y u a b => by
  have hk : k < loc.esz := by rw [← hrowl]; exact (List.getElem?_eq_some_iff.1 a).1
  simp [hk] at b
  refine hrr i row k y u hrow a ?_
  rw [← b]; simp [hin k hk]⟩
 have hnew := hrow'' _ ((hold.take off).append (hv.1.append (hold.drop (off + vs.length))))
 refine ⟨w.setRow loc.blk (arr.toList.take (loc.off + i * loc.esz + off) ++ (v.cells.toList ++ arr.toList.drop (loc.off + i * loc.esz + off + n))).toArray, hrun, by simp, rfl, rfl, rfl, fun b hb => setRow_other _ _ _ _ hb, fun o ho => ?_, ?_⟩
 ·have h1 := setRow_heap w loc.blk arr (arr.toList.take (loc.off + i * loc.esz + off) ++ (v.cells.toList ++ arr.toList.drop (loc.off + i * loc.esz + off + n))).toArray ety (0, 0) hw
  have h2 : (arr.toList.take (loc.off + i * loc.esz + off) ++ (v.cells.toList ++ arr.toList.drop (loc.off + i * loc.esz + off + n))).toArray[o]? = arr[o]? := by
   rw [List.getElem?_toArray, hget, if_neg (fun hh => by omega), Array.getElem?_toList]
  simp only [World.cell?, h1, hw]
  simpa using h2
 ·refine ⟨loc, hm, by simpa using hll, .inr ⟨hnl, rfl, _, setRow_heap w loc.blk arr _ ety (0, 0) hw, ?_, by simpa using hle, hmx, fun u hu => ?_, fun k r hk => ?_, fun k r j y u hk hj hu => ?_⟩⟩
  ·rw [List.size_toArray]
   have := splice_len arr.toList v.cells.toList (loc.off + i * loc.esz + off) (by rw [hvl]; simpa using hfit')
   rw [hvl] at this
   rw [this]; simpa using hsz
  ·simp only [List.mem_append] at hu
   rcases hu with hu | hu | hu
   ·exact hone u (List.mem_of_mem_take hu)
   ·exact hv.2 u hu
   ·exact hone u (List.mem_of_mem_drop hu)
  ·rw [List.getElem?_set] at hk
   split at hk
   ·cases hk; exact hrl''
   ·exact hrl k r hk
  ·rw [List.getElem?_toArray, hget] at hu
   rw [List.getElem?_set] at hk
   split at hk
   ·rename_i hki
    subst hki
    cases hk
    have hjl : j < loc.esz := by rw [← hrl'']; exact (List.getElem?_eq_some_iff.1 hj).1
    refine hnew.2 j y u hj ?_
    have hlt : (((List.range loc.esz).map fun k => arr.getD (loc.off + i * loc.esz + k) undef).take off).length = off := by simp; omega
    by_cases h1 : j < off
    ·rw [List.getElem?_append_left (by omega), List.getElem?_take, if_pos h1]
     rw [if_neg (by omega)] at hu
     simp [hjl]
     have := hin j hjl
     simp [this] at hu ⊢
     exact hu
    ·rw [List.getElem?_append_right (by omega), hlt]
     by_cases h2 : j < off + n
     ·rw [List.getElem?_append_left (by omega)]
      rw [if_pos ⟨by omega, by omega⟩] at hu
      rw [← hu]; congr 1; omega
     ·rw [List.getElem?_append_right (by omega), List.getElem?_drop, hvl, hlen]
      rw [if_neg (by omega)] at hu
      rw [show off + n + (j - off - n) = j by omega]
      simp [hjl]
      have := hin j hjl
      simp [this] at hu ⊢
      exact hu
   ·rename_i hki
    have hjl : j < loc.esz := by rw [← hrl k r hk]; exact (List.getElem?_eq_some_iff.1 hj).1
    rw [if_neg (fun hh => hki (idx_inj hjl (by omega) (by omega)).symm)] at hu
    exact hrr k r j y u hk hj (by simpa using hu)
theorem store_row (hI : Inv C B kn m σ nx w) {p nm esz ety i off n : Nat} {ob ob' : AObj} {rows : List (List AV)} {row cs vs row'' : List AV} {loc : Loc} {T : TypeId} {v : Value}
  (hp : σ[p]? = some (nm, ob)) (hl : live ob) (hg : ObjRel C.P B kn m w nm ob → GvRel kn m w nm esz ety rows) (hm : m nm = some loc) (hrow : rows[i]? = some row) (hcs : ∀ us, RelL kn m row us → RelL kn m cs us) (hcl : cs.length = esz)
  (hT : szT C.P T = some n) (hvn : v.cells.size = n) (hv : RelC kn m vs v.cells.toList) (hlen : vs.length = n) (hfit : off + vs.length ≤ cs.length)
  (hrow'' : ∀ us, RelL kn m (cs.take off ++ (vs ++ cs.drop (off + vs.length))) us → RelL kn m row'' us) (hrl'' : row''.length = esz)
  (hg' : ∀ w', Fr kn w w' → GvRel kn m w' nm esz ety (rows.set i row'') → ObjRel C.P B kn m w' nm ob') (hsk : isStk ob' = true → isStk ob = true := by intro h; first | rfl | cases h) (hnh : isHand ob = false := by rfl) :
  ∃ w', (Instr.storeAt T (.pointer (some ⟨loc.blk, loc.off + i * loc.esz + off, none⟩)) v).run C.P w = .ok () w' ∧ Inv C B kn m (σ.set p (nm, ob')) nx w' ∧ Keep m σ nx m (σ.set p (nm, ob')) nx := by
 have hgv := hg (hI.obj _ _ _ hp)
 have hnl : loc.nil = false := by
  cases hx : loc.nil with
  | false => rfl
  | true => rw [hgv.nilRows hm hx] at hrow; simp at hrow
 obtain ⟨w', h1, h2, h3, h4, h5, h6, _, h8⟩ := row_run hgv hm hnl hrow hcs hcl hT hvn hv hlen hfit hrow'' hrl''
 obtain ⟨q1, q2⟩ := hI.write (ob' := ob') hp hl hm hnl h2 h3 h4 h5 h6 (hsk := hsk) (hnh := hnh) (hg' _ (fun b o u e => h6 b (fun eb => by rw [eb, (hI.own p nm ob loc hp hl hm hnl).2.2 hnh o] at e; cases e)) h8)
 exact ⟨w', h1, q1, q2⟩
theorem store_sound (hI : Inv C B kn m σ nx w) {T : TypeId} {a x : AV} {av v : Value} {σ' : Sto} (h : storeA C.P T σ a x = some σ') (ha : Rel kn m a av) (hx : Rel kn m x v) :
  ∃ w', (Instr.storeAt T av v).run C.P w = .ok () w' ∧ Inv C B kn m σ' nx w' ∧ Keep m σ nx m σ' nx := by
 unfold storeA at h
 split at h
 ·rename_i vs n hvs hT
  split at h
  ·rename_i hlen
   have hv := hx.cells hvs
   have hvn : v.cells.size = n := by rw [← Array.length_toList, ← hv.1.1]; exact hlen
   cases ha with
   | ref p nm off loc hm =>
    simp only at h
    split at h
    ·rename_i T' cs hs
     have hp := sget_some hs
     unfold spliceA at h
     split at h
     ·rename_i hfit
      simp only [Option.map_some, Option.some.injEq] at h
      subst h
      have hob := hI.obj _ _ _ hp
      simp only [ObjRel, hm] at hob
      obtain ⟨hnl, h0, arr, hw, hrl⟩ := hob
      have hfit' : off + n ≤ arr.size := by rw [← Array.length_toList, ← hrl.1.1]; omega
      have hrun := run_store_cells (C := C) (w := w) (o := loc.off + off) (T := T) (v := v) hw hT hvn (by rw [h0]; omega) hv.2
      rw [h0, Nat.zero_add] at hrun
      obtain ⟨q1, q2⟩ := hI.write (ob' := .cells T' (cs.take off ++ (vs ++ cs.drop (off + vs.length)))) hp trivial hm hnl (w' := w.setRow loc.blk (arr.toList.take off ++ (v.cells.toList ++ arr.toList.drop (off + n))).toArray) (by simp) rfl rfl rfl
       (fun b hb => setRow_other _ _ _ _ hb)
       (by
        simp only [ObjRel, hm]
        refine ⟨hnl, h0, _, setRow_heap w loc.blk arr _ T' (0, 0) hw, ?_⟩
        have e := (hrl.take off).append (hv.append (hrl.drop (off + vs.length)))
        rw [hlen] at e ⊢
        simpa using e)
      exact ⟨_, by rw [h0, Nat.zero_add]; exact hrun, q1, q2⟩
     ·simp at h
    ·cases h
   | eref p nm i off loc hm =>
    simp only at h
    split at h
    ·rename_i esz ety rows hs
     have hp := sget_some hs
     split at h
     ·rename_i row hrow
      unfold spliceA at h
      split at h
      ·rename_i hfit
       simp only [Option.map_some, Option.some.injEq] at h
       subst h
       have hesz : row.length = esz := by
        obtain ⟨_, _, _, _, _, h, _⟩ := (show GvRel kn m w nm esz ety rows from hI.obj _ _ _ hp).row hm hrow
        exact h
       exact store_row hI hp trivial (fun h => h) hm hrow (fun _ h => h) hesz hT hvn hv hlen hfit (fun _ h => h) (by simp; omega) (fun _ _ h => h)
      ·simp at h
     ·cases h
    ·rename_i e ety l hs
     have hp := sget_some hs
     split at h
     ·rename_i hil
      obtain ⟨row', hrow', h⟩ := Option.bind_eq_some_iff.1 h
      obtain ⟨y, hy, rfl⟩ := Option.map_eq_some_iff.1 h
      unfold spliceA at hrow'
      split at hrow'
      ·rename_i hfit
       cases hrow'
       refine store_row hI hp trivial (fun h => h) (esz := e.size) (rows := l.map e.row) (row := e.row (l.getD i e.dflt)) (row'' := e.row y) hm (by simp [hil]) (fun us h => (E.rel_cells e _ us).2 h) (E.cells_len _ _) hT hvn hv hlen hfit (fun us h => absC_sound _ _ _ _ hy us h) (E.row_len _ _) (fun w' _ h => ?_)
       have e1 : (l.set i y).map e.row = (l.map e.row).set i (e.row y) := by rw [List.map_set]
       show GvRel _ _ _ _ _ _ ((l.set i y).map e.row)
       rw [e1]; exact h
      ·cases hrow'
     ·cases h
    ·cases h
   | _ => cases h
  ·cases h
 ·cases h
theorem flat_mk {sz : Nat} (hs0 : 0 < sz) {rows : List (List AV)} (hrow : ∀ (i : Nat) (row : List AV), rows[i]? = some row → row.length = sz) (vals : Nat → Nat → Value)
  (hr : ∀ (i : Nat) (row : List AV) (j : Nat) (x : AV), rows[i]? = some row → row[j]? = some x → Rel kn m x (vals i j))
  (h1 : ∀ (i : Nat) (row : List AV) (j : Nat) (x : AV), rows[i]? = some row → row[j]? = some x → (vals i j).oneCell' = true) :
  Flat kn m sz rows ((List.range (rows.length * sz)).map fun k => vals (k / sz) (k % sz)) := by
 refine ⟨hrow, fun i row j x v hi hj hv => ?_, fun v hv => ?_⟩
 ·have hjl : j < sz := by rw [← hrow i row hi]; exact (List.getElem?_eq_some_iff.1 hj).1
  have hlt := idx_lt (List.getElem?_eq_some_iff.1 hi).1 hjl
  rw [List.getElem?_map, List.getElem?_range hlt] at hv
  simp only [Option.map_some, Option.some.injEq] at hv
  have e1 : (i * sz + j) / sz = i := by rw [Nat.mul_comm, Nat.mul_add_div hs0, Nat.div_eq_of_lt hjl]; omega
  have e2 : (i * sz + j) % sz = j := by rw [Nat.mul_add_mod_self_right, Nat.mod_eq_of_lt hjl]
  rw [e1, e2] at hv
  subst hv
  exact hr i row j x hi hj
 ·rw [List.mem_map] at hv
  obtain ⟨k, hk, rfl⟩ := hv
  have hk' : k < rows.length * sz := List.mem_range.1 hk
  have hq : k / sz < rows.length := (Nat.div_lt_iff_lt_mul hs0).2 hk'
  have hi : rows[k / sz]? = some rows[k / sz] := List.getElem?_eq_getElem hq
  have hj : k % sz < rows[k / sz].length := by rw [hrow _ _ hi]; exact Nat.mod_lt _ hs0
  exact h1 _ _ _ _ hi (List.getElem?_eq_getElem hj)
def Elems (C : Cx) (kn : Kn) (m : Mp) (w : World) (sz : Nat) (ys : List (List AV)) (yv : Value) : Prop :=
 ∃ news : List Value, news.length = ys.length * sz ∧ Flat kn m sz ys news ∧ ∀ w2 : World, w2.heap = w.heap → (Builtin.lenOf yv).run C.P w2 = .ok ys.length w2 ∧ (Builtin.firstCells sz ys.length yv).run C.P w2 = .ok news.toArray w2
theorem cell_heap {w w2 : World} (h : w2.heap = w.heap) (a : Addr) : w2.cell? a = w.cell? a := by unfold World.cell?; rw [h]
theorem run_loadRange {P : Program} {w : World} (b o n : Nat) (news : List Value) (hl : news.length = n) (h : ∀ (k : Nat) (v : Value), news[k]? = some v → w.cell? ⟨b, o + k, none⟩ = some v) (w2 : World) (hw : w2.heap = w.heap) :
  (loadCells ⟨b, o, none⟩ n).run P w2 = .ok news.toArray w2 := by
 have := run_loadCells_list (P := P) w2 ⟨b, o, none⟩ news (fun k v hv => by rw [add_mk, cell_heap hw]; exact h k v hv)
 rwa [hl] at this
theorem elems_nil {sz : Nat} {yv : Value} (h : ∃ a c, yv = .slice a 0 c) : Elems C kn m w sz [] yv := by
 obtain ⟨a, c, rfl⟩ := h
 refine ⟨[], by simp, ⟨fun i row h => by simp at h, fun i row j x v h => by simp at h, fun v h => by simp at h⟩, fun w2 hw => ⟨rfl, ?_⟩⟩
 cases a with
 | none => rfl
 | some ad => simp [Builtin.firstCells, loadCells, loadCellsFrom]
theorem elems_sound (hI : Inv C B kn m σ nx w) {sz : Nat} (hs0 : 0 < sz) {y : AV} {yv : Value} {ys : List (List AV)} (h : elemsA sz σ y = some ys) (hy : Rel kn m y yv) : Elems C kn m w sz ys yv := by
 unfold elemsA at h
 split at h
 ·split at h
  ·rename_i hc
   cases h
   cases hy with
   | vecNil _ a cap => exact elems_nil ⟨a, cap, rfl⟩
   | vecNone _ => exact elems_nil ⟨none, 0, rfl⟩
   | vec _ _ b o cap vals hcp hm hrow hk hr h1 =>
    by_cases hnil : ys = []
    ·subst hnil; exact elems_nil ⟨_, cap, rfl⟩
    ·have he := hc.resolve_right hnil
     simp only [he] at hrow hk
     refine ⟨_, by simp, flat_mk hs0 hrow vals hr h1, fun w2 hw => ⟨rfl, ?_⟩⟩
     refine run_loadRange b o _ _ (by simp) (fun k v hv => ?_) w2 hw
     have hk' : k < ys.length * sz := by
      have := (List.getElem?_eq_some_iff.1 hv).1
      simpa using this
     rw [List.getElem?_map, List.getElem?_range hk'] at hv
     simp only [Option.map_some, Option.some.injEq] at hv
     subst hv
     have hq : k / sz < ys.length := (Nat.div_lt_iff_lt_mul hs0).2 hk'
     have hi : ys[k / sz]? = some ys[k / sz] := List.getElem?_eq_getElem hq
     have hj : k % sz < ys[k / sz].length := by rw [hrow _ _ hi]; exact Nat.mod_lt _ hs0
     have := hI.knok _ _ _ (hk _ _ _ _ hi (List.getElem?_eq_getElem hj))
     rw [show o + k / sz * sz + k % sz = o + k by rw [Nat.add_assoc, Nat.div_add_mod' k _]] at this
     exact this
  ·cases h
 ·rename_i p nm esz off len
  split at h
  ·rename_i esz' ety rows hs
   split at h
   ·rename_i hc
    cases h
    obtain ⟨rfl, rfl, hle⟩ := hc
    cases hy with
    | srefNil _ _ _ loc hm hn => simpa using elems_nil ⟨none, 0, rfl⟩
    | sref _ _ _ _ _ loc hm hn he hl hm' =>
     obtain ⟨hll, he', arr, hw, hsz, hle', hmx, hone, hrl, hrr⟩ := GvRel.get (hI.obj _ _ _ (sget_some hs)) hm hn
     have hlen : ((rows.drop off).take len).length = len := by simp; omega
     have hsub : ∀ (i : Nat) (row : List AV), ((rows.drop off).take len)[i]? = some row → i < len ∧ rows[off + i]? = some row := fun i row hi => by
      rw [List.getElem?_take] at hi
      split at hi
      ·rename_i hil; rw [List.getElem?_drop] at hi; exact ⟨hil, hi⟩
      ·cases hi
     have hin : ∀ i j, i < len → j < esz' → loc.off + (off + i) * esz' + j < arr.size := fun i j hi hj => by
      have h1 := idx_lt (show off + i < loc.cap by omega) hj
      omega
     have hmem : ∀ i j, i < len → j < esz' → w.cell? ⟨loc.blk, loc.off + (off + i) * esz' + j, none⟩ = some (arr.getD (loc.off + (off + i) * esz' + j) undef) := fun i j hi hj => by
      have := hin i j hi hj
      simp [World.cell?, hw, this]
     have fm := flat_mk (kn := kn) (m := m) hs0 (rows := (rows.drop off).take len) (fun i row hi => hrl _ _ (hsub i row hi).2) (fun i j => arr.getD (loc.off + (off + i) * esz' + j) undef)
      (fun i row j x hi hj => by
       obtain ⟨hil, hi'⟩ := hsub i row hi
       have hjl : j < esz' := by rw [← hrl _ _ hi']; exact (List.getElem?_eq_some_iff.1 hj).1
       exact hrr _ _ _ _ _ hi' hj (by simp [hin i j hil hjl]))
      (fun i row j x hi hj => by
       obtain ⟨hil, hi'⟩ := hsub i row hi
       have hjl : j < esz' := by rw [← hrl _ _ hi']; exact (List.getElem?_eq_some_iff.1 hj).1
       exact hone _ (by simp [hin i j hil hjl]))
     refine ⟨_, by simp, fm, fun w2 hw2 => ⟨by rw [hlen]; rfl, ?_⟩⟩
     refine run_loadRange loc.blk (loc.off + off * loc.esz) _ _ (by simp) (fun k v hv => ?_) w2 hw2
     have hk' : k < ((rows.drop off).take len).length * esz' := by
      have := (List.getElem?_eq_some_iff.1 hv).1
      simpa using this
     rw [List.getElem?_map, List.getElem?_range hk'] at hv
     simp only [Option.map_some, Option.some.injEq] at hv
     subst hv
     rw [hlen] at hk'
     have hq : k / esz' < len := (Nat.div_lt_iff_lt_mul hs0).2 hk'
     have := hmem (k / esz') (k % esz') hq (Nat.mod_lt _ hs0)
     rw [← this]
     congr 2
     rw [he, Nat.add_mul]
     have := Nat.div_add_mod' k esz'
     omega
   ·cases h
  ·cases h
 ·cases hy; cases h; exact elems_nil ⟨none, 0, rfl⟩
 ·cases h; cases hy
  ·exact elems_nil ⟨_, 0, rfl⟩
  ·exact elems_nil ⟨none, 0, rfl⟩
 ·cases h
theorem elems_str {l : List UInt8} : Elems C kn m w 1 (strElems l) (.string ⟨l.toArray⟩) := by
 refine ⟨l.map fun b => .int .u8 b.toNat, by simp [strElems], ⟨fun i row hi => ?_, fun i row j x v hi hj hv => ?_, fun v hv => ?_⟩, fun w2 hw => ⟨?_, ?_⟩⟩
 ·rw [strElems, List.getElem?_map] at hi
  cases hb : l[i]? with
  | none => simp [hb] at hi
  | some b => simp [hb] at hi; subst hi; rfl
 ·rw [strElems, List.getElem?_map] at hi
  cases hb : l[i]? with
  | none => simp [hb] at hi
  | some b =>
   simp [hb] at hi
   subst hi
   cases j with
   | succ j => simp at hj
   | zero =>
    simp at hj
    subst hj
    simp [hb] at hv
    subst hv
    exact .int _ _
 ·rw [List.mem_map] at hv
  obtain ⟨b, _, rfl⟩ := hv
  rfl
 ·have hs : (ByteArray.mk l.toArray).size = l.length := by simp [ByteArray.size]
  simp only [Builtin.lenOf, Sem.run_pure, hs, strElems, List.length_map]
 ·simp only [Builtin.firstCells, strElems, List.length_map]
  have : ((ByteArray.mk l.toArray).extract 0 l.length) = ByteArray.mk l.toArray := by
   rw [ByteArray.extract_mk]; simp
  rw [this]
  simp
end
end Go.Ab
