/-
  OPERATIONS THAT WRITE: new objects, stores, make, append; each is sound.
-/
import Derived.Test.YtmompmackgknbaaDoorAb7
import Derived.Laws.AppendOwn
import Derived.Laws.MakeOwn
set_option linter.unusedVariables false
set_option linter.unusedSimpArgs false
namespace Go.Ab
open Go Go.RowKit

/-- Names that were there mean what they meant; objects that are not laid yet are as they were. -/
structure Keep (m : Mp) (σ : Sto) (nx : Nat) (m' : Mp) (σ' : Sto) (nx' : Nat) : Prop where
  le : nx ≤ nx'
  ag : ∀ n, n < nx → m' n = m n
  pend : ∀ (p nm : Nat) (ob : AObj), σ[p]? = some (nm, ob) → m nm = none → σ'[p]? = some (nm, ob)
theorem Keep.refl (m : Mp) (σ : Sto) (nx : Nat) : Keep m σ nx m σ nx := ⟨Nat.le_refl _, fun _ _ => rfl, fun _ _ _ h _ => h⟩
theorem Keep.mple {C : Cx} {B : Base} {kn : Kn} {m m' : Mp} {σ σ' : Sto} {nx nx' : Nat} {w : World} (hI : Inv C B kn m σ nx w) (h : Keep m σ nx m' σ' nx') : MpLe m m' := fun n l e => by
  rcases Nat.lt_or_ge n nx with hlt | hge
  · rw [h.ag n hlt]; exact e
  · rw [hI.dom n hge] at e; cases e
theorem Keep.trans {m m' m'' : Mp} {σ σ' σ'' : Sto} {nx nx' nx'' : Nat} (h : Keep m σ nx m' σ' nx') (k : Keep m' σ' nx' m'' σ'' nx'') (hlt : ∀ (p nm : Nat) (ob : AObj), σ[p]? = some (nm, ob) → nm < nx) : Keep m σ nx m'' σ'' nx'' :=
  ⟨Nat.le_trans h.le k.le, fun n hn => (k.ag n (Nat.lt_of_lt_of_le hn h.le)).trans (h.ag n hn), fun p nm ob a b => k.pend p nm ob (h.pend p nm ob a b) (by rw [h.ag nm (hlt p nm ob a)]; exact b)⟩

section
variable {C : Cx} {B : Base} {kn : Kn} {m : Mp} {σ : Sto} {nx : Nat} {w : World}

def mput (m : Mp) (n : Nat) (l : Loc) : Mp := fun k => if k = n then some l else m k
theorem mput_same (m : Mp) (n : Nat) (l : Loc) : mput m n l n = some l := by simp [mput]
theorem mput_ne (m : Mp) (n : Nat) (l : Loc) (k : Nat) (h : k ≠ n) : mput m n l k = m k := by simp [mput, h]

/-- An object is written where it lies, or laid anew: place p now bears the name nx (or keeps its own). -/
theorem Inv.replace (hI : Inv C B kn m σ nx w) {p nm : Nat} {ob ob' : AObj} {loc loc' : Loc} (hp : σ[p]? = some (nm, ob)) (hl : live ob) (hm : m nm = some loc) {w' : World}
    (hs : w.heap.size ≤ w'.heap.size) (ho : w'.os = w.os) (ht : w'.tape = w.tape) (hout : w'.output = w.output)
    (hb : loc'.blk = loc.blk ∨ w.heap.size ≤ loc'.blk) (hb' : loc'.blk < w'.heap.size) (hh : ∀ b, b < w.heap.size → b ≠ loc'.blk → w'.heap[b]? = w.heap[b]?)
    (hob : ObjRel C.P kn (mput m nx loc') w' nx ob') : Inv C B kn (mput m nx loc') (σ.set p (nx, ob')) (nx + 1) w' ∧ Keep m σ nx (mput m nx loc') (σ.set p (nx, ob')) (nx + 1) := by
  obtain ⟨own1, own2, own3⟩ := hI.own p nm ob loc hp hl hm
  have hpl : p < σ.length := (List.getElem?_eq_some_iff.1 hp).1
  have hkn : ∀ b o v, kn b o = some v → b ≠ loc'.blk := fun b o v e eb => by
    rcases hb with h | h
    · rw [eb, h, own3 o] at e; cases e
    · have := hI.kn_lt e; omega
  have hmle : MpLe m (mput m nx loc') := fun n l e => by
    rw [mput_ne]
    · exact e
    · intro en; subst en; rw [hI.dom n (Nat.le_refl _)] at e; cases e
  have other : ∀ (p' nm' : Nat) (ob'' : AObj) (l : Loc), σ[p']? = some (nm', ob'') → p' ≠ p → live ob'' → m nm' = some l → l.blk ≠ loc'.blk := fun p' nm' ob'' l e hne hl'' e' => by
    rcases hb with h | h
    · rw [h]; exact hI.dist p' nm' ob'' l p nm ob loc e hp hl'' hl e' hm hne
    · have := (hI.own p' nm' ob'' l e hl'' e').1; omega
  have hset : ∀ (p' nm' : Nat) (ob'' : AObj), (σ.set p (nx, ob'))[p']? = some (nm', ob'') → (p' = p ∧ nm' = nx ∧ ob'' = ob') ∨ (p' ≠ p ∧ σ[p']? = some (nm', ob'')) := fun p' nm' ob'' e => by
    rw [List.getElem?_set] at e
    split at e
    · rename_i hpp
      cases e; exact .inl ⟨hpp.symm, rfl, rfl⟩
    · rename_i hpp; exact .inr ⟨fun h => hpp h.symm, e⟩
  refine ⟨⟨fun b o v e => ?_, Nat.le_trans hI.size hs, ho.trans hI.os, ht.trans hI.tape, hout.trans hI.output, fun b hbb hob' => ?_, fun p' nm' ob'' e => ?_, fun p' nm' ob'' l e hl' hm' => ?_, fun p1 n1 o1 l1 p2 n2 o2 l2 e1 e2 v1 v2 m1 m2 hne => ?_, fun n hn => ?_, fun p' nm' ob'' e => ?_, fun p1 p2 n1 o1 o2 e1 e2 => ?_, fun g => (hI.glob g).mono (KnLe.refl _) hmle⟩,
    ⟨Nat.le_succ _, fun n hn => mput_ne _ _ _ _ (by omega), fun p' nm' ob'' e e' => ?_⟩⟩
  · have h1 := hI.knok b o v e
    have := hh b (hI.kn_lt e) (hkn b o v e)
    unfold World.cell? at h1 ⊢
    rw [this]; exact h1
  · have h1 := hI.old b hbb hob'
    refine ⟨?_, h1.2⟩
    rw [← h1.1]
    refine hh b (Nat.lt_of_lt_of_le hbb hI.size) (fun eb => ?_)
    rcases hb with h | h
    · rw [h] at eb
      subst eb
      rcases own2 with h2 | h2
      · omega
      · exact hob' h2
    · have := hI.size; omega
  · rcases hset p' nm' ob'' e with ⟨rfl, rfl, rfl⟩ | ⟨hne, e'⟩
    · exact hob
    · have hlt := hI.lt p' nm' ob'' e'
      have hm'' : mput m nx loc' nm' = m nm' := mput_ne _ _ _ _ (by omega)
      have h0 := hI.obj p' nm' ob'' e'
      have h1 : ObjRel C.P kn m w' nm' ob'' := h0.mono (KnLe.refl _) (fun l hlv hml => hh _ (hI.own p' nm' ob'' l e' hlv hml).1 (other p' nm' ob'' l e' hne hlv hml))
      cases ob'' with
      | none => trivial
      | cells T cs =>
        simp only [ObjRel, hm''] at h1 ⊢
        cases hn : m nm' with
        | none => simpa [hn] using h1
        | some l =>
          simp only [hn] at h1 ⊢
          obtain ⟨a, arr, ty, b, c⟩ := h1
          exact ⟨a, arr, ty, b, c.mono (KnLe.refl _) hmle⟩
      | gvec esz ety rows =>
        obtain ⟨l, a, b, arr, c, d, e1, f, f', g, h⟩ := h1
        exact ⟨l, hm''.trans a, b, arr, c, d, e1, f, f', g, fun i row j x v p q r => (h i row j x v p q r).mono (KnLe.refl _) hmle⟩
      | siter l pos =>
        obtain ⟨l', a, b⟩ := h1
        exact ⟨l', hm''.trans a, b⟩
  · rcases hset p' nm' ob'' e with ⟨rfl, rfl, rfl⟩ | ⟨hne, e'⟩
    · rw [mput_same] at hm'
      cases hm'
      refine ⟨hb', ?_, fun o => ?_⟩
      · rcases hb with h | h
        · rw [h]; exact own2
        · exact .inl (Nat.le_trans hI.size h)
      · rcases hb with h | h
        · rw [h]; exact own3 o
        · cases hk : kn loc'.blk o with
          | none => rfl
          | some v => have := hI.kn_lt hk; omega
    · rw [mput_ne _ _ _ _ (by have := hI.lt p' nm' ob'' e'; omega)] at hm'
      obtain ⟨a, b, c⟩ := hI.own p' nm' ob'' l e' hl' hm'
      exact ⟨Nat.lt_of_lt_of_le a hs, b, c⟩
  · rcases hset p1 n1 o1 e1 with ⟨rfl, rfl, rfl⟩ | ⟨h1, e1'⟩
    · rcases hset p2 n2 o2 e2 with ⟨rfl, rfl, rfl⟩ | ⟨h2, e2'⟩
      · exact absurd rfl hne
      · rw [mput_same] at m1; cases m1
        rw [mput_ne _ _ _ _ (by have := hI.lt p2 n2 o2 e2'; omega)] at m2
        exact fun h => other p2 n2 o2 l2 e2' h2 v2 m2 h.symm
    · rw [mput_ne _ _ _ _ (by have := hI.lt p1 n1 o1 e1'; omega)] at m1
      rcases hset p2 n2 o2 e2 with ⟨rfl, rfl, rfl⟩ | ⟨h2, e2'⟩
      · rw [mput_same] at m2; cases m2
        exact other p1 n1 o1 l1 e1' h1 v1 m1
      · rw [mput_ne _ _ _ _ (by have := hI.lt p2 n2 o2 e2'; omega)] at m2
        exact hI.dist p1 n1 o1 l1 p2 n2 o2 l2 e1' e2' v1 v2 m1 m2 hne
  · rw [mput_ne _ _ _ _ (by omega)]; exact hI.dom n (by omega)
  · rcases hset p' nm' ob'' e with ⟨_, rfl, _⟩ | ⟨hne, e'⟩
    · omega
    · have := hI.lt p' nm' ob'' e'; omega
  · rcases hset p1 n1 o1 e1 with ⟨rfl, rfl, _⟩ | ⟨h1, e1'⟩
    · rcases hset p2 _ o2 e2 with ⟨rfl, _, _⟩ | ⟨h2, e2'⟩
      · rfl
      · have := hI.lt _ _ _ e2'; omega
    · rcases hset p2 n1 o2 e2 with ⟨rfl, rfl, _⟩ | ⟨h2, e2'⟩
      · have := hI.lt _ _ _ e1'; omega
      · exact hI.uniq p1 p2 n1 o1 o2 e1' e2'
  · rw [List.getElem?_set]
    split
    · rename_i hpp; subst hpp; rw [hp] at e; cases e; rw [hm] at e'; cases e'
    · exact e

/-- The same, the name kept. -/
theorem Inv.write (hI : Inv C B kn m σ nx w) {p nm : Nat} {ob ob' : AObj} {loc : Loc} (hp : σ[p]? = some (nm, ob)) (hl : live ob) (hm : m nm = some loc) {w' : World}
    (hs : w'.heap.size = w.heap.size) (ho : w'.os = w.os) (ht : w'.tape = w.tape) (hout : w'.output = w.output) (hh : ∀ b, b ≠ loc.blk → w'.heap[b]? = w.heap[b]?)
    (hob : ObjRel C.P kn m w' nm ob') : Inv C B kn m (σ.set p (nm, ob')) nx w' ∧ Keep m σ nx m (σ.set p (nm, ob')) nx := by
  obtain ⟨own1, own2, own3⟩ := hI.own p nm ob loc hp hl hm
  have hpl : p < σ.length := (List.getElem?_eq_some_iff.1 hp).1
  have hset : ∀ (p' nm' : Nat) (ob'' : AObj), (σ.set p (nm, ob'))[p']? = some (nm', ob'') → (p' = p ∧ nm' = nm ∧ ob'' = ob') ∨ (p' ≠ p ∧ σ[p']? = some (nm', ob'')) := fun p' nm' ob'' e => by
    rw [List.getElem?_set] at e
    split at e
    · rename_i hpp
      cases e; exact .inl ⟨hpp.symm, rfl, rfl⟩
    · rename_i hpp; exact .inr ⟨fun h => hpp h.symm, e⟩
  refine ⟨⟨fun b o v e => ?_, by rw [hs]; exact hI.size, ho.trans hI.os, ht.trans hI.tape, hout.trans hI.output, fun b hbb hob' => ?_, fun p' nm' ob'' e => ?_, fun p' nm' ob'' l e hl' hm' => ?_, fun p1 n1 o1 l1 p2 n2 o2 l2 e1 e2 v1 v2 m1 m2 hne => ?_, hI.dom, fun p' nm' ob'' e => ?_, fun p1 p2 n1 o1 o2 e1 e2 => ?_, hI.glob⟩,
    ⟨Nat.le_refl _, fun n hn => rfl, fun p' nm' ob'' e e' => ?_⟩⟩
  · have h1 := hI.knok b o v e
    have := hh b (fun eb => by rw [eb, own3 o] at e; cases e)
    unfold World.cell? at h1 ⊢
    rw [this]; exact h1
  · have h1 := hI.old b hbb hob'
    refine ⟨?_, h1.2⟩
    rw [← h1.1]
    refine hh b (fun eb => ?_)
    subst eb
    rcases own2 with h2 | h2
    · omega
    · exact hob' h2
  · rcases hset p' nm' ob'' e with ⟨rfl, rfl, rfl⟩ | ⟨hne, e'⟩
    · exact hob
    · exact (hI.obj p' nm' ob'' e').mono (KnLe.refl _) (fun l hlv hml => hh _ (hI.dist p' nm' ob'' l p nm ob loc e' hp hlv hl hml hm hne))
  · rcases hset p' nm' ob'' e with ⟨rfl, rfl, rfl⟩ | ⟨hne, e'⟩
    · rw [hm] at hm'; cases hm'
      exact ⟨by rw [hs]; exact own1, own2, own3⟩
    · obtain ⟨a, b, c⟩ := hI.own p' nm' ob'' l e' hl' hm'
      exact ⟨by rw [hs]; exact a, b, c⟩
  · have get : ∀ (p' nm' : Nat) (ob'' : AObj), (σ.set p (nm, ob'))[p']? = some (nm', ob'') → ∀ l, live ob'' → m nm' = some l → ∃ ob3, σ[p']? = some (nm', ob3) ∧ live ob3 := fun p' nm' ob'' e l hl' hm' => by
      rcases hset p' nm' ob'' e with ⟨rfl, rfl, rfl⟩ | ⟨hne, e'⟩
      · exact ⟨ob, hp, hl⟩
      · exact ⟨ob'', e', hl'⟩
    obtain ⟨a1, b1, c1⟩ := get p1 n1 o1 e1 l1 v1 m1
    obtain ⟨a2, b2, c2⟩ := get p2 n2 o2 e2 l2 v2 m2
    exact hI.dist p1 n1 a1 l1 p2 n2 a2 l2 b1 b2 c1 c2 m1 m2 hne
  · rcases hset p' nm' ob'' e with ⟨rfl, rfl, rfl⟩ | ⟨hne, e'⟩
    · exact hI.lt _ _ _ hp
    · exact hI.lt _ _ _ e'
  · rcases hset p1 n1 o1 e1 with ⟨rfl, rfl, _⟩ | ⟨h1, e1'⟩
    · rcases hset p2 _ o2 e2 with ⟨rfl, _, _⟩ | ⟨h2, e2'⟩
      · rfl
      · exact hI.uniq _ _ _ _ _ hp e2'
    · rcases hset p2 n1 o2 e2 with ⟨rfl, rfl, _⟩ | ⟨h2, e2'⟩
      · exact hI.uniq _ _ _ _ _ e1' hp
      · exact hI.uniq p1 p2 n1 o1 o2 e1' e2'
  · rw [List.getElem?_set]
    split
    · rename_i hpp; subst hpp; rw [hp] at e; cases e; rw [hm] at e'; cases e'
    · exact e

/-- A new object. -/
theorem Inv.new (hI : Inv C B kn m σ nx w) {ob' : AObj} {loc' : Loc} {w' : World}
    (hs : w.heap.size ≤ w'.heap.size) (ho : w'.os = w.os) (ht : w'.tape = w.tape) (hout : w'.output = w.output)
    (hb : w.heap.size ≤ loc'.blk) (hb' : loc'.blk < w'.heap.size) (hh : ∀ b, b < w.heap.size → w'.heap[b]? = w.heap[b]?)
    (hob : ObjRel C.P kn (mput m nx loc') w' nx ob') : Inv C B kn (mput m nx loc') (σ ++ [(nx, ob')]) (nx + 1) w' ∧ Keep m σ nx (mput m nx loc') (σ ++ [(nx, ob')]) (nx + 1) := by
  have hmle : MpLe m (mput m nx loc') := fun n l e => by
    rw [mput_ne]
    · exact e
    · intro en; subst en; rw [hI.dom n (Nat.le_refl _)] at e; cases e
  have hget : ∀ (p' nm' : Nat) (ob'' : AObj), (σ ++ [(nx, ob')])[p']? = some (nm', ob'') → (p' = σ.length ∧ nm' = nx ∧ ob'' = ob') ∨ (p' ≠ σ.length ∧ σ[p']? = some (nm', ob'')) := fun p' nm' ob'' e => by
    rcases Nat.lt_trichotomy p' σ.length with h | h | h
    · rw [List.getElem?_append_left h] at e; exact .inr ⟨by omega, e⟩
    · subst h; rw [List.getElem?_append_right (Nat.le_refl _)] at e; simp at e; exact .inl ⟨rfl, e.1.symm, e.2.symm⟩
    · rw [List.getElem?_eq_none (by simp; omega)] at e; cases e
  obtain ⟨_, hI0⟩ := hI.grow (kn' := kn) hs ho ht hout hh (fun _ _ => rfl) (fun b o v hb e => absurd (hI.kn_lt e) (by omega))
  refine ⟨⟨hI0.knok, hI0.size, hI0.os, hI0.tape, hI0.output, hI0.old, fun p' nm' ob'' e => ?_, fun p' nm' ob'' l e hl' hm' => ?_, fun p1 n1 o1 l1 p2 n2 o2 l2 e1 e2 v1 v2 m1 m2 hne => ?_, fun n hn => ?_, fun p' nm' ob'' e => ?_, fun p1 p2 n1 o1 o2 e1 e2 => ?_, fun g => (hI.glob g).mono (KnLe.refl _) hmle⟩,
    ⟨Nat.le_succ _, fun n hn => mput_ne _ _ _ _ (by omega), fun p' nm' ob'' e e' => ?_⟩⟩
  · rcases hget p' nm' ob'' e with ⟨rfl, rfl, rfl⟩ | ⟨hne, e'⟩
    · exact hob
    · have hlt := hI.lt p' nm' ob'' e'
      have hm'' : mput m nx loc' nm' = m nm' := mput_ne _ _ _ _ (by omega)
      have h1 := hI0.obj p' nm' ob'' e'
      cases ob'' with
      | none => trivial
      | cells T cs =>
        simp only [ObjRel, hm''] at h1 ⊢
        cases hn : m nm' with
        | none => simpa [hn] using h1
        | some l =>
          simp only [hn] at h1 ⊢
          obtain ⟨a, arr, ty, b, c⟩ := h1
          exact ⟨a, arr, ty, b, c.mono (KnLe.refl _) hmle⟩
      | gvec esz ety rows =>
        obtain ⟨l, a, b, arr, c, d, e1, f, f', g, h⟩ := h1
        exact ⟨l, hm''.trans a, b, arr, c, d, e1, f, f', g, fun i row j x v p q r => (h i row j x v p q r).mono (KnLe.refl _) hmle⟩
      | siter l pos =>
        obtain ⟨l', a, b⟩ := h1
        exact ⟨l', hm''.trans a, b⟩
  · rcases hget p' nm' ob'' e with ⟨rfl, rfl, rfl⟩ | ⟨hne, e'⟩
    · rw [mput_same] at hm'
      cases hm'
      refine ⟨hb', .inl (Nat.le_trans hI.size hb), fun o => ?_⟩
      cases hk : kn loc'.blk o with
      | none => rfl
      | some v => have := hI.kn_lt hk; omega
    · rw [mput_ne _ _ _ _ (by have := hI.lt p' nm' ob'' e'; omega)] at hm'
      exact hI0.own p' nm' ob'' l e' hl' hm'
  · rcases hget p1 n1 o1 e1 with ⟨rfl, rfl, rfl⟩ | ⟨h1, e1'⟩
    · rcases hget p2 n2 o2 e2 with ⟨rfl, rfl, rfl⟩ | ⟨h2, e2'⟩
      · exact absurd rfl hne
      · rw [mput_same] at m1; cases m1
        rw [mput_ne _ _ _ _ (by have := hI.lt p2 n2 o2 e2'; omega)] at m2
        have := (hI.own p2 n2 o2 l2 e2' v2 m2).1
        omega
    · rw [mput_ne _ _ _ _ (by have := hI.lt p1 n1 o1 e1'; omega)] at m1
      rcases hget p2 n2 o2 e2 with ⟨rfl, rfl, rfl⟩ | ⟨h2, e2'⟩
      · rw [mput_same] at m2; cases m2
        have := (hI.own p1 n1 o1 l1 e1' v1 m1).1
        omega
      · rw [mput_ne _ _ _ _ (by have := hI.lt p2 n2 o2 e2'; omega)] at m2
        exact hI.dist p1 n1 o1 l1 p2 n2 o2 l2 e1' e2' v1 v2 m1 m2 hne
  · rw [mput_ne _ _ _ _ (by omega)]; exact hI.dom n (by omega)
  · rcases hget p' nm' ob'' e with ⟨_, rfl, _⟩ | ⟨hne, e'⟩
    · omega
    · have := hI.lt p' nm' ob'' e'; omega
  · rcases hget p1 n1 o1 e1 with ⟨rfl, rfl, _⟩ | ⟨h1, e1'⟩
    · rcases hget p2 _ o2 e2 with ⟨rfl, _, _⟩ | ⟨h2, e2'⟩
      · rfl
      · have := hI.lt _ _ _ e2'; omega
    · rcases hget p2 n1 o2 e2 with ⟨rfl, rfl, _⟩ | ⟨h2, e2'⟩
      · have := hI.lt _ _ _ e1'; omega
      · exact hI.uniq p1 p2 n1 o1 o2 e1' e2'
  · rw [List.getElem?_append_left (List.getElem?_eq_some_iff.1 e).1]; exact e
end
end Go.Ab
