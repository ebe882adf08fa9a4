/-
  THE ORDER OF FORMS is one; parts of valid forms are valid. Plain laws.
-/
import Derived.Test.YtmompmackgknbaaDoorF9
set_option linter.unusedVariables false
set_option linter.unusedSimpArgs false
namespace Go.Ab
open Go
--BEGIN
/-- How three comparisons hang together: of a and b, of b and c, of a and c. -/
def Tri (x y z : Int) : Prop := (x ≤ 0 → y ≤ 0 → z ≤ 0) ∧ (x < 0 → y ≤ 0 → z < 0) ∧ (x ≤ 0 → y < 0 → z < 0) ∧ (x = 0 → z = y) ∧ (y = 0 → z = x)
theorem Tri.lex {x y z x' y' z' : Int} (h : Tri x y z) (h' : Tri x' y' z') : Tri (if ¬ x = 0 then x else x') (if ¬ y = 0 then y else y') (if ¬ z = 0 then z else z') := by
  unfold Tri at *
  split <;> split <;> split <;> omega
theorem cmpI_neg (a b : Int) : cmpI b a = - cmpI a b := by unfold cmpI; split <;> split <;> (try split) <;> omega
theorem cmpI_tri (a b c : Int) : Tri (cmpI a b) (cmpI b c) (cmpI a c) := by
  unfold cmpI Tri; split <;> split <;> split <;> (try split) <;> (try split) <;> (try split) <;> omega
theorem bytesLess_irrefl : ∀ a : List UInt8, Op.bytesLess a a = false
  | [] => rfl
  | a :: x => by simp [Op.bytesLess, bytesLess_irrefl x]
theorem u8lt_nat (a b : UInt8) : (a < b) = (a.toNat < b.toNat) := rfl
theorem u8eq_nat (a b : UInt8) : (a = b) ↔ (a.toNat = b.toNat) := ⟨fun h => by rw [h], fun h => UInt8.toNat_inj.1 h⟩
theorem cmpS_nil (b : List UInt8) : cmpS [] b = if b = [] then 0 else -1 := by
  cases b <;> simp [cmpS, Op.bytesLess]
theorem cmpS_nil' (b : List UInt8) : cmpS b [] = if b = [] then 0 else 1 := by
  cases b <;> simp [cmpS, Op.bytesLess]
theorem cmpS_cons (a b : UInt8) (x y : List UInt8) : cmpS (a :: x) (b :: y) = if ¬ cmpI a.toNat b.toNat = 0 then cmpI a.toNat b.toNat else cmpS x y := by
  unfold cmpS cmpI
  simp only [Op.bytesLess, Bool.or_eq_true, Bool.and_eq_true, decide_eq_true_eq, beq_iff_eq, List.cons.injEq, u8lt_nat, u8eq_nat]
  by_cases h1 : a.toNat < b.toNat
  · simp [h1]
  · by_cases h2 : b.toNat < a.toNat
    · have : ¬ a.toNat = b.toNat := by omega
      simp [h1, h2, this]
    · have e : a = b := UInt8.toNat_inj.1 (by omega)
      subst e
      simp
theorem cmpS_neg : ∀ a b : List UInt8, cmpS b a = - cmpS a b
  | [], b => by rw [cmpS_nil, cmpS_nil']; split <;> rfl
  | a :: x, [] => by rw [cmpS_nil, cmpS_nil']; rfl
  | a :: x, b :: y => by rw [cmpS_cons, cmpS_cons, cmpS_neg x y, cmpI_neg]; split <;> split <;> omega
theorem cmpS_tri : ∀ a b c : List UInt8, Tri (cmpS a b) (cmpS b c) (cmpS a c)
  | [], b, c => by
    rw [cmpS_nil, cmpS_nil]
    cases b with
    | nil => simp only [if_true, cmpS_nil]; unfold Tri; split <;> omega
    | cons b y => cases c with
      | nil => rw [cmpS_nil']; simp [Tri]
      | cons c z => simp [Tri]
  | a :: x, [], c => by
    rw [cmpS_nil, cmpS_nil']
    cases c <;> simp [Tri, cmpS_nil']
  | a :: x, b :: y, [] => by
    rw [cmpS_nil', cmpS_nil']; simp [Tri]
  | a :: x, b :: y, c :: z => by
    rw [cmpS_cons, cmpS_cons, cmpS_cons]
    exact (cmpI_tri _ _ _).lex (cmpS_tri x y z)

theorem cmpF_mk (k k' : Int) (n n' : Int) (t t' : List UInt8) (nl nl' : Bool) (l l' : List Fm) : cmpF (.mk k n t nl l) (.mk k' n' t' nl' l') = if k = k' then (if k = 0 then cmpI n n' else if k = 1 ∨ k = 2 then cmpS t t' else if k = 3 then cmpL l l' else 0) else cmpI k k' := by
  by_cases h : k = k'
  · subst h; simp [cmpF, Fm.k, Fm.n, Fm.t, Fm.l]
  · simp [cmpF, Fm.k, h]
theorem cmpL_neg_of : ∀ l m : List Fm, (∀ f ∈ l, ∀ g, cmpF g f = - cmpF f g) → cmpL m l = - cmpL l m
  | [], m, _ => by cases m <;> simp [cmpL]
  | f :: r, [], _ => by simp [cmpL]
  | f :: r, g :: m, h => by
    simp only [cmpL]
    rw [h f (by simp) g, cmpL_neg_of r m (fun f hf => h f (by simp [hf]))]
    split <;> split <;> omega
theorem cmpF_neg : ∀ f g : Fm, cmpF g f = - cmpF f g := Fm.ind fun k n t nl l ih g => by
  obtain ⟨k', n', t', nl', l'⟩ := g
  rw [cmpF_mk, cmpF_mk]
  by_cases h : k = k'
  · subst h
    simp only [if_true]
    split
    · exact cmpI_neg _ _
    · split
      · exact cmpS_neg _ _
      · split
        · exact cmpL_neg_of l l' ih
        · rfl
  · rw [if_neg (show ¬ k' = k from fun e => h e.symm), if_neg h]; exact cmpI_neg _ _
theorem cmpL_tri_of : ∀ l m o : List Fm, (∀ f ∈ l, ∀ g h, Tri (cmpF f g) (cmpF g h) (cmpF f h)) → Tri (cmpL l m) (cmpL m o) (cmpL l o)
  | [], m, o, _ => by
    cases m with
    | nil => cases o <;> simp [cmpL, Tri]
    | cons g m => cases o with
      | nil => simp [cmpL, Tri]
      | cons h o => simp [cmpL, Tri]
  | f :: r, [], o, _ => by cases o <;> simp [cmpL, Tri]
  | f :: r, g :: m, [], _ => by simp [cmpL, Tri]
  | f :: r, g :: m, h :: o, ih => by
    simp only [cmpL]
    exact (ih f (by simp) g h).lex (cmpL_tri_of r m o (fun f hf => ih f (by simp [hf])))
theorem cmpI_ne {a b : Int} (h : ¬ a = b) : ¬ cmpI a b = 0 := by unfold cmpI; split <;> (try split) <;> omega
theorem cmpI_self (a : Int) : cmpI a a = 0 := by unfold cmpI; simp
theorem cmpF_tri : ∀ f g h : Fm, Tri (cmpF f g) (cmpF g h) (cmpF f h) := Fm.ind fun k n t nl l ih g h => by
  obtain ⟨k', n', t', nl', l'⟩ := g
  obtain ⟨k'', n'', t'', nl'', l''⟩ := h
  have e : ∀ (k k' : Int) (n n' : Int) (t t' : List UInt8) (nl nl' : Bool) (l l' : List Fm), cmpF (.mk k n t nl l) (.mk k' n' t' nl' l') = if ¬ cmpI k k' = 0 then cmpI k k' else if k = 0 then cmpI n n' else if k = 1 ∨ k = 2 then cmpS t t' else if k = 3 then cmpL l l' else 0 := by
    intro k k' n n' t t' nl nl' l l'
    rw [cmpF_mk]
    by_cases h : k = k'
    · subst h; simp [cmpI_self]
    · rw [if_neg h, if_pos (cmpI_ne h)]
  by_cases h1 : k = k'
  · by_cases h2 : k' = k''
    · subst h1; subst h2
      rw [e, e, e]
      refine (cmpI_tri _ _ _).lex ?_
      split
      · exact cmpI_tri _ _ _
      · split
        · exact cmpS_tri _ _ _
        · split
          · exact cmpL_tri_of l l' l'' ih
          · simp [Tri]
    · subst h1
      rw [e, e k k'', e k k'']
      have := cmpI_ne h2
      rw [if_pos this, if_pos this, cmpI_self, if_neg (by simp)]
      unfold Tri
      omega
  · have t := cmpI_tri k k' k''
    have := cmpI_ne h1
    by_cases h2 : k' = k''
    · subst h2
      rw [e, e k' k', e k k', if_pos this, cmpI_self, if_neg (by simp)]
      unfold Tri
      omega
    · have h3 := cmpI_ne h2
      rw [e, e k' k'', e k k'', if_pos this, if_pos h3]
      unfold Tri at *
      split
      · omega
      · rename_i h4
        have : cmpI k k'' = 0 := Classical.not_not.1 h4
        omega
theorem cmpL_self_of : ∀ l : List Fm, (∀ f ∈ l, cmpF f f = 0) → cmpL l l = 0
  | [], _ => by simp [cmpL]
  | f :: r, h => by simp only [cmpL, h f (by simp)]; simpa using cmpL_self_of r (fun f hf => h f (by simp [hf]))
theorem cmpS_self (a : List UInt8) : cmpS a a = 0 := by simp [cmpS, bytesLess_irrefl]
theorem cmpF_self : ∀ f : Fm, cmpF f f = 0 := Fm.ind fun k n t nl l ih => by
  rw [cmpF_mk, if_pos rfl]
  split
  · exact cmpI_self _
  · split
    · exact cmpS_self _
    · split
      · exact cmpL_self_of l ih
      · rfl
theorem cmpF_trans {f g h : Fm} (h1 : cmpF f g < 0) (h2 : cmpF g h < 0) : cmpF f h < 0 := (cmpF_tri f g h).2.1 h1 (Int.le_of_lt h2)
theorem cmpF_eq_l {f g : Fm} (h : cmpF f g = 0) (o : Fm) : cmpF f o = cmpF g o := (cmpF_tri f g o).2.2.2.1 h
theorem cmpF_eq_r {f g : Fm} (h : cmpF f g = 0) (o : Fm) : cmpF o f = cmpF o g := by
  rw [cmpF_neg f o, cmpF_neg g o, cmpF_eq_l h]
theorem cmpF_lt_gt {f g : Fm} : 0 < cmpF f g ↔ cmpF g f < 0 := by rw [cmpF_neg f g]; omega

/-! ### Parts of valid forms -/
theorem validS_mono_of : ∀ (l : List Fm), (∀ f ∈ l, ∀ p d p' d' : Int, p ≤ p' → 0 ≤ d → d ≤ d' → (validS f p d).1 = true → (validS f p' d').1 = true ∧ (validS f p' d').2 - p' = (validS f p d).2 - p) →
    ∀ p d p' d' : Int, p ≤ p' → 0 ≤ d → d ≤ d' → (validLS l p d).1 = true → (validLS l p' d').1 = true ∧ (validLS l p' d').2 - p' = (validLS l p d).2 - p
  | [], _, p, d, p', d', h1, h2, h3, h => by simp only [validLS]; exact ⟨trivial, by omega⟩
  | f :: r, ih, p, d, p', d', h1, h2, h3, h => by
    simp only [validLS] at h ⊢
    split at h
    · rename_i hf
      obtain ⟨a, b⟩ := ih f (by simp) p d p' d' h1 h2 h3 hf
      rw [if_pos hf, if_pos a]
      obtain ⟨q1, q2⟩ := validS_mono_of r (fun g hg => ih g (by simp [hg])) _ d _ d' (show (validS f p d).2 ≤ (validS f p' d').2 by omega) h2 h3 h
      exact ⟨q1, by omega⟩
    · cases h
theorem validS_mono : ∀ f : Fm, ∀ p d p' d' : Int, p ≤ p' → 0 ≤ d → d ≤ d' → (validS f p d).1 = true → (validS f p' d').1 = true ∧ (validS f p' d').2 - p' = (validS f p d).2 - p := Fm.ind fun k n t nl l ih p d p' d' h1 h2 h3 h => by
  simp only [validS] at h ⊢
  split at h
  · cases h
  · rename_i hc
    have hc' : ¬ (p' - 1 < 0 ∨ d' = 0 ∨ leafS k n t l = false) := by
      rintro (h | h | h)
      · exact hc (.inl (by omega))
      · exact hc (.inr (.inl (by omega)))
      · exact hc (.inr (.inr h))
    rw [if_neg hc, if_neg hc']
    have hd : d ≠ 0 := fun e => hc (.inr (.inl e))
    obtain ⟨q1, q2⟩ := validS_mono_of l ih (p - 1) (d - 1) (p' - 1) (d' - 1) (by omega) (by omega) (by omega) h
    exact ⟨q1, by omega⟩
theorem validLS_mem : ∀ {l : List Fm} {p d : Int}, (validLS l p d).1 = true → ∀ f ∈ l, ∃ p', (validS f p' d).1 = true
  | [], _, _, _, f, hf => by cases hf
  | g :: r, p, d, h, f, hf => by
    simp only [validLS] at h
    split at h
    · rename_i hg
      rcases List.mem_cons.1 hf with rfl | hf
      · exact ⟨p, hg⟩
      · exact validLS_mem h f hf
    · cases h
theorem validS_le_of : ∀ (l : List Fm), (∀ f ∈ l, ∀ p d : Int, (validS f p d).2 ≤ p) → ∀ p d : Int, (validLS l p d).2 ≤ p
  | [], _, p, d => by simp only [validLS]; omega
  | f :: r, ih, p, d => by
    simp only [validLS]
    have h1 := ih f (by simp) p d
    split
    · have := validS_le_of r (fun g hg => ih g (by simp [hg])) (validS f p d).2 d; omega
    · exact h1
theorem validS_le : ∀ f : Fm, ∀ p d : Int, (validS f p d).2 ≤ p := Fm.ind fun k n t nl l ih p d => by
  simp only [validS]
  split
  · simp only; omega
  · have := validS_le_of l ih (p - 1) (d - 1); omega
theorem validLS_mem' : ∀ {l : List Fm} {p d : Int}, (validLS l p d).1 = true → ∀ f ∈ l, ∃ p', p' ≤ p ∧ (validS f p' d).1 = true
  | [], _, _, _, f, hf => by cases hf
  | g :: r, p, d, h, f, hf => by
    simp only [validLS] at h
    split at h
    · rename_i hg
      rcases List.mem_cons.1 hf with rfl | hf
      · exact ⟨p, Int.le_refl _, hg⟩
      · obtain ⟨p', h1, h2⟩ := validLS_mem' h f hf
        exact ⟨p', Int.le_trans h1 (validS_le _ _ _), h2⟩
    · cases h
/-- The parts of a valid form are. -/
theorem validF_part {k n : Int} {t : List UInt8} {nl : Bool} {l : List Fm} (h : validF (.mk k n t nl l) = true) : ∀ f ∈ l, validF f = true := by
  intro f hf
  unfold validF at h ⊢
  simp only [validS] at h
  split at h
  · cases h
  · obtain ⟨p', h1, h2⟩ := validLS_mem' h f hf
    exact (validS_mono f p' (100 - 1) 20000 100 (by omega) (by omega) (by omega) h2).1
theorem validF_leaf {k n : Int} {t : List UInt8} {nl : Bool} {l : List Fm} (h : validF (.mk k n t nl l) = true) : leafS k n t l = true := by
  unfold validF at h
  simp only [validS] at h
  split at h
  · cases h
  · rename_i hc
    cases hl : leafS k n t l
    · exact absurd (.inr (.inr hl)) hc
    · rfl
end Go.Ab
