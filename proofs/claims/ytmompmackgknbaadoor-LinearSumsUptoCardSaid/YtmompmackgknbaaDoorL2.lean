/-
  SUMS: the sum of the term of a sum is the sum. Plain laws.
-/
import Derived.Test.YtmompmackgknbaaDoorF10
set_option linter.unusedVariables false
set_option linter.unusedSimpArgs false
namespace Go.Ab
open Go
--BEGIN
/-- How three comparisons hang together: of a and b, of b and c, of a and c. -/
def Tri (x y z : Int) : Prop := (x ≤ 0 → y ≤ 0 → z ≤ 0) ∧ (x < 0 → y ≤ 0 → z < 0) ∧ (x ≤ 0 → y < 0 → z < 0) ∧ (x = 0 → z = y) ∧ (y = 0 → z = x)
theorem Tri.lex {x y z x' y' z' : Int} (h : Tri x y z) (h' : Tri x' y' z') : Tri (if ¬ x = 0 then x else x') (if ¬ y = 0 then y else y') (if ¬ z = 0 then z else z') := by
  unfold Tri at *
  split <;> split <;> split <;> omega
theorem cmpI_neg (a b : Int) : cmpI b a = - cmpI a b := by unfold cmpI; split <;> split <;> (try split) <;> omega
theorem cmpI_tri (a b c : Int) : Tri (cmpI a b) (cmpI b c) (cmpI a c) := by
  unfold cmpI Tri; split <;> split <;> split <;> (try split) <;> (try split) <;> (try split) <;> omega
theorem bytesLess_irrefl : ∀ a : List UInt8, Op.bytesLess a a = false
  | [] => rfl
  | a :: x => by simp [Op.bytesLess, bytesLess_irrefl x]
theorem u8lt_nat (a b : UInt8) : (a < b) = (a.toNat < b.toNat) := rfl
theorem u8eq_nat (a b : UInt8) : (a = b) ↔ (a.toNat = b.toNat) := ⟨fun h => by rw [h], fun h => UInt8.toNat_inj.1 h⟩
theorem cmpS_nil (b : List UInt8) : cmpS [] b = if b = [] then 0 else -1 := by
  cases b <;> simp [cmpS, Op.bytesLess]
theorem cmpS_nil' (b : List UInt8) : cmpS b [] = if b = [] then 0 else 1 := by
  cases b <;> simp [cmpS, Op.bytesLess]
theorem cmpS_cons (a b : UInt8) (x y : List UInt8) : cmpS (a :: x) (b :: y) = if ¬ cmpI a.toNat b.toNat = 0 then cmpI a.toNat b.toNat else cmpS x y := by
  unfold cmpS cmpI
  simp only [Op.bytesLess, Bool.or_eq_true, Bool.and_eq_true, decide_eq_true_eq, beq_iff_eq, List.cons.injEq, u8lt_nat, u8eq_nat]
  by_cases h1 : a.toNat < b.toNat
  · simp [h1]
  · by_cases h2 : b.toNat < a.toNat
    · have : ¬ a.toNat = b.toNat := by omega
      simp [h1, h2, this]
    · have e : a = b := UInt8.toNat_inj.1 (by omega)
      subst e
      simp
theorem cmpS_neg : ∀ a b : List UInt8, cmpS b a = - cmpS a b
  | [], b => by rw [cmpS_nil, cmpS_nil']; split <;> rfl
  | a :: x, [] => by rw [cmpS_nil, cmpS_nil']; rfl
  | a :: x, b :: y => by rw [cmpS_cons, cmpS_cons, cmpS_neg x y, cmpI_neg]; split <;> split <;> omega
theorem cmpS_tri : ∀ a b c : List UInt8, Tri (cmpS a b) (cmpS b c) (cmpS a c)
  | [], b, c => by
    rw [cmpS_nil, cmpS_nil]
    cases b with
    | nil => simp only [if_true, cmpS_nil]; unfold Tri; split <;> omega
    | cons b y => cases c with
      | nil => rw [cmpS_nil']; simp [Tri]
      | cons c z => simp [Tri]
  | a :: x, [], c => by
    rw [cmpS_nil, cmpS_nil']
    cases c <;> simp [Tri, cmpS_nil']
  | a :: x, b :: y, [] => by
    rw [cmpS_nil', cmpS_nil']; simp [Tri]
  | a :: x, b :: y, c :: z => by
    rw [cmpS_cons, cmpS_cons, cmpS_cons]
    exact (cmpI_tri _ _ _).lex (cmpS_tri x y z)

theorem cmpF_mk (k k' : Int) (n n' : Int) (t t' : List UInt8) (nl nl' : Bool) (l l' : List Fm) : cmpF (.mk k n t nl l) (.mk k' n' t' nl' l') = if k = k' then (if k = 0 then cmpI n n' else if k = 1 ∨ k = 2 then cmpS t t' else if k = 3 then cmpL l l' else 0) else cmpI k k' := by
  by_cases h : k = k'
  · subst h; simp [cmpF, Fm.k, Fm.n, Fm.t, Fm.l]
  · simp [cmpF, Fm.k, h]
theorem cmpL_neg_of : ∀ l m : List Fm, (∀ f ∈ l, ∀ g, cmpF g f = - cmpF f g) → cmpL m l = - cmpL l m
  | [], m, _ => by cases m <;> simp [cmpL]
  | f :: r, [], _ => by simp [cmpL]
  | f :: r, g :: m, h => by
    simp only [cmpL]
    rw [h f (by simp) g, cmpL_neg_of r m (fun f hf => h f (by simp [hf]))]
    split <;> split <;> omega
theorem cmpF_neg : ∀ f g : Fm, cmpF g f = - cmpF f g := Fm.ind fun k n t nl l ih g => by
  obtain ⟨k', n', t', nl', l'⟩ := g
  rw [cmpF_mk, cmpF_mk]
  by_cases h : k = k'
  · subst h
    simp only [if_true]
    split
    · exact cmpI_neg _ _
    · split
      · exact cmpS_neg _ _
      · split
        · exact cmpL_neg_of l l' ih
        · rfl
  · rw [if_neg (show ¬ k' = k from fun e => h e.symm), if_neg h]; exact cmpI_neg _ _
theorem cmpL_tri_of : ∀ l m o : List Fm, (∀ f ∈ l, ∀ g h, Tri (cmpF f g) (cmpF g h) (cmpF f h)) → Tri (cmpL l m) (cmpL m o) (cmpL l o)
  | [], m, o, _ => by
    cases m with
    | nil => cases o <;> simp [cmpL, Tri]
    | cons g m => cases o with
      | nil => simp [cmpL, Tri]
      | cons h o => simp [cmpL, Tri]
  | f :: r, [], o, _ => by cases o <;> simp [cmpL, Tri]
  | f :: r, g :: m, [], _ => by simp [cmpL, Tri]
  | f :: r, g :: m, h :: o, ih => by
    simp only [cmpL]
    exact (ih f (by simp) g h).lex (cmpL_tri_of r m o (fun f hf => ih f (by simp [hf])))
theorem cmpI_ne {a b : Int} (h : ¬ a = b) : ¬ cmpI a b = 0 := by unfold cmpI; split <;> (try split) <;> omega
theorem cmpI_self (a : Int) : cmpI a a = 0 := by unfold cmpI; simp
theorem cmpF_tri : ∀ f g h : Fm, Tri (cmpF f g) (cmpF g h) (cmpF f h) := Fm.ind fun k n t nl l ih g h => by
  obtain ⟨k', n', t', nl', l'⟩ := g
  obtain ⟨k'', n'', t'', nl'', l''⟩ := h
  have e : ∀ (k k' : Int) (n n' : Int) (t t' : List UInt8) (nl nl' : Bool) (l l' : List Fm), cmpF (.mk k n t nl l) (.mk k' n' t' nl' l') = if ¬ cmpI k k' = 0 then cmpI k k' else if k = 0 then cmpI n n' else if k = 1 ∨ k = 2 then cmpS t t' else if k = 3 then cmpL l l' else 0 := by
    intro k k' n n' t t' nl nl' l l'
    rw [cmpF_mk]
    by_cases h : k = k'
    · subst h; simp [cmpI_self]
    · rw [if_neg h, if_pos (cmpI_ne h)]
  by_cases h1 : k = k'
  · by_cases h2 : k' = k''
    · subst h1; subst h2
      rw [e, e, e]
      refine (cmpI_tri _ _ _).lex ?_
      split
      · exact cmpI_tri _ _ _
      · split
        · exact cmpS_tri _ _ _
        · split
          · exact cmpL_tri_of l l' l'' ih
          · simp [Tri]
    · subst h1
      rw [e, e k k'', e k k'']
      have := cmpI_ne h2
      rw [if_pos this, if_pos this, cmpI_self, if_neg (by simp)]
      unfold Tri
      omega
  · have t := cmpI_tri k k' k''
    have := cmpI_ne h1
    by_cases h2 : k' = k''
    · subst h2
      rw [e, e k' k', e k k', if_pos this, cmpI_self, if_neg (by simp)]
      unfold Tri
      omega
    · have h3 := cmpI_ne h2
      rw [e, e k' k'', e k k'', if_pos this, if_pos h3]
      unfold Tri at *
      split
      · omega
      · rename_i h4
        have : cmpI k k'' = 0 := Classical.not_not.1 h4
        omega
theorem cmpL_self_of : ∀ l : List Fm, (∀ f ∈ l, cmpF f f = 0) → cmpL l l = 0
  | [], _ => by simp [cmpL]
  | f :: r, h => by simp only [cmpL, h f (by simp)]; simpa using cmpL_self_of r (fun f hf => h f (by simp [hf]))
theorem cmpS_self (a : List UInt8) : cmpS a a = 0 := by simp [cmpS, bytesLess_irrefl]
theorem cmpF_self : ∀ f : Fm, cmpF f f = 0 := Fm.ind fun k n t nl l ih => by
  rw [cmpF_mk, if_pos rfl]
  split
  · exact cmpI_self _
  · split
    · exact cmpS_self _
    · split
      · exact cmpL_self_of l ih
      · rfl
theorem cmpF_trans {f g h : Fm} (h1 : cmpF f g < 0) (h2 : cmpF g h < 0) : cmpF f h < 0 := (cmpF_tri f g h).2.1 h1 (Int.le_of_lt h2)
theorem cmpF_eq_l {f g : Fm} (h : cmpF f g = 0) (o : Fm) : cmpF f o = cmpF g o := (cmpF_tri f g o).2.2.2.1 h
theorem cmpF_eq_r {f g : Fm} (h : cmpF f g = 0) (o : Fm) : cmpF o f = cmpF o g := by
  rw [cmpF_neg f o, cmpF_neg g o, cmpF_eq_l h]
theorem cmpF_lt_gt {f g : Fm} : 0 < cmpF f g ↔ cmpF g f < 0 := by rw [cmpF_neg f g]; omega

/-! ### Parts of valid forms -/
theorem validS_mono_of : ∀ (l : List Fm), (∀ f ∈ l, ∀ p d p' d' : Int, p ≤ p' → 0 ≤ d → d ≤ d' → (validS f p d).1 = true → (validS f p' d').1 = true ∧ (validS f p' d').2 - p' = (validS f p d).2 - p) →
    ∀ p d p' d' : Int, p ≤ p' → 0 ≤ d → d ≤ d' → (validLS l p d).1 = true → (validLS l p' d').1 = true ∧ (validLS l p' d').2 - p' = (validLS l p d).2 - p
  | [], _, p, d, p', d', h1, h2, h3, h => by simp only [validLS]; exact ⟨trivial, by omega⟩
  | f :: r, ih, p, d, p', d', h1, h2, h3, h => by
    simp only [validLS] at h ⊢
    split at h
    · rename_i hf
      obtain ⟨a, b⟩ := ih f (by simp) p d p' d' h1 h2 h3 hf
      rw [if_pos hf, if_pos a]
      obtain ⟨q1, q2⟩ := validS_mono_of r (fun g hg => ih g (by simp [hg])) _ d _ d' (show (validS f p d).2 ≤ (validS f p' d').2 by omega) h2 h3 h
      exact ⟨q1, by omega⟩
    · cases h
theorem validS_mono : ∀ f : Fm, ∀ p d p' d' : Int, p ≤ p' → 0 ≤ d → d ≤ d' → (validS f p d).1 = true → (validS f p' d').1 = true ∧ (validS f p' d').2 - p' = (validS f p d).2 - p := Fm.ind fun k n t nl l ih p d p' d' h1 h2 h3 h => by
  simp only [validS] at h ⊢
  split at h
  · cases h
  · rename_i hc
    have hc' : ¬ (p' - 1 < 0 ∨ d' = 0 ∨ leafS k n t l = false) := by
      rintro (h | h | h)
      · exact hc (.inl (by omega))
      · exact hc (.inr (.inl (by omega)))
      · exact hc (.inr (.inr h))
    rw [if_neg hc, if_neg hc']
    have hd : d ≠ 0 := fun e => hc (.inr (.inl e))
    obtain ⟨q1, q2⟩ := validS_mono_of l ih (p - 1) (d - 1) (p' - 1) (d' - 1) (by omega) (by omega) (by omega) h
    exact ⟨q1, by omega⟩
theorem validLS_mem : ∀ {l : List Fm} {p d : Int}, (validLS l p d).1 = true → ∀ f ∈ l, ∃ p', (validS f p' d).1 = true
  | [], _, _, _, f, hf => by cases hf
  | g :: r, p, d, h, f, hf => by
    simp only [validLS] at h
    split at h
    · rename_i hg
      rcases List.mem_cons.1 hf with rfl | hf
      · exact ⟨p, hg⟩
      · exact validLS_mem h f hf
    · cases h
theorem validS_le_of : ∀ (l : List Fm), (∀ f ∈ l, ∀ p d : Int, (validS f p d).2 ≤ p) → ∀ p d : Int, (validLS l p d).2 ≤ p
  | [], _, p, d => by simp only [validLS]; omega
  | f :: r, ih, p, d => by
    simp only [validLS]
    have h1 := ih f (by simp) p d
    split
    · have := validS_le_of r (fun g hg => ih g (by simp [hg])) (validS f p d).2 d; omega
    · exact h1
theorem validS_le : ∀ f : Fm, ∀ p d : Int, (validS f p d).2 ≤ p := Fm.ind fun k n t nl l ih p d => by
  simp only [validS]
  split
  · simp only; omega
  · have := validS_le_of l ih (p - 1) (d - 1); omega
theorem validLS_mem' : ∀ {l : List Fm} {p d : Int}, (validLS l p d).1 = true → ∀ f ∈ l, ∃ p', p' ≤ p ∧ (validS f p' d).1 = true
  | [], _, _, _, f, hf => by cases hf
  | g :: r, p, d, h, f, hf => by
    simp only [validLS] at h
    split at h
    · rename_i hg
      rcases List.mem_cons.1 hf with rfl | hf
      · exact ⟨p, Int.le_refl _, hg⟩
      · obtain ⟨p', h1, h2⟩ := validLS_mem' h f hf
        exact ⟨p', Int.le_trans h1 (validS_le _ _ _), h2⟩
    · cases h
/-- The parts of a valid form are. -/
theorem validF_part {k n : Int} {t : List UInt8} {nl : Bool} {l : List Fm} (h : validF (.mk k n t nl l) = true) : ∀ f ∈ l, validF f = true := by
  intro f hf
  unfold validF at h ⊢
  simp only [validS] at h
  split at h
  · cases h
  · obtain ⟨p', h1, h2⟩ := validLS_mem' h f hf
    exact (validS_mono f p' (100 - 1) 20000 100 (by omega) (by omega) (by omega) h2).1
theorem validF_leaf {k n : Int} {t : List UInt8} {nl : Bool} {l : List Fm} (h : validF (.mk k n t nl l) = true) : leafS k n t l = true := by
  unfold validF at h
  simp only [validS] at h
  split at h
  · cases h
  · rename_i hc
    cases hl : leafS k n t l
    · exact absurd (.inr (.inr hl)) hc
    · rfl
end Go.Ab

set_option linter.unusedVariables false
set_option linter.unusedSimpArgs false
namespace Go.Ab
open Go
--BEGIN
abbrev plusB : List UInt8 := [43]
abbrev lessB : List UInt8 := [45]
abbrev starB : List UInt8 := [42]
abbrev negB : List UInt8 := [110, 101, 103]
def nilS : Sm := ⟨0, true, []⟩
def atomS (f : Fm) : Sm := ⟨0, false, [⟨1, f⟩]⟩
/-- The sum of a form, out of those of its parts. -/
def ofC (f : Fm) (rs : List (Option Sm)) : Option Sm :=
  if f.k = 0 then some ⟨f.n, true, []⟩
  else if isF f plusB 2 = true then (rs.getD 1 none).bind fun a => (rs.getD 2 none).bind fun b => plusS a b 1
  else if isF f lessB 2 = true then (rs.getD 1 none).bind fun a => (rs.getD 2 none).bind fun b => plusS a b (-1)
  else if isF f negB 1 = true then (rs.getD 1 none).bind fun a => plusS nilS a (-1)
  else if isF f starB 2 = true then (rs.getD 1 none).bind fun a => (rs.getD 2 none).bind fun b => if a.l = [] then plusS nilS b a.k else if b.l = [] then plusS nilS a b.k else some (atomS f)
  else some (atomS f)
mutual
def ofS : Fm → Option Sm
  | .mk k n t nl l => ofC (.mk k n t nl l) (ofLS l)
def ofLS : List Fm → List (Option Sm)
  | [] => []
  | f :: r => ofS f :: ofLS r
end
theorem ofLS_map : ∀ l : List Fm, ofLS l = l.map ofS
  | [] => by simp only [ofLS, List.map_nil]
  | f :: r => by simp only [ofLS, List.map_cons, ofLS_map r]

/-- Parts that are in order, with numbers within bounds other than 0. -/
structure Good (P : Fm → Prop) (l : List Pt) : Prop where
  ord : l.Pairwise fun p q => cmpF p.t q.t < 0
  ok : ∀ p ∈ l, p.c ≠ 0 ∧ within p.c = true ∧ P p.t
theorem Good.nil (P : Fm → Prop) : Good P [] := ⟨.nil, fun p h => by cases h⟩
theorem Good.tail {P : Fm → Prop} {p : Pt} {l : List Pt} (h : Good P (p :: l)) : Good P l := ⟨(List.pairwise_cons.1 h.ord).2, fun q hq => h.ok q (by simp [hq])⟩
theorem within_iff (n : Int) : within n = true ↔ -1152921504606846976 ≤ n ∧ n ≤ 1152921504606846976 := by simp [within]
theorem Good.cons {P : Fm → Prop} {c : Int} {t : Fm} {l : List Pt} (h : Good P l) (hc : within c = true) (ht : P t) (ho : ∀ p ∈ l, cmpF t p.t < 0) : Good P (consP c t l) := by
  unfold consP
  split
  · exact h
  · rename_i hne
    refine ⟨List.pairwise_cons.2 ⟨fun q hq => ho q hq, h.ord⟩, fun p hp => ?_⟩
    rcases List.mem_cons.1 hp with rfl | hp
    · exact ⟨hne, hc, ht⟩
    · exact h.ok p hp
theorem consP_mem {c : Int} {t : Fm} {l : List Pt} {p : Pt} (h : p ∈ consP c t l) : p.t = t ∨ p ∈ l := by
  unfold consP at h
  split at h
  · exact .inr h
  · rcases List.mem_cons.1 h with rfl | h
    · exact .inl rfl
    · exact .inr h
/-- What is merged is in order; its terms are among those that were merged. -/
theorem mergeL_good (f : Int) (P : Fm → Prop) : ∀ (l m o : List Pt), mergeL f l m = some o → Good P l → Good P m → Good P o ∧ (∀ x ∈ o, (∃ p ∈ l, x.t = p.t) ∨ ∃ q ∈ m, x.t = q.t) ∧ o.length ≤ l.length + m.length := by
  intro l m
  fun_induction mergeL f l m with
  | case1 => intro o h _ _; cases h; exact ⟨.nil P, fun x h => (by cases h), Nat.le_refl _⟩
  | case2 p r ih =>
    intro o h hl hm
    obtain ⟨o', ho', rfl⟩ := Option.map_eq_some_iff.1 h
    obtain ⟨g, hx, hlen⟩ := ih o' ho' hl.tail hm
    have hc := hl.ok p (by simp)
    refine ⟨g.cons hc.2.1 hc.2.2 fun x hxm => ?_, fun x hxm => ?_, ?_⟩
    · rcases hx x hxm with ⟨p', hp', e⟩ | ⟨q', hq', e⟩
      · rw [e]; exact (List.pairwise_cons.1 hl.ord).1 p' hp'
      · cases hq'
    · rcases consP_mem hxm with e | hxm
      · exact .inl ⟨p, by simp, e⟩
      · rcases hx x hxm with ⟨p', hp', e⟩ | ⟨q', hq', e⟩
        · exact .inl ⟨p', by simp [hp'], e⟩
        · exact .inr ⟨q', hq', e⟩
    · unfold consP; split <;> simp at * <;> omega
  | case3 q s ih =>
    intro o h hl hm
    obtain ⟨x, h1, h⟩ := Option.bind_eq_some_iff.1 h
    obtain ⟨c, h2, h⟩ := Option.bind_eq_some_iff.1 h
    obtain ⟨o', ho', rfl⟩ := Option.map_eq_some_iff.1 h
    obtain ⟨g, hx, hlen⟩ := ih o' ho' hl hm.tail
    have hc := hm.ok q (by simp)
    have hw := wholeS_some h2
    refine ⟨g.cons ((within_iff _).2 (by omega)) hc.2.2 fun x hxm => ?_, fun x hxm => ?_, ?_⟩
    · rcases hx x hxm with ⟨p', hp', e⟩ | ⟨q', hq', e⟩
      · cases hp'
      · rw [e]; exact (List.pairwise_cons.1 hm.ord).1 q' hq'
    · rcases consP_mem hxm with e | hxm
      · exact .inr ⟨q, by simp, e⟩
      · rcases hx x hxm with ⟨p', hp', e⟩ | ⟨q', hq', e⟩
        · exact .inl ⟨p', hp', e⟩
        · exact .inr ⟨q', by simp [hq'], e⟩
    · unfold consP; split <;> simp at * <;> omega
  | case4 p r q s hlt ih =>
    intro o h hl hm
    obtain ⟨o', ho', rfl⟩ := Option.map_eq_some_iff.1 h
    obtain ⟨g, hx, hlen⟩ := ih o' ho' hl.tail hm
    have hc := hl.ok p (by simp)
    refine ⟨g.cons hc.2.1 hc.2.2 fun x hxm => ?_, fun x hxm => ?_, ?_⟩
    · rcases hx x hxm with ⟨p', hp', e⟩ | ⟨q', hq', e⟩
      · rw [e]; exact (List.pairwise_cons.1 hl.ord).1 p' hp'
      · rw [e]
        rcases List.mem_cons.1 hq' with rfl | hq'
        · exact hlt
        · exact cmpF_trans hlt ((List.pairwise_cons.1 hm.ord).1 q' hq')
    · rcases consP_mem hxm with e | hxm
      · exact .inl ⟨p, by simp, e⟩
      · rcases hx x hxm with ⟨p', hp', e⟩ | ⟨q', hq', e⟩
        · exact .inl ⟨p', by simp [hp'], e⟩
        · exact .inr ⟨q', hq', e⟩
    · unfold consP; split <;> simp at * <;> omega
  | case5 p r q s hlt hgt ih =>
    intro o h hl hm
    obtain ⟨x, h1, h⟩ := Option.bind_eq_some_iff.1 h
    obtain ⟨c, h2, h⟩ := Option.bind_eq_some_iff.1 h
    obtain ⟨o', ho', rfl⟩ := Option.map_eq_some_iff.1 h
    obtain ⟨g, hx, hlen⟩ := ih o' ho' hl hm.tail
    have hc := hm.ok q (by simp)
    have hw := wholeS_some h2
    refine ⟨g.cons ((within_iff _).2 (by omega)) hc.2.2 fun x hxm => ?_, fun x hxm => ?_, ?_⟩
    · rcases hx x hxm with ⟨p', hp', e⟩ | ⟨q', hq', e⟩
      · rw [e]
        rcases List.mem_cons.1 hp' with rfl | hp'
        · exact cmpF_lt_gt.1 hgt
        · exact cmpF_trans (cmpF_lt_gt.1 hgt) ((List.pairwise_cons.1 hl.ord).1 p' hp')
      · rw [e]; exact (List.pairwise_cons.1 hm.ord).1 q' hq'
    · rcases consP_mem hxm with e | hxm
      · exact .inr ⟨q, by simp, e⟩
      · rcases hx x hxm with ⟨p', hp', e⟩ | ⟨q', hq', e⟩
        · exact .inl ⟨p', hp', e⟩
        · exact .inr ⟨q', by simp [hq'], e⟩
    · unfold consP; split <;> simp at * <;> omega
  | case6 p r q s hlt hgt ih =>
    intro o h hl hm
    obtain ⟨x, h1, h⟩ := Option.bind_eq_some_iff.1 h
    obtain ⟨c, h2, h⟩ := Option.bind_eq_some_iff.1 h
    obtain ⟨o', ho', rfl⟩ := Option.map_eq_some_iff.1 h
    obtain ⟨g, hx, hlen⟩ := ih o' ho' hl.tail hm.tail
    have hc := hm.ok q (by simp)
    have hw := wholeS_some h2
    have heq : cmpF p.t q.t = 0 := by omega
    refine ⟨g.cons ((within_iff _).2 (by omega)) hc.2.2 fun x hxm => ?_, fun x hxm => ?_, ?_⟩
    · rcases hx x hxm with ⟨p', hp', e⟩ | ⟨q', hq', e⟩
      · rw [e, ← cmpF_eq_l heq]; exact (List.pairwise_cons.1 hl.ord).1 p' hp'
      · rw [e]; exact (List.pairwise_cons.1 hm.ord).1 q' hq'
    · rcases consP_mem hxm with e | hxm
      · exact .inr ⟨q, by simp, e⟩
      · rcases hx x hxm with ⟨p', hp', e⟩ | ⟨q', hq', e⟩
        · exact .inl ⟨p', by simp [hp'], e⟩
        · exact .inr ⟨q', by simp [hq'], e⟩
    · unfold consP; split <;> simp at * <;> omega

/-- A good sum. -/
def GoodS (P : Fm → Prop) (s : Sm) : Prop := Good P s.l ∧ within s.k = true
theorem plusS_good {P : Fm → Prop} {a b s : Sm} {f : Int} (h : plusS a b f = some s) (ha : GoodS P a) (hb : GoodS P b) : GoodS P s ∧ s.nl = true ∧ s.l.length ≤ a.l.length + b.l.length := by
  obtain ⟨x, h1, h⟩ := Option.bind_eq_some_iff.1 h
  obtain ⟨k, h2, h⟩ := Option.bind_eq_some_iff.1 h
  obtain ⟨o, ho, rfl⟩ := Option.map_eq_some_iff.1 h
  have := mergeL_good f P _ _ o ho ha.1 hb.1
  have hw := wholeS_some h2
  exact ⟨⟨this.1, (within_iff _).2 (by simp only; omega)⟩, rfl, this.2.2⟩
theorem nilS_good (P : Fm → Prop) : GoodS P nilS := ⟨.nil P, by decide⟩
theorem atomS_good {P : Fm → Prop} {f : Fm} (h : P f) : GoodS P (atomS f) := by
  refine ⟨⟨List.pairwise_singleton _ _, fun p hp => ?_⟩, (within_iff _).2 (by simp [atomS])⟩
  simp [atomS] at hp
  subst hp
  exact ⟨by simp, (within_iff _).2 (by simp), h⟩
/-- What is a term of a sum: valid, not too big, and its own sum. -/
def Atom (b : Nat) (f : Fm) : Prop := validF f = true ∧ ofS f = some (atomS f) ∧ f.big ≤ b
theorem Atom.mono {b b' : Nat} {f : Fm} (h : Atom b f) (hb : b ≤ b') : Atom b' f := ⟨h.1, h.2.1, Nat.le_trans h.2.2 hb⟩
theorem GoodS.mono {P P' : Fm → Prop} {s : Sm} (h : GoodS P s) (hp : ∀ f, P f → P' f) : GoodS P' s := ⟨⟨h.1.ord, fun p hm => let ⟨a, b, c⟩ := h.1.ok p hm; ⟨a, b, hp _ c⟩⟩, h.2⟩
theorem getD_ofLS {l : List Fm} {i : Nat} {s : Sm} (h : (ofLS l).getD i none = some s) : ∃ f ∈ l, ofS f = some s := by
  rw [ofLS_map] at h
  simp only [List.getD_eq_getElem?_getD, List.getElem?_map] at h
  cases hl : l[i]? with
  | none => simp [hl] at h
  | some f => simp [hl] at h; exact ⟨f, List.mem_of_getElem? hl, h⟩
theorem big_memL {l : List Fm} {f : Fm} (h : f ∈ l) : f.big ≤ Fm.bigL l := by
  induction l with
  | nil => cases h
  | cons g r ih => rcases List.mem_cons.1 h with rfl | h <;> simp only [Fm.bigL] <;> first | omega | (have := ih h; omega)
theorem big_two {l : List Fm} {i j : Nat} {f g : Fm} (hi : l[i]? = some f) (hj : l[j]? = some g) (hij : i < j) : f.big + g.big ≤ Fm.bigL l := by
  induction l generalizing i j with
  | nil => simp at hi
  | cons h r ih =>
    cases j with
    | zero => omega
    | succ j => cases i with
      | zero =>
        simp at hi hj; subst hi
        have := big_memL (List.mem_of_getElem? hj)
        simp only [Fm.bigL]; omega
      | succ i =>
        simp at hi hj
        have := ih hi hj (by omega)
        simp only [Fm.bigL]; omega
theorem getD_ofLS' {l : List Fm} {i : Nat} {s : Sm} (h : (ofLS l).getD i none = some s) : ∃ f, l[i]? = some f ∧ ofS f = some s := by
  rw [ofLS_map] at h
  simp only [List.getD_eq_getElem?_getD, List.getElem?_map] at h
  cases hl : l[i]? with
  | none => simp [hl] at h
  | some f => simp [hl] at h; exact ⟨f, rfl, h⟩
theorem ofS_good : ∀ f : Fm, validF f = true → ∀ s, ofS f = some s → GoodS (Atom f.big) s ∧ s.l.length ≤ f.big := Fm.ind fun k n t nl l ih hv s h => by
  have hwhole := h
  have hparts := validF_part hv
  have sub : ∀ i a, (ofLS l).getD i none = some a → ∃ g, l[i]? = some g ∧ GoodS (Atom (Fm.big (.mk k n t nl l))) a ∧ a.l.length ≤ g.big := by
    intro i a ha
    obtain ⟨g, hg, e⟩ := getD_ofLS' ha
    have hm := List.mem_of_getElem? hg
    obtain ⟨q1, q2⟩ := ih g hm (hparts g hm) a e
    refine ⟨g, hg, q1.mono fun x hx => hx.mono ?_, q2⟩
    have := big_memL hm
    simp only [Fm.big]; omega
  have hbig : ∀ (i : Nat) (g : Fm), l[i]? = some g → g.big + 1 ≤ Fm.big (.mk k n t nl l) := by
    intro i g hg
    have := big_memL (List.mem_of_getElem? hg)
    simp only [Fm.big]; omega
  have hbig2 : ∀ f g : Fm, l[1]? = some f → l[2]? = some g → f.big + g.big + 1 ≤ Fm.big (.mk k n t nl l) := by
    intro f g hf hg
    have := big_two hf hg (by decide)
    simp only [Fm.big]; omega
  have atom : s = atomS (.mk k n t nl l) → GoodS (Atom (Fm.big (.mk k n t nl l))) s ∧ s.l.length ≤ Fm.big (.mk k n t nl l) := by
    intro e
    subst e
    exact ⟨atomS_good ⟨hv, hwhole, Nat.le_refl _⟩, by simp only [atomS, List.length_singleton, Fm.big]; omega⟩
  simp only [ofS, ofC] at h
  split at h
  · rename_i hk
    cases h
    have hlf := validF_leaf hv
    have hkk : k = 0 := hk
    simp only [leafS, hkk, if_true, Bool.and_eq_true, decide_eq_true_eq] at hlf
    exact ⟨⟨.nil _, (within_iff _).2 (by simp only [Fm.n]; omega)⟩, by simp⟩
  · split at h
    · obtain ⟨a, h1, h⟩ := Option.bind_eq_some_iff.1 h
      obtain ⟨b, h2, h⟩ := Option.bind_eq_some_iff.1 h
      obtain ⟨fa, e1, g1, l1⟩ := sub 1 a h1
      obtain ⟨fb, e2, g2, l2⟩ := sub 2 b h2
      have := plusS_good h g1 g2
      have := hbig2 _ _ e1 e2
      exact ⟨by simp_all, by omega⟩
    · split at h
      · obtain ⟨a, h1, h⟩ := Option.bind_eq_some_iff.1 h
        obtain ⟨b, h2, h⟩ := Option.bind_eq_some_iff.1 h
        obtain ⟨fa, e1, g1, l1⟩ := sub 1 a h1
        obtain ⟨fb, e2, g2, l2⟩ := sub 2 b h2
        have := plusS_good h g1 g2
        have := hbig2 _ _ e1 e2
        exact ⟨by simp_all, by omega⟩
      · split at h
        · obtain ⟨a, h1, h⟩ := Option.bind_eq_some_iff.1 h
          obtain ⟨fa, e1, g1, l1⟩ := sub 1 a h1
          have h3 := plusS_good h (nilS_good _) g1
          have := hbig _ _ e1
          have h4 : nilS.l.length = 0 := rfl
          exact ⟨h3.1, by omega⟩
        · split at h
          · obtain ⟨a, h1, h⟩ := Option.bind_eq_some_iff.1 h
            obtain ⟨b, h2, h⟩ := Option.bind_eq_some_iff.1 h
            obtain ⟨fa, e1, g1, l1⟩ := sub 1 a h1
            obtain ⟨fb, e2, g2, l2⟩ := sub 2 b h2
            have hb1 := hbig _ _ e1
            have hb2 := hbig _ _ e2
            have h4 : nilS.l.length = 0 := rfl
            split at h
            · have h3 := plusS_good h (nilS_good _) g2
              exact ⟨h3.1, by omega⟩
            · split at h
              · have h3 := plusS_good h (nilS_good _) g1
                exact ⟨h3.1, by omega⟩
              · cases h; exact atom rfl
          · cases h; exact atom rfl

/-! ### Valid sums -/
theorem validSm_of {s : Sm} (h : GoodS (fun f => validF f = true) s) : validSm s = true := by
  obtain ⟨⟨ho, hk⟩, hw⟩ := h
  simp only [validSm, hw, Bool.and_true, List.all_eq_true, List.mem_range]
  intro i hi
  have hg : s.l[i]? = some s.l[i] := List.getElem?_eq_getElem hi
  obtain ⟨h1, h2, h3⟩ := hk _ (List.getElem_mem hi)
  simp only [partOK, hg, h2, h3, Bool.true_and]
  have hd : decide (s.l[i].c = 0) = false := decide_eq_false h1
  rw [hd]
  by_cases h0 : i = 0
  · subst h0; simp
  · have hi' : i - 1 < s.l.length := by omega
    have hg' : s.l[i - 1]? = some s.l[i - 1] := List.getElem?_eq_getElem hi'
    rw [hg']
    have := List.pairwise_iff_getElem.1 ho (i - 1) i hi' hi (by omega)
    have hn : decide (0 ≤ cmpF s.l[i - 1].t s.l[i].t) = false := decide_eq_false (by omega)
    simp [hn]
theorem validSm_good {s : Sm} (h : validSm s = true) : GoodS (fun f => validF f = true) s := by
  simp only [validSm, Bool.and_eq_true, List.all_eq_true, List.mem_range] at h
  obtain ⟨hp, hw⟩ := h
  have one : ∀ i (hi : i < s.l.length), s.l[i].c ≠ 0 ∧ within s.l[i].c = true ∧ validF s.l[i].t = true ∧ ∀ hj : 0 < i, cmpF (s.l[i - 1]'(by omega)).t s.l[i].t < 0 := by
    intro i hi
    have hg : s.l[i]? = some s.l[i] := List.getElem?_eq_getElem hi
    have := hp i hi
    simp only [partOK, hg, Bool.and_eq_true, Bool.not_eq_true', decide_eq_false_iff_not, Bool.or_eq_true, decide_eq_true_eq] at this
    obtain ⟨h1, h2, h3, h4⟩ := this
    refine ⟨h1, h2, h3, fun hj => ?_⟩
    have hi' : i - 1 < s.l.length := by omega
    have hg' : s.l[i - 1]? = some s.l[i - 1] := List.getElem?_eq_getElem hi'
    rw [hg'] at h4
    rcases h4 with h4 | h4
    · omega
    · simp at h4; exact h4
  refine ⟨⟨?_, fun p hp => ?_⟩, hw⟩
  · rw [List.pairwise_iff_getElem]
    have key : ∀ d i (hi : i < s.l.length) (hj : i + d + 1 < s.l.length), cmpF s.l[i].t s.l[i + d + 1].t < 0 := by
      intro d
      induction d with
      | zero => intro i hi hj; have := (one (i + 1) hj).2.2.2 (by omega); simpa using this
      | succ d ih =>
        intro i hi hj
        have h1 := ih i hi (by omega)
        have h2 := (one (i + (d + 1) + 1) hj).2.2.2 (by omega)
        have e : i + (d + 1) + 1 - 1 = i + d + 1 := by omega
        simp only [e] at h2
        exact cmpF_trans h1 h2
    intro i j hi hj hij
    have := key (j - i - 1) i hi (by omega)
    have e : i + (j - i - 1) + 1 = j := by omega
    simpa only [e] using this
  · obtain ⟨i, hi, rfl⟩ := List.mem_iff_getElem.1 hp
    have := one i hi
    exact ⟨this.1, this.2.1, this.2.2.1⟩

/-! ### The term of a sum -/
def binF (h : List UInt8) (a b : Fm) : Fm := .mk 3 0 [] false [wordF h, a, b]
def termP (p : Pt) : Fm := if p.c = 1 then p.t else binF starB (numF p.c) p.t
def termL (s : Sm) : List Fm := s.l.map termP ++ (if s.k ≠ 0 ∨ s.l = [] then [numF s.k] else [])
def foldF : List Fm → Fm
  | [] => numF 0
  | f :: r => r.foldl (binF plusB) f
def termS (s : Sm) : Fm := foldF (termL s)
theorem bin_isF (h h' : List UInt8) (a b : Fm) : isF (binF h a b) h' 2 = decide (h = h') := by
  simp [isF, binF, Fm.k, Fm.head, Fm.kids, Fm.l, wordF, Fm.t]
theorem bin_isF1 (h h' : List UInt8) (a b : Fm) : isF (binF h a b) h' 1 = false := by
  simp [isF, binF, Fm.k, Fm.head, Fm.kids, Fm.l, wordF, Fm.t]
theorem bin_k (h : List UInt8) (a b : Fm) : (binF h a b).k = 3 := rfl
theorem ofS_plus (a b : Fm) : ofS (binF plusB a b) = (ofS a).bind fun x => (ofS b).bind fun y => plusS x y 1 := by
  have h : ofS (binF plusB a b) = ofC (binF plusB a b) (ofLS [wordF plusB, a, b]) := by simp only [binF, ofS]
  rw [h, ofLS_map]
  simp only [ofC, bin_k, bin_isF, decide_true, if_true]
  rw [if_neg (by decide)]
  rfl
theorem ofS_star (c : Int) (b : Fm) {y : Sm} (hb : ofS b = some y) : ofS (binF starB (numF c) b) = plusS nilS y c := by
  have h : ofS (binF starB (numF c) b) = ofC (binF starB (numF c) b) (ofLS [wordF starB, numF c, b]) := by simp only [binF, ofS]
  have hn : ofS (numF c) = some ⟨c, true, []⟩ := by simp [numF, ofS, ofC, Fm.k, Fm.n]
  rw [h, ofLS_map]
  simp only [ofC, bin_k, bin_isF, bin_isF1]
  rw [if_neg (by decide), if_neg (by decide), if_neg (by decide), if_neg (by decide), if_pos (by decide)]
  simp [hn, hb]
theorem ofS_num (n : Int) : ofS (numF n) = some ⟨n, true, []⟩ := by simp [numF, ofS, ofC, Fm.k, Fm.n]
theorem timesS_one {c : Int} (h : within c = true) : timesS c 1 = some c := by
  have := (within_iff _).1 h
  unfold timesS; rw [if_neg (by simp; omega), Int.mul_one]
theorem timesS_one' {c : Int} (h : within c = true) : timesS 1 c = some c := by
  have := (within_iff _).1 h
  unfold timesS; rw [if_neg (by simp; omega), Int.one_mul]
theorem timesS_zero (c : Int) : timesS 0 c = some 0 := by simp [timesS]
theorem wholeS_in {c : Int} (h : within c = true) : wholeS c = some c := by
  have := (within_iff _).1 h
  unfold wholeS; rw [if_neg (by omega)]
theorem mergeL_nn (f : Int) : mergeL f [] [] = some [] := by rw [mergeL]
theorem mergeL_nil (f : Int) : ∀ l : List Pt, (∀ p ∈ l, p.c ≠ 0) → mergeL f l [] = some l
  | [], _ => mergeL_nn f
  | p :: r, h => by
    rw [mergeL, mergeL_nil f r (fun q hq => h q (by simp [hq]))]
    simp [consP, h p (by simp)]
theorem mergeL_snoc (p : Pt) (hp : p.c ≠ 0) (hw : within p.c = true) : ∀ l : List Pt, (∀ q ∈ l, cmpF q.t p.t < 0 ∧ q.c ≠ 0) → mergeL 1 l [p] = some (l ++ [p])
  | [], _ => by
    rw [mergeL, timesS_one hw]
    simp [wholeS_in hw, mergeL_nn, consP, hp]
  | q :: r, h => by
    rw [mergeL, if_pos (h q (by simp)).1, mergeL_snoc p hp hw r (fun x hx => h x (by simp [hx]))]
    simp [consP, (h q (by simp)).2]
theorem plusS_atom {c : Int} (f : Fm) (hc : c ≠ 0) (hw : within c = true) : plusS nilS (atomS f) c = some ⟨0, true, [⟨c, f⟩]⟩ := by
  have h0 : wholeS 0 = some 0 := by decide
  simp [plusS, nilS, atomS, timesS_zero, h0]
  rw [mergeL, timesS_one' hw]
  simp [wholeS_in hw, mergeL_nn, consP, hc]
theorem ofS_termP {P : Fm → Prop} {p : Pt} (hc : p.c ≠ 0) (hw : within p.c = true) (ha : ofS p.t = some (atomS p.t)) : ∃ nl, ofS (termP p) = some ⟨0, nl, [p]⟩ := by
  unfold termP
  split
  · rename_i h1
    refine ⟨false, ?_⟩
    rw [ha, atomS]
    cases p; simp at h1; subst h1; rfl
  · exact ⟨true, by rw [ofS_star p.c p.t ha, plusS_atom p.t hc hw]⟩
theorem ofS_fold {b : Nat} (k0 : Int) (hk : within k0 = true) : ∀ (r : List Pt) (acc : Fm) (l0 : List Pt) (nl : Bool), ofS acc = some ⟨k0, nl, l0⟩ → Good (Atom b) (l0 ++ r) →
    ∃ nl', ofS ((r.map termP).foldl (binF plusB) acc) = some ⟨k0, nl', l0 ++ r⟩
  | [], acc, l0, nl, h, hg => ⟨nl, by simpa using h⟩
  | p :: r, acc, l0, nl, h, hg => by
    obtain ⟨h1, h2, h3⟩ := hg.ok p (by simp)
    obtain ⟨nl1, e1⟩ := ofS_termP (P := Atom b) h1 h2 h3.2.1
    have hst : ofS (binF plusB acc (termP p)) = some ⟨k0, true, l0 ++ [p]⟩ := by
      rw [ofS_plus, h, e1]
      have hm := mergeL_snoc p h1 h2 l0 (fun q hq => ⟨(List.pairwise_append.1 hg.ord).2.2 q hq p (by simp), (hg.ok q (by simp [hq])).1⟩)
      simp [plusS, timesS_zero, wholeS_in hk, hm]
    have := ofS_fold k0 hk r (binF plusB acc (termP p)) (l0 ++ [p]) true hst (by simpa using hg)
    simpa using this
theorem ofS_term {b : Nat} {s : Sm} (h : GoodS (Atom b) s) : ∃ nl, ofS (termS s) = some ⟨s.k, nl, s.l⟩ := by
  obtain ⟨hg, hw⟩ := h
  obtain ⟨k, nl, l⟩ := s
  simp only at hg hw
  cases l with
  | nil => exact ⟨true, by simp [termS, termL, foldF, ofS_num]⟩
  | cons p r =>
    obtain ⟨h1, h2, h3⟩ := hg.ok p (by simp)
    obtain ⟨nl1, e1⟩ := ofS_termP (P := Atom b) h1 h2 h3.2.1
    obtain ⟨nl2, e2⟩ := ofS_fold 0 (by decide) r (termP p) [p] nl1 e1 (by simpa using hg)
    by_cases hk : k = 0
    · refine ⟨nl2, ?_⟩
      simpa [termS, termL, foldF, hk] using e2
    · refine ⟨true, ?_⟩
      have hf : termS ⟨k, nl, p :: r⟩ = binF plusB ((r.map termP).foldl (binF plusB) (termP p)) (numF k) := by
        simp [termS, termL, foldF, hk, List.foldl_append]
      rw [hf, ofS_plus, e2, ofS_num]
      simp only [List.cons_append, List.nil_append, Option.bind_some, plusS, timesS_one hw, Int.zero_add, wholeS_in hw]
      rw [mergeL_nil 1 _ (fun q hq => (hg.ok q hq).1)]
      rfl
end Go.Ab
