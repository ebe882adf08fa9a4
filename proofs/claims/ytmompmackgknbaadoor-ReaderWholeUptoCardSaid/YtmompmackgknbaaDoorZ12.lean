/-
  TEXTS: which characters a text may have.
-/
import Derived.Test.YtmompmackgknbaaDoorZ11
import Derived.Test.YtmompmackgknbaaDoorCards
import Derived.Carry
import Derived.Test.YtmompmackgknbaaDoorTie
import Derived.WalkKit
import Derived.ProofKit
import Derived.OpenShut
import Derived.Deep.DeepHandedRow
import Derived.Lib.Builder
import Derived.Lib.UnsafeStr
import Derived.Laws.Externs
import Derived.Shelf.RegionOpenPlain
/-
  FORMS: sizes and order. Plain laws.
-/
set_option linter.unusedVariables false
set_option linter.unusedSimpArgs false
namespace Go.Ab
open Go
theorem Fm.ind {P : Fm → Prop} (h : ∀ k n t l, (∀ f ∈ l, P f) → P (.mk k n t l)) : ∀ f, P f := fun f => Fm.rec (motive_1 := P) (motive_2 := fun l => ∀ f ∈ l, P f) (fun k n t l ih => h k n t l ih) (fun f hf => by cases hf) (fun f r hf hr g hg => by
    rcases List.mem_cons.1 hg with rfl | hg
    · exact hf
    · exact hr g hg) f
mutual
def Fm.big : Fm → Nat
  | .mk _ _ t l => 1 + t.length + Fm.bigL l
def Fm.bigL : List Fm → Nat
  | [] => 0
  | f :: r => f.big + Fm.bigL r
end
theorem big_mem {l : List Fm} {f : Fm} (h : f ∈ l) : f.big ≤ Fm.bigL l := by
  induction l with
  | nil => cases h
  | cons g r ih => rcases List.mem_cons.1 h with rfl | h <;> simp only [Fm.bigL] <;> first | omega | (have := ih h; omega)
theorem big_pos (f : Fm) : 1 ≤ f.big := by cases f; simp only [Fm.big]; omega
theorem big_kids (f : Fm) : Fm.bigL f.l < f.big := by cases f; simp only [Fm.big, Fm.l]; omega
theorem length_le_big (l : List Fm) : l.length ≤ Fm.bigL l := by
  induction l with
  | nil => simp [Fm.bigL]
  | cons f r ih => simp only [Fm.bigL, List.length_cons]; have := big_pos f; omega
def cmpI (a b : Int) : Int := if a < b then -1 else if b < a then 1 else 0
def cmpS (a b : List UInt8) : Int := if Op.bytesLess a b = true then -1 else if a = b then 0 else 1
mutual
def cmpF : Fm → Fm → Int
  | .mk k n t l, g => if ¬ k = g.k then cmpI k g.k else if k = 0 then cmpI n g.n else if k = 1 ∨ k = 2 then cmpS t g.t else if k = 3 then cmpL l g.l else 0
def cmpL : List Fm → List Fm → Int
  | [], m => if m = [] then 0 else -1
  | f :: r, m => match m with
    | [] => 1
    | g :: m => if ¬ cmpF f g = 0 then cmpF f g else cmpL r m
end
theorem cmpL_drop {l m : List Fm} {i : Nat} (h : i < l.length) (h' : i < m.length) : cmpL (l.drop i) (m.drop i) = if ¬ cmpF l[i] m[i] = 0 then cmpF l[i] m[i] else cmpL (l.drop (i + 1)) (m.drop (i + 1)) := by
  rw [List.drop_eq_getElem_cons h, List.drop_eq_getElem_cons h']; simp only [cmpL]
/-- How three comparisons hang together: of a and b, of b and c, of a and c. -/
def Tri (x y z : Int) : Prop := (x ≤ 0 → y ≤ 0 → z ≤ 0) ∧ (x < 0 → y ≤ 0 → z < 0) ∧ (x ≤ 0 → y < 0 → z < 0) ∧ (x = 0 → z = y) ∧ (y = 0 → z = x)
theorem Tri.lex {x y z x' y' z' : Int} (h : Tri x y z) (h' : Tri x' y' z') : Tri (if ¬ x = 0 then x else x') (if ¬ y = 0 then y else y') (if ¬ z = 0 then z else z') := by
  unfold Tri at *
  split <;> split <;> split <;> omega
theorem cmpI_neg (a b : Int) : cmpI b a = - cmpI a b := by unfold cmpI; split <;> split <;> (try split) <;> omega
theorem cmpI_tri (a b c : Int) : Tri (cmpI a b) (cmpI b c) (cmpI a c) := by
  unfold cmpI Tri; split <;> split <;> split <;> (try split) <;> (try split) <;> (try split) <;> omega
theorem bytesLess_irrefl : ∀ a : List UInt8, Op.bytesLess a a = false
  | [] => rfl
  | a :: x => by simp [Op.bytesLess, bytesLess_irrefl x]
theorem u8lt_nat (a b : UInt8) : (a < b) = (a.toNat < b.toNat) := rfl
theorem u8eq_nat (a b : UInt8) : (a = b) ↔ (a.toNat = b.toNat) := ⟨fun h => by rw [h], fun h => UInt8.toNat_inj.1 h⟩
theorem cmpS_nil (b : List UInt8) : cmpS [] b = if b = [] then 0 else -1 := by
  cases b <;> simp [cmpS, Op.bytesLess]
theorem cmpS_nil' (b : List UInt8) : cmpS b [] = if b = [] then 0 else 1 := by
  cases b <;> simp [cmpS, Op.bytesLess]
theorem cmpS_cons (a b : UInt8) (x y : List UInt8) : cmpS (a :: x) (b :: y) = if ¬ cmpI a.toNat b.toNat = 0 then cmpI a.toNat b.toNat else cmpS x y := by
  unfold cmpS cmpI
  simp only [Op.bytesLess, Bool.or_eq_true, Bool.and_eq_true, decide_eq_true_eq, beq_iff_eq, List.cons.injEq, u8lt_nat, u8eq_nat]
  by_cases h1 : a.toNat < b.toNat
  · simp [h1]
  · by_cases h2 : b.toNat < a.toNat
    · have : ¬ a.toNat = b.toNat := by omega
      simp [h1, h2, this]
    · have e : a = b := UInt8.toNat_inj.1 (by omega)
      subst e
      simp
theorem cmpS_neg : ∀ a b : List UInt8, cmpS b a = - cmpS a b
  | [], b => by rw [cmpS_nil, cmpS_nil']; split <;> rfl
  | a :: x, [] => by rw [cmpS_nil, cmpS_nil']; rfl
  | a :: x, b :: y => by rw [cmpS_cons, cmpS_cons, cmpS_neg x y, cmpI_neg]; split <;> split <;> omega
theorem cmpS_tri : ∀ a b c : List UInt8, Tri (cmpS a b) (cmpS b c) (cmpS a c)
  | [], b, c => by
    rw [cmpS_nil, cmpS_nil]
    cases b with
    | nil => simp only [if_true, cmpS_nil]; unfold Tri; split <;> omega
    | cons b y => cases c with
      | nil => rw [cmpS_nil']; simp [Tri]
      | cons c z => simp [Tri]
  | a :: x, [], c => by
    rw [cmpS_nil, cmpS_nil']
    cases c <;> simp [Tri, cmpS_nil']
  | a :: x, b :: y, [] => by
    rw [cmpS_nil', cmpS_nil']; simp [Tri]
  | a :: x, b :: y, c :: z => by
    rw [cmpS_cons, cmpS_cons, cmpS_cons]
    exact (cmpI_tri _ _ _).lex (cmpS_tri x y z)

theorem cmpF_mk (k k' : Int) (n n' : Int) (t t' : List UInt8) (l l' : List Fm) : cmpF (.mk k n t l) (.mk k' n' t' l') = if k = k' then (if k = 0 then cmpI n n' else if k = 1 ∨ k = 2 then cmpS t t' else if k = 3 then cmpL l l' else 0) else cmpI k k' := by
  by_cases h : k = k'
  · subst h; simp [cmpF, Fm.k, Fm.n, Fm.t, Fm.l]
  · simp [cmpF, Fm.k, h]
theorem cmpL_neg_of : ∀ l m : List Fm, (∀ f ∈ l, ∀ g, cmpF g f = - cmpF f g) → cmpL m l = - cmpL l m
  | [], m, _ => by cases m <;> simp [cmpL]
  | f :: r, [], _ => by simp [cmpL]
  | f :: r, g :: m, h => by
    simp only [cmpL]
    rw [h f (by simp) g, cmpL_neg_of r m (fun f hf => h f (by simp [hf]))]
    split <;> split <;> omega
theorem cmpF_neg : ∀ f g : Fm, cmpF g f = - cmpF f g := Fm.ind fun k n t l ih g => by
  obtain ⟨k', n', t', l'⟩ := g
  rw [cmpF_mk, cmpF_mk]
  by_cases h : k = k'
  · subst h
    simp only [if_true]
    split
    · exact cmpI_neg _ _
    · split
      · exact cmpS_neg _ _
      · split
        · exact cmpL_neg_of l l' ih
        · rfl
  · rw [if_neg (show ¬ k' = k from fun e => h e.symm), if_neg h]; exact cmpI_neg _ _
theorem cmpL_tri_of : ∀ l m o : List Fm, (∀ f ∈ l, ∀ g h, Tri (cmpF f g) (cmpF g h) (cmpF f h)) → Tri (cmpL l m) (cmpL m o) (cmpL l o)
  | [], m, o, _ => by
    cases m with
    | nil => cases o <;> simp [cmpL, Tri]
    | cons g m => cases o with
      | nil => simp [cmpL, Tri]
      | cons h o => simp [cmpL, Tri]
  | f :: r, [], o, _ => by cases o <;> simp [cmpL, Tri]
  | f :: r, g :: m, [], _ => by simp [cmpL, Tri]
  | f :: r, g :: m, h :: o, ih => by
    simp only [cmpL]
    exact (ih f (by simp) g h).lex (cmpL_tri_of r m o (fun f hf => ih f (by simp [hf])))
theorem cmpI_ne {a b : Int} (h : ¬ a = b) : ¬ cmpI a b = 0 := by unfold cmpI; split <;> (try split) <;> omega
theorem cmpI_self (a : Int) : cmpI a a = 0 := by unfold cmpI; simp
theorem cmpF_tri : ∀ f g h : Fm, Tri (cmpF f g) (cmpF g h) (cmpF f h) := Fm.ind fun k n t l ih g h => by
  obtain ⟨k', n', t', l'⟩ := g
  obtain ⟨k'', n'', t'', l''⟩ := h
  have e : ∀ (k k' : Int) (n n' : Int) (t t' : List UInt8) (l l' : List Fm), cmpF (.mk k n t l) (.mk k' n' t' l') = if ¬ cmpI k k' = 0 then cmpI k k' else if k = 0 then cmpI n n' else if k = 1 ∨ k = 2 then cmpS t t' else if k = 3 then cmpL l l' else 0 := by
    intro k k' n n' t t' l l'
    rw [cmpF_mk]
    by_cases h : k = k'
    · subst h; simp [cmpI_self]
    · rw [if_neg h, if_pos (cmpI_ne h)]
  by_cases h1 : k = k'
  · by_cases h2 : k' = k''
    · subst h1; subst h2
      rw [e, e, e]
      refine (cmpI_tri _ _ _).lex ?_
      split
      · exact cmpI_tri _ _ _
      · split
        · exact cmpS_tri _ _ _
        · split
          · exact cmpL_tri_of l l' l'' ih
          · simp [Tri]
    · subst h1
      rw [e, e k k'', e k k'']
      have := cmpI_ne h2
      rw [if_pos this, if_pos this, cmpI_self, if_neg (by simp)]
      unfold Tri
      omega
  · have t := cmpI_tri k k' k''
    have := cmpI_ne h1
    by_cases h2 : k' = k''
    · subst h2
      rw [e, e k' k', e k k', if_pos this, cmpI_self, if_neg (by simp)]
      unfold Tri
      omega
    · have h3 := cmpI_ne h2
      rw [e, e k' k'', e k k'', if_pos this, if_pos h3]
      unfold Tri at *
      split
      · omega
      · rename_i h4
        have : cmpI k k'' = 0 := Classical.not_not.1 h4
        omega
theorem cmpL_self_of : ∀ l : List Fm, (∀ f ∈ l, cmpF f f = 0) → cmpL l l = 0
  | [], _ => by simp [cmpL]
  | f :: r, h => by simp only [cmpL, h f (by simp)]; simpa using cmpL_self_of r (fun f hf => h f (by simp [hf]))
theorem cmpS_self (a : List UInt8) : cmpS a a = 0 := by simp [cmpS, bytesLess_irrefl]
theorem cmpF_self : ∀ f : Fm, cmpF f f = 0 := Fm.ind fun k n t l ih => by
  rw [cmpF_mk, if_pos rfl]
  split
  · exact cmpI_self _
  · split
    · exact cmpS_self _
    · split
      · exact cmpL_self_of l ih
      · rfl
theorem cmpF_trans {f g h : Fm} (h1 : cmpF f g < 0) (h2 : cmpF g h < 0) : cmpF f h < 0 := (cmpF_tri f g h).2.1 h1 (Int.le_of_lt h2)
theorem cmpF_eq_l {f g : Fm} (h : cmpF f g = 0) (o : Fm) : cmpF f o = cmpF g o := (cmpF_tri f g o).2.2.2.1 h
theorem cmpF_eq_r {f g : Fm} (h : cmpF f g = 0) (o : Fm) : cmpF o f = cmpF o g := by
  rw [cmpF_neg f o, cmpF_neg g o, cmpF_eq_l h]
theorem cmpF_lt_gt {f g : Fm} : 0 < cmpF f g ↔ cmpF g f < 0 := by rw [cmpF_neg f g]; omega


/-! ### Functions with a bound on their depth: what they come to, if it is something -/
def Up {R : Type} (N : Prop) (o : Option R) (v : R) : Prop := o = some v ∨ (o = none ∧ N)
theorem Up.mono {R : Type} {N N' : Prop} {o : Option R} {v : R} (h : Up N o v) (k : N → N') : Up N' o v := h.imp id fun h => ⟨h.1, k h.2⟩
theorem Up.of {R : Type} {N : Prop} {o : Option R} {v : R} (h : o = some v) : Up N o v := .inl h
theorem Up.bind {R S : Type} {N : Prop} {o : Option R} {v : R} {F : R → Option S} {u : S} (h : Up N o v) (k : Up N (F v) u) : Up N (Option.bind o F) u := by
  rcases h with h | ⟨h, n⟩
  · rw [h]; exact k
  · exact .inr ⟨by rw [h]; rfl, n⟩
theorem limF_up {R : Type} {f : Nat → Option R} {v : R} {b : Nat} (h : ∀ k, Up (k < b) (f k) v) : limF f = some v := by
  refine limF_eq ⟨b, ?_⟩ fun k r hr => ?_
  · rcases h b with h | ⟨_, h⟩
    · exact h
    · omega
  · rcases h k with h | ⟨h, _⟩
    · rw [h] at hr; cases hr; rfl
    · rw [h] at hr; cases hr
theorem loopM_none {L R : Type} {b : L → Option (Step L R)} {l : L} (h : b l = none) : loopM b l = none := by
  cases hx : loopM b l with
  | none => rfl
  | some r =>
    obtain ⟨d, hd⟩ := loopM_iff.1 hx
    cases d with
    | zero => cases hd
    | succ d => simp only [iterM, h] at hd; cases hd
/-- A loop over indices. -/
theorem loop_ix {L R A : Type} {N : Prop} {b : L → Option (Step L R)} {F : R → Option A} (st : Nat → L) (res : Nat → A) (n : Nat)
    (hstep : ∀ i, i < n → (b (st i) = some (.next (st (i + 1))) ∧ res i = res (i + 1)) ∨ (∃ r, b (st i) = some (.done r) ∧ Up N (F r) (res i)) ∨ (b (st i) = none ∧ N))
    (hend : ∃ r, b (st n) = some (.done r) ∧ Up N (F r) (res n)) : Up N (Option.bind (loopM b (st 0)) F) (res 0) := by
  have key : ∀ j i, i + j = n → Up N (Option.bind (loopM b (st i)) F) (res i) := by
    intro j
    induction j with
    | zero =>
      intro i hi
      obtain rfl : i = n := by omega
      obtain ⟨r, h1, h2⟩ := hend
      rw [loopM_done h1]; exact h2
    | succ j ih =>
      intro i hi
      rcases hstep i (by omega) with ⟨h1, h2⟩ | ⟨r, h1, h2⟩ | ⟨h1, h2⟩
      · rw [loopM_next h1, h2]; exact ih (i + 1) (by omega)
      · rw [loopM_done h1]; exact h2
      · rw [loopM_none h1]; exact .inr ⟨rfl, h2⟩
  exact key n 0 (by omega)
theorem wrapN {i : Nat} (h : i < 4611686018427387904) : IntKind.wrap .i64 ((i : Int) + 1) = ((i + 1 : Nat) : Int) := by
  rw [w64 (by omega) (by omega)]; rfl
theorem getD_in {α : Type} {l : List α} {i : Nat} (h : i < l.length) (d : α) : l.getD i d = l[i] := by simp [h]

/-! ### The functions -/
theorem cmpi_val (a b : Int) : G_cmpi a b = some (cmpI a b) := by
  unfold G_cmpi G_isNaNi cmpI
  by_cases h : a < b
  · simp [h]
  · by_cases h' : b < a
    · have : a > b := h'
      simp [h, this]
    · have : ¬ a > b := h'
      simp [h, this]
theorem cmps_val (a b : List UInt8) : G_cmps a b = some (cmpS a b) := by
  unfold G_cmps G_isNaNs cmpS
  by_cases h : Op.bytesLess a b = true
  · simp [h]
  · by_cases h' : a = b
    · subst h'; simp [bytesLess_irrefl]
    · simp [h, h']
theorem sign_val (x y : Bool) : G_sign x y = some (if x = true then -1 else if y = true then 1 else 0) := by
  unfold G_sign; cases x <;> cases y <;> rfl
theorem compare_step (k : Nat) (hF : ∀ l m : List Fm, Fm.bigL l ≤ 4611686018427387000 → Up (k < 1 + 2 * Fm.bigL l) (G_compareFunc k l m ()) (cmpL l m)) (f g : Fm) (hb : f.big ≤ 4611686018427387000) : Up (k + 1 < 2 * f.big) (G_compare (k + 1) f g) (cmpF f g) := by
  obtain ⟨a, n, t, l⟩ := f
  obtain ⟨a', n', t', l'⟩ := g
  have hk := big_kids (.mk a n t l)
  simp only [Fm.l] at hk
  rw [cmpF_mk]
  unfold G_compare
  simp only [Fm.k, Fm.n, Fm.t, Fm.l, cmpi_val, cmps_val, Option.bind_some]
  by_cases h : a = a'
  · subst h
    simp only [decide_true, Bool.not_true, cond_false, if_true]
    by_cases h0 : a = 0
    · simp only [h0, decide_true, cond_true, if_true]; exact .of rfl
    · simp only [h0, decide_false, cond_false, if_false]
      by_cases h1 : a = 1
      · simp only [h1, decide_true, cond_true, Option.bind_some, true_or, if_true]; exact .of rfl
      · simp only [h1, decide_false, cond_false, Option.bind_some, false_or]
        by_cases h2 : a = 2
        · simp only [h2, decide_true, cond_true, if_true]; exact .of rfl
        · simp only [h2, decide_false, cond_false, if_false]
          by_cases h3 : a = 3
          · subst h3
            simp only [decide_true, cond_true, if_true]
            refine ((hF l l' (by omega)).mono fun h => by omega).bind (.of rfl)
          · simp only [h3, decide_false, cond_false, if_false]; exact .of rfl
  · simp only [h, decide_false, Bool.not_false, cond_true, if_false]; exact .of rfl
theorem compareFunc_step (k : Nat) (hF : ∀ f g : Fm, f.big ≤ 4611686018427387000 → Up (k < 2 * f.big) (G_compare k f g) (cmpF f g)) (l m : List Fm) (hb : Fm.bigL l ≤ 4611686018427387000) : Up (k + 1 < 1 + 2 * Fm.bigL l) (G_compareFunc (k + 1) l m ()) (cmpL l m) := by
  have hl := length_le_big l
  unfold G_compareFunc
  refine loop_ix (fun i => ((l, m, (), l, (l.length : Int), (i : Int), ()), ())) (fun i => cmpL (l.drop i) (m.drop i)) (min l.length m.length) (fun i hi => ?_) ?_
  · have h1 : i < l.length := by omega
    have h2 : i < m.length := by omega
    have e1 : decide ((i : Int) < (l.length : Int)) = true := by simp [h1]
    have e2 : ixOK (i : Int) l.length = true := ixOK_iff.2 (by omega)
    have e3 : decide ((i : Int) ≥ (m.length : Int)) = false := by simp [h2]
    have e4 : ixOK (i : Int) m.length = true := ixOK_iff.2 (by omega)
    simp only [e1, e2, e3, e4, cond_true, cond_false, Int.toNat_natCast, getD_in h1, getD_in h2, Fm.eta_eq, wrapN (show i < 4611686018427387904 by omega), cmpL_drop h1 h2]
    have hm := big_mem (List.getElem_mem h1)
    rcases hF l[i] m[i] (by omega) with h | ⟨h, hn⟩
    · rw [h]
      by_cases hc : cmpF l[i] m[i] = 0
      · refine .inl ⟨by simp [hc], by simp [hc]⟩
      · refine .inr (.inl ⟨.done (cmpF l[i] m[i]), by simp [hc], .of (by simp [hc])⟩)
    · rw [h]
      exact .inr (.inr ⟨rfl, by omega⟩)
  · by_cases hlm : l.length ≤ m.length
    · rw [Nat.min_eq_left hlm]
      refine ⟨.next ((l, m, ()), ()), by simp, .of ?_⟩
      simp only [List.drop_length, cmpL]
      by_cases hd : m.drop l.length = []
      · have := List.drop_eq_nil_iff.1 hd
        have e : ¬ ((l.length : Int) < (m.length : Int)) := by omega
        simp [hd, e]
      · have : ¬ m.length ≤ l.length := fun h => hd (List.drop_eq_nil_iff.2 h)
        have e : (l.length : Int) < (m.length : Int) := by omega
        simp [hd, e]
    · have h1 : m.length < l.length := by omega
      rw [Nat.min_eq_right (by omega)]
      have e2 : ixOK (m.length : Int) l.length = true := ixOK_iff.2 (by omega)
      have e1 : decide ((m.length : Int) < (l.length : Int)) = true := by simp; omega
      refine ⟨.done 1, by simp [e2, h1], .of ?_⟩
      simp only [List.drop_length]
      rw [List.drop_eq_getElem_cons h1]
      simp [cmpL]
theorem compare_up : ∀ k, (∀ f g : Fm, f.big ≤ 4611686018427387000 → Up (k < 2 * f.big) (G_compare k f g) (cmpF f g)) ∧ (∀ l m : List Fm, Fm.bigL l ≤ 4611686018427387000 → Up (k < 1 + 2 * Fm.bigL l) (G_compareFunc k l m ()) (cmpL l m))
  | 0 => ⟨fun f g hb => .inr ⟨by unfold G_compare; rfl, by have := big_pos f; omega⟩, fun l m hb => .inr ⟨by unfold G_compareFunc; rfl, by omega⟩⟩
  | k + 1 => ⟨compare_step k (compare_up k).2, compareFunc_step k (compare_up k).1⟩
theorem compare_val {f g : Fm} (hb : f.big ≤ 4611686018427387000) : L_compare f g = some (cmpF f g) := limF_up (b := 2 * f.big) fun k => (compare_up k).1 f g hb
end Go.Ab

/-
  THE BOUNDARY: what an argument of a plain type reads as is plain data.
-/
set_option linter.unusedVariables false
set_option linter.unusedSimpArgs false
set_option maxRecDepth 100000
namespace Go.Ab
open Go Go.RowKit Go.Proofs

/-- All that the cells of a world hold. -/
def knW (W : World) : Kn := fun b o => W.cell? ⟨b, o, none⟩
theorem knOK_W (W : World) : KnOK CX (knW W) W := ⟨fun _ _ _ h => h, fun g => .any _⟩

/-! ### Types of plain data -/
def bigE : (e : E) → e.den → Nat
  | .str, (l : List UInt8) => l.length
  | .form, (f : Fm) => f.big
  | .pr a b, x => bigE a x.1 + bigE b x.2
  | .slice e, (l : List e.den) => (l.map fun x => max 1 (bigE e x)).sum
  | _, _ => 0
def wfE : (e : E) → e.den → Prop
  | .int .i64, (n : Int) => -9223372036854775808 ≤ n ∧ n ≤ 9223372036854775807
  | .pr a b, x => wfE a x.1 ∧ wfE b x.2
  | .slice e, (l : List e.den) => ∀ x ∈ l, wfE e x
  | _, _ => True
def isI64 (P : Program) (t : TypeId) : Bool := match P.underlying t with
  | some (.int .i64) => Nat.beq (P.cellsOf t) 1
  | _ => false
def isStr (P : Program) (t : TypeId) : Bool := match P.underlying t with
  | some .string => Nat.beq (P.cellsOf t) 1
  | _ => false
def isSl (P : Program) (t e : TypeId) : Bool := match P.underlying t with
  | some (.slice e') => Nat.beq e' e && Nat.beq (P.cellsOf t) 1
  | _ => false
def kFs (r : TypeId → E → Bool) (P : Program) : List Field → Nat → E → Bool
  | [], _, .un => true
  | [f], o, e => Nat.beq f.offset o && (Nat.beq (P.cellsOf f.type) e.size && r f.type e)
  | f :: fs, o, .pr a b => Nat.beq f.offset o && (Nat.beq (P.cellsOf f.type) a.size && (r f.type a && kFs r P fs (o + a.size) b))
  | _, _, _ => false
def isForm (P : Program) (t : TypeId) : Bool := match P.underlying t with
  | some (.struct fs) => match fs.toList with
    | [a, b, c, d] => (Nat.beq a.offset 0 && (Nat.beq b.offset 1 && (Nat.beq c.offset 2 && Nat.beq d.offset 3))) && ((isI64 P a.type && isI64 P b.type) && (isStr P c.type && (isSl P d.type t && Nat.beq (P.cellsOf t) 4)))
    | _ => false
  | _ => false
def kOK (P : Program) : Nat → TypeId → E → Bool
  | 0, _, _ => false
  | n + 1, t, e => match e with
    | .int .i64 => isI64 P t
    | .str => isStr P t
    | .bool => match P.underlying t with
      | some .bool => true
      | _ => false
    | .form => isForm P t
    | .slice e => match P.underlying t with
      | some (.slice t') => kOK P n t' e && (Nat.beq (P.cellsOf t') e.size && Nat.blt 0 e.size)
      | _ => false
    | e => match P.underlying t with
      | some (.struct fs) => Nat.beq (P.cellsOf t) e.size && kFs (kOK P n) P fs.toList 0 e
      | _ => false

/-- What is asked of a measure of readings. -/
structure Bulk {H : Type} (bulk : DataW H → Nat) (bulkAll : List (DataW H) → Nat) : Prop where
  hs : ∀ l, bulk (.lit (.string l)) = l.length + 1
  hsl : ∀ l r, bulkAll l ≤ bulk (.slice l r)
  hag : ∀ l, bulk (.agg l) = bulkAll l + 1
  hp : ∀ d, 1 ≤ bulk d
  h0 : bulkAll [] = 0
  h1 : ∀ d l, bulkAll (d :: l) = bulk d + bulkAll l

section
variable {H : Type} {enc : TypeId × Value → H} {W : World} {sp : Nat → Bool} {f : Nat} {cs : List Value} {d : DataW H} {ps : List MemPlace} {P : Program}
theorem mapM_get {α β : Type} {g : α → Option β} : ∀ {l : List α} {r : List β}, l.mapM g = some r → r.length = l.length ∧ ∀ (i : Nat) (x : α), l[i]? = some x → ∃ y, r[i]? = some y ∧ g x = some y
  | [], r, h => by
    simp at h
    subst h
    exact ⟨rfl, fun i x h => by simp at h⟩
  | a :: l, r, h => by
    simp only [List.mapM_cons, Option.bind_eq_bind, Option.bind_eq_some_iff] at h
    obtain ⟨b, h1, r', h2, h3⟩ := h
    cases h3
    obtain ⟨q1, q2⟩ := mapM_get h2
    refine ⟨by simp [q1], fun i x hx => ?_⟩
    cases i with
    | zero => simp at hx; subst hx; exact ⟨b, rfl, h1⟩
    | succ i => simpa using q2 i x (by simpa using hx)
theorem cells?_get {a : Addr} {n : Nat} {cs : List Value} (h : W.cells? 0 a n = some cs) : cs.length = n ∧ ∀ i, i < n → ∃ v, cs[i]? = some v ∧ W.cell? (a.add i) = some v := by
  unfold World.cells? at h
  rw [if_pos (Nat.zero_le _)] at h
  obtain ⟨h1, h2⟩ := mapM_get h
  refine ⟨by simpa using h1, fun i hi => ?_⟩
  obtain ⟨v, a1, a2⟩ := h2 i i (by simp [hi])
  exact ⟨v, a1, a2⟩
theorem addr_none {a : Addr} {v : Value} (h : W.cell? a = some v) : a = ⟨a.block, a.off, none⟩ := by
  obtain ⟨b, o, s⟩ := a
  cases s with
  | none => rfl
  | some k =>
    unfold World.cell? at h
    simp at h
    split at h <;> cases h
theorem bulk_mem {bulk : DataW H → Nat} {bulkAll : List (DataW H) → Nat} (h1 : ∀ d l, bulkAll (d :: l) = bulk d + bulkAll l) : ∀ (ds : List (DataW H)) (i : Nat) (d : DataW H), ds[i]? = some d → bulk d ≤ bulkAll ds
  | [], i, d, h => by simp at h
  | x :: ds, 0, d, h => by simp at h; subst h; rw [h1]; omega
  | x :: ds, i + 1, d, h => by have := bulk_mem h1 ds i d (by simpa using h); rw [h1]; omega
theorem bulk_length {bulk : DataW H → Nat} {bulkAll : List (DataW H) → Nat} (hp : ∀ d, 1 ≤ bulk d) (h1 : ∀ d l, bulkAll (d :: l) = bulk d + bulkAll l) : ∀ (ds : List (DataW H)), ds.length ≤ bulkAll ds
  | [] => Nat.zero_le _
  | x :: ds => by have a := bulk_length hp h1 ds; have b := hp x; rw [h1, List.length_cons]; omega
theorem sum_le {α : Type} {bulk : DataW H → Nat} {bulkAll : List (DataW H) → Nat} (h1 : ∀ d l, bulkAll (d :: l) = bulk d + bulkAll l) (hp : ∀ d, 1 ≤ bulk d) (g : α → Nat) : ∀ (l : List α) (ds : List (DataW H)), l.length = ds.length → (∀ (i : Nat) (x : α) (d : DataW H), l[i]? = some x → ds[i]? = some d → g x ≤ bulk d) → (l.map fun x => max 1 (g x)).sum ≤ bulkAll ds
  | [], ds, hl, h => by simp
  | x :: l, [], hl, h => by simp at hl
  | x :: l, d :: ds, hl, h => by
    simp only [List.map_cons, List.sum_cons, h1]
    have a1 := h 0 x d rfl rfl
    have a2 := sum_le h1 hp g l ds (by simpa using hl) (fun i x d a b => h (i + 1) x d (by simpa using a) (by simpa using b))
    have a3 := hp d
    omega
/-- What is there one by one makes a list. -/
theorem list_of {α : Type} {Q : Nat → α → Prop} : ∀ (n : Nat), (∀ i, i < n → ∃ x, Q i x) → ∃ l : List α, l.length = n ∧ ∀ (i : Nat) (x : α), l[i]? = some x → Q i x
  | 0, _ => ⟨[], rfl, fun i x h => by simp at h⟩
  | n + 1, h => by
    obtain ⟨l, h1, h2⟩ := list_of n (fun i hi => h i (by omega))
    obtain ⟨x, hx⟩ := h n (by omega)
    refine ⟨l ++ [x], by simp [h1], fun i y hy => ?_⟩
    rcases Nat.lt_or_ge i n with hi | hi
    · rw [List.getElem?_append_left (by omega)] at hy; exact h2 i y hy
    · rw [List.getElem?_append_right (by omega)] at hy
      have : i = n := by
        have := (List.getElem?_eq_some_iff.1 hy).1
        simp at this; omega
      subst this
      simp [h1] at hy
      subst hy
      exact hx
/-- Rows that lie one behind the other make a slice. -/
theorem rel_vec {sz : Nat} (hsz : 0 < sz) {rows : List (List AV)} {a : Addr} {len cap : Nat} (hl : rows.length = len) (hle : len ≤ cap) (h62 : len ≤ 4611686018427387904) (hr : ∀ (i : Nat) (row : List AV), rows[i]? = some row → row.length = sz ∧ ∃ rowv, W.cells? 0 (a.add (i * sz)) sz = some rowv ∧ RelC (knW W) m0 row rowv) :
    Rel (knW W) m0 (.vec sz rows) (.slice (some a) len cap) := by
  cases rows with
  | nil => simp at hl; subst hl; exact .vecNil _ _ _
  | cons r0 rows =>
    obtain ⟨_, rowv0, b0, c0⟩ := hr 0 r0 rfl
    obtain ⟨_, hc0⟩ := cells?_get b0
    obtain ⟨v0, _, hv0⟩ := hc0 0 hsz
    simp [Addr.add] at hv0
    have ha := addr_none hv0
    generalize a.block = b at ha
    generalize a.off = o at ha
    subst ha
    have hcell : ∀ (i : Nat) (row : List AV) (j : Nat) (x : AV), (r0 :: rows)[i]? = some row → row[j]? = some x → ∃ v, W.cell? ⟨b, o + i * sz + j, none⟩ = some v ∧ Rel (knW W) m0 x v ∧ v.oneCell' = true := by
      intro i row j x hrow hx
      obtain ⟨hrl0, rowv, bi, ci⟩ := hr i row hrow
      obtain ⟨hrl, hci⟩ := cells?_get bi
      have hj : j < sz := by have := (List.getElem?_eq_some_iff.1 hx).1; omega
      obtain ⟨v, hv1, hv2⟩ := hci j hj
      rw [add_mk, add_mk] at hv2
      exact ⟨v, hv2, ci.1.2 j x v hx hv1, ci.2 v (List.mem_of_getElem? hv1)⟩
    have := Rel.vec (kn := knW W) (m := m0) sz (r0 :: rows) b o cap (fun i j => (W.cell? ⟨b, o + i * sz + j, none⟩).getD undef) (by omega) (by rw [hl]; omega)
      (fun i row hrow => (hr i row hrow).1)
      (fun i row j x hrow hx => by
        obtain ⟨v, h1, _⟩ := hcell i row j x hrow hx
        show W.cell? _ = _
        rw [h1]; rfl)
      (fun i row j x hrow hx => by
        obtain ⟨v, h1, h2, _⟩ := hcell i row j x hrow hx
        simp only [h1, Option.getD_some]; exact h2)
      (fun i row j x hrow hx => by
        obtain ⟨v, h1, _, h3⟩ := hcell i row j x hrow hx
        simp only [h1, Option.getD_some]; exact h3)
    rw [hl] at this
    exact this
theorem trod_i64 {t : TypeId} (hk : isI64 P t = true) (h : DataW.trod enc P W 0 sp true f t cs = some (d, ps)) : ∃ n, cs = [.int .i64 n] ∧ d = .lit (.int .i64 n) ∧ -9223372036854775808 ≤ n ∧ n ≤ 9223372036854775807 := by
  cases f with
  | zero => unfold DataW.trod at h; cases h
  | succ f =>
    unfold isI64 at hk
    split at hk
    · rename_i hu
      unfold DataW.trod at h
      rw [hu] at h
      split at h <;> try (simp_all; done)
      rename_i k k' n hcs
      cases hcs
      split at h
      · rename_i hw
        obtain ⟨rfl, hw⟩ := hw
        cases h
        simp only [Lit.wf, Bool.and_eq_true, decide_eq_true_eq] at hw
        exact ⟨n, rfl, rfl, hw.1, hw.2⟩
      · cases h
    · cases hk
theorem trod_str {t : TypeId} (hk : isStr P t = true) (h : DataW.trod enc P W 0 sp true f t cs = some (d, ps)) : ∃ s, cs = [.string s] ∧ d = .lit (.string s.data.toList) := by
  cases f with
  | zero => unfold DataW.trod at h; cases h
  | succ f =>
    unfold isStr at hk
    split at hk
    · rename_i hu
      unfold DataW.trod at h
      rw [hu] at h
      split at h <;> simp_all
    · cases hk
theorem trod_slice {t e : TypeId} (hu : P.underlying t = some (.slice e)) (h : DataW.trod enc P W 0 sp true (f + 1) t cs = some (d, ps)) : (cs = [.slice none 0 0] ∧ d = .nil) ∨
    ∃ a len cap elems rest, cs = [.slice (some a) len cap] ∧ len ≤ cap ∧ cap ≤ maxLen ∧ d = .slice (elems.map (·.1)) rest ∧
      (List.range len).mapM (fun i => (W.cells? 0 (a.add (i * P.cellsOf e)) (P.cellsOf e)).bind (DataW.trod enc P W 0 sp true f e)) = some elems := by
  unfold DataW.trod at h
  rw [hu] at h
  split at h <;> try (simp_all; done)
  rename_i e' a len cap he
  cases he
  refine .inr ?_
  dsimp only at h
  split at h
  · rename_i hc
    cases he : (List.range len).mapM (fun i => (W.cells? 0 (a.add (i * P.cellsOf e)) (P.cellsOf e)).bind (DataW.trod enc P W 0 sp true f e)) with
    | none => rw [he] at h; cases h
    | some elems =>
      rw [he] at h
      simp only [Option.bind_some] at h
      rw [Option.map_eq_some_iff] at h
      obtain ⟨rest, _, h2⟩ := h
      simp only [Prod.mk.injEq] at h2
      exact ⟨a, len, cap, elems, _, rfl, hc.2.1, hc.2.2, h2.1.symm, he⟩
  · cases h
variable {bulk : DataW H → Nat} {bulkAll : List (DataW H) → Nat}
/-- A slice of what can be read. -/
theorem read_slice (B : Bulk bulk bulkAll) {α : Type} {t e : TypeId} {sz : Nat} (hsz : 0 < sz) (hce : P.cellsOf e = sz) (row : α → List AV) (hrow : ∀ x, (row x).length = sz) (big : α → Nat) (wf : α → Prop) (hu : P.underlying t = some (.slice e))
    (ih : ∀ cs d ps, DataW.trod enc P W 0 sp true f e cs = some (d, ps) → bulk d ≤ 4611686018427387904 → ∃ x : α, RelC (knW W) m0 (row x) cs ∧ big x ≤ bulk d ∧ wf x)
    (h : DataW.trod enc P W 0 sp true (f + 1) t cs = some (d, ps)) (hb : bulk d ≤ 4611686018427387904) : ∃ l : List α, RelC (knW W) m0 [.vec sz (l.map row)] cs ∧ (l.map fun x => max 1 (big x)).sum ≤ bulk d ∧ ∀ x ∈ l, wf x := by
  rcases trod_slice hu h with ⟨rfl, rfl⟩ | ⟨a, len, cap, elems, rest, rfl, hle, hmx, rfl, hm⟩
  · refine ⟨[], ⟨.cons (.vecNone _) (.nil _ _), fun v hv => ?_⟩, by simp, fun x hx => by cases hx⟩
    simp at hv; subst hv; rfl
  · obtain ⟨m1, m2⟩ := mapM_get hm
    simp only [List.length_range] at m1
    have hbs := B.hsl (elems.map (·.1)) rest
    have hbl := bulk_length B.hp B.h1 (elems.map (·.1))
    rw [List.length_map, m1] at hbl
    have each : ∀ i, i < len → ∃ x : α, ∃ rowv : List Value, ∃ y, elems[i]? = some y ∧ W.cells? 0 (a.add (i * sz)) sz = some rowv ∧ RelC (knW W) m0 (row x) rowv ∧ big x ≤ bulk y.1 ∧ wf x := by
      intro i hi
      obtain ⟨y, a1, a2⟩ := m2 i i (by simp [hi])
      simp only [hce, Option.bind_eq_some_iff] at a2
      obtain ⟨rowv, b1, b2⟩ := a2
      have hby := bulk_mem B.h1 (elems.map (·.1)) i y.1 (by rw [List.getElem?_map, a1]; rfl)
      obtain ⟨x, c1, c2, c3⟩ := ih rowv y.1 y.2 b2 (by omega)
      exact ⟨x, rowv, y, a1, b1, c1, c2, c3⟩
    obtain ⟨l, l1, l2⟩ := list_of len each
    refine ⟨l, ⟨.cons ?_ (.nil _ _), fun v hv => by simp at hv; subst hv; rfl⟩, ?_, fun x hx => ?_⟩
    · refine rel_vec hsz (by simpa using l1) hle (by omega) fun i r hr => ?_
      rw [List.getElem?_map, Option.map_eq_some_iff] at hr
      obtain ⟨x, hx, rfl⟩ := hr
      obtain ⟨rowv, y, _, b1, c1, _⟩ := l2 i x hx
      exact ⟨hrow x, rowv, b1, c1⟩
    · have := sum_le B.h1 B.hp big l (elems.map (·.1)) (by simp [l1, m1]) (fun i x d hx hd => by
        obtain ⟨rowv, y, a1, _, _, c2, _⟩ := l2 i x hx
        rw [List.getElem?_map, a1] at hd
        simp at hd
        subst hd
        exact c2)
      omega
    · obtain ⟨i, hi⟩ := List.getElem?_of_mem hx
      obtain ⟨_, _, _, _, _, _, c3⟩ := l2 i x hi
      exact c3
theorem bigL_sum (l : List Fm) : (l.map fun x => max 1 x.big).sum = Fm.bigL l := by
  induction l with
  | nil => rfl
  | cons f r ih => simp only [List.map_cons, List.sum_cons, Fm.bigL, ih]; have := big_pos f; omega
/-- What reads as a form is one. -/
theorem form_read (B : Bulk bulk bulkAll) {t : TypeId} (hk : isForm P t = true) : ∀ (f : Nat) (cs : List Value) (d : DataW H) (ps : List MemPlace), DataW.trod enc P W 0 sp true f t cs = some (d, ps) → bulk d ≤ 4611686018427387904 →
    ∃ x : Fm, RelC (knW W) m0 x.row cs ∧ x.big ≤ bulk d := by
  intro f
  induction f using Nat.strongRecOn with
  | _ f ih =>
  intro cs d ps h hbd
  cases f with
  | zero => unfold DataW.trod at h; cases h
  | succ f =>
  have hk' := hk
  unfold isForm at hk
  split at hk
  · rename_i fs hu
    split at hk
    · rename_i f0 f1 f2 f3 hfs
      simp only [Bool.and_eq_true] at hk
      obtain ⟨⟨o0, o1, o2, o3⟩, ⟨k0, k1⟩, k2, k3, hc⟩ := hk
      have o0 := Nat.eq_of_beq_eq_true o0
      have o1 := Nat.eq_of_beq_eq_true o1
      have o2 := Nat.eq_of_beq_eq_true o2
      have o3 := Nat.eq_of_beq_eq_true o3
      have hc := Nat.eq_of_beq_eq_true hc
      have c1 : ∀ {u : TypeId}, isI64 P u = true → P.cellsOf u = 1 := fun {u} h => by
        unfold isI64 at h
        split at h
        · exact Nat.eq_of_beq_eq_true h
        · cases h
      have c2 : ∀ {u : TypeId}, isStr P u = true → P.cellsOf u = 1 := fun {u} h => by
        unfold isStr at h
        split at h
        · exact Nat.eq_of_beq_eq_true h
        · cases h
      obtain ⟨hu3, c3⟩ : P.underlying f3.type = some (.slice t) ∧ P.cellsOf f3.type = 1 := by
        unfold isSl at k3
        split at k3
        · rename_i e' he
          rw [Bool.and_eq_true] at k3
          rw [Nat.eq_of_beq_eq_true k3.1] at he
          exact ⟨he, Nat.eq_of_beq_eq_true k3.2⟩
        · cases k3
      unfold DataW.trod at h
      rw [hu] at h
      simp only [hc, hfs] at h
      split at h
      · rename_i hlen
        rw [Option.map_eq_some_iff] at h
        obtain ⟨r, hr, hd⟩ := h
        obtain ⟨q1, q2⟩ := mapM_get hr
        rcases cs with _ | ⟨c0, _ | ⟨cc1, _ | ⟨cc2, _ | ⟨cc3, _ | ⟨c4, cs⟩⟩⟩⟩⟩ <;> simp at hlen
        rcases r with _ | ⟨y0, _ | ⟨y1, _ | ⟨y2, _ | ⟨y3, _ | ⟨y4, r⟩⟩⟩⟩⟩ <;> simp at q1
        obtain ⟨z0, e0, g0⟩ := q2 0 f0 rfl
        obtain ⟨z1, e1, g1⟩ := q2 1 f1 rfl
        obtain ⟨z2, e2, g2⟩ := q2 2 f2 rfl
        obtain ⟨z3, e3, g3⟩ := q2 3 f3 rfl
        simp at e0 e1 e2 e3
        subst e0; subst e1; subst e2; subst e3
        rw [o0, c1 k0] at g0
        rw [o1, c1 k1] at g1
        rw [o2, c2 k2] at g2
        rw [o3, c3] at g3
        simp at g0 g1 g2 g3
        obtain ⟨d0, p0⟩ := y0
        obtain ⟨d1, p1⟩ := y1
        obtain ⟨d2, p2⟩ := y2
        obtain ⟨d3, p3⟩ := y3
        obtain ⟨k, hk0, rfl, -, -⟩ := trod_i64 k0 g0
        obtain ⟨n, hn', rfl, -, -⟩ := trod_i64 k1 g1
        obtain ⟨s, hs, rfl⟩ := trod_str k2 g2
        simp only [List.cons.injEq, and_true] at hk0 hn' hs
        subst hk0; subst hn'; subst hs
        simp only [Prod.mk.injEq] at hd
        obtain ⟨rfl, -⟩ := hd
        simp only [List.map_cons, List.map_nil, B.hag, B.h1, B.h0, B.hs] at hbd ⊢
        cases f with
        | zero => unfold DataW.trod at g3; cases g3
        | succ f =>
        obtain ⟨l, hl, hlb, -⟩ := read_slice B (sz := 4) (by omega) hc Fm.row Fm.row_len Fm.big (fun _ => True) hu3 (fun cs d ps hh hb => by
          obtain ⟨x, h1, h2⟩ := ih f (by omega) cs d ps hh hb
          exact ⟨x, h1, h2, trivial⟩) g3 (by omega)
        rw [bigL_sum] at hlb
        have hstr : Rel (knW W) m0 (.str s.data.toList) (.string s) := by
          have := Rel.str (kn := knW W) (m := m0) s.data.toList
          simpa using this
        refine ⟨.mk k n s.data.toList l, ⟨?_, ?_⟩, by simp only [Fm.big]; omega⟩
        · simp only [Fm.row, Fm.rows_map]
          exact .cons (.int _ _) (.cons (.int _ _) (.cons hstr hl.1))
        · intro v hv
          simp at hv
          rcases hv with rfl | rfl | rfl | rfl
          · rfl
          · rfl
          · rfl
          · exact hl.2 _ (by simp)
      · cases h
    · cases hk
  · cases hk
/-- What reads as a struct's fields. -/
theorem read_fields (B : Bulk bulk bulkAll) {r : TypeId → E → Bool} (ih : ∀ (t : TypeId) (e : E) cs d ps, r t e = true → DataW.trod enc P W 0 sp true f t cs = some (d, ps) → bulk d ≤ 4611686018427387904 → ∃ x : e.den, RelC (knW W) m0 (e.row x) cs ∧ bigE e x ≤ bulk d ∧ wfE e x) :
    ∀ (fs : List Field) (o : Nat) (e : E) (cs : List Value) (ys : List (DataW H × List MemPlace)), kFs r P fs o e = true → cs.length = o + e.size → fs.mapM (fun g => DataW.trod enc P W 0 sp true f g.type ((cs.drop g.offset).take (P.cellsOf g.type))) = some ys → bulkAll (ys.map (·.1)) ≤ 4611686018427387904 →
      ∃ x : e.den, RelC (knW W) m0 (e.row x) (cs.drop o) ∧ bigE e x ≤ bulkAll (ys.map (·.1)) ∧ wfE e x := by
  intro fs
  induction fs with
  | nil =>
    intro o e cs ys hk hl hm hb
    cases e <;> simp only [kFs] at hk <;> try (cases hk; done)
    refine ⟨(), ?_, by simp [bigE], trivial⟩
    have : cs.drop o = [] := List.drop_eq_nil_iff.2 (by simp only [E.size] at hl; omega)
    rw [this]
    exact ⟨.nil _ _, fun v hv => by cases hv⟩
  | cons g fs ihf =>
    intro o e cs ys hk hl hm hb
    obtain ⟨m1, m2⟩ := mapM_get hm
    obtain ⟨y0, e0, g0⟩ := m2 0 g rfl
    rcases ys with _ | ⟨y, ys⟩
    · simp at e0
    simp only [List.getElem?_cons_zero, Option.some.injEq] at e0
    subst e0
    simp only [List.map_cons, B.h1] at hb ⊢
    have one : ∀ (a : E), g.offset = o → P.cellsOf g.type = a.size → r g.type a = true → ∃ x : a.den, RelC (knW W) m0 (a.row x) ((cs.drop o).take a.size) ∧ bigE a x ≤ bulk y.1 ∧ wfE a x := fun a h1 h2 h3 => by
      rw [h1, h2] at g0
      exact ih _ a _ y.1 y.2 h3 g0 (by omega)
    have many : ∀ a b, e = .pr a b → g.offset = o → P.cellsOf g.type = a.size → r g.type a = true → kFs r P fs (o + a.size) b = true → ∃ x : e.den, RelC (knW W) m0 (e.row x) (cs.drop o) ∧ bigE e x ≤ bulk y.1 + bulkAll (ys.map (·.1)) ∧ wfE e x := by
      rintro a b rfl h1 h2 h3 h4
      obtain ⟨x, hx, hxb, hxw⟩ := one a h1 h2 h3
      have hm' : fs.mapM (fun g => DataW.trod enc P W 0 sp true f g.type ((cs.drop g.offset).take (P.cellsOf g.type))) = some ys := by
        simp only [List.mapM_cons, Option.bind_eq_bind, Option.bind_eq_some_iff] at hm
        obtain ⟨_, _, _, q, q'⟩ := hm
        cases q'
        exact q
      obtain ⟨z, hz, hzb, hzw⟩ := ihf (o + a.size) b cs ys h4 (by simp only [E.size] at hl; omega) hm' (by omega)
      refine ⟨(x, z), ?_, by simp only [bigE]; omega, ⟨hxw, hzw⟩⟩
      have : cs.drop o = (cs.drop o).take a.size ++ cs.drop (o + a.size) := by rw [← List.drop_drop]; exact (List.take_append_drop _ _).symm
      rw [this]
      exact hx.append hz
    cases fs with
    | nil =>
      have hk1 : (Nat.beq g.offset o && (Nat.beq (P.cellsOf g.type) e.size && r g.type e)) = true := by cases e <;> exact hk
      simp only [Bool.and_eq_true] at hk1
      obtain ⟨h1, h2, h3⟩ := hk1
      obtain ⟨x, hx, hxb, hxw⟩ := one e (Nat.eq_of_beq_eq_true h1) (Nat.eq_of_beq_eq_true h2) h3
      refine ⟨x, ?_, by omega, hxw⟩
      rwa [List.take_of_length_le (by rw [List.length_drop]; omega)] at hx
    | cons g' fs' =>
      cases e <;> simp only [kFs] at hk <;> try (cases hk; done)
      rename_i a b
      simp only [Bool.and_eq_true] at hk
      obtain ⟨h1, h2, h3, h4⟩ := hk
      exact many a b rfl (Nat.eq_of_beq_eq_true h1) (Nat.eq_of_beq_eq_true h2) h3 h4
/-- **What reads as a value of a plain type is plain data.** -/
theorem read_e (B : Bulk bulk bulkAll) : ∀ (n : Nat) (f : Nat) (t : TypeId) (e : E) (cs : List Value) (d : DataW H) (ps : List MemPlace), kOK P n t e = true → DataW.trod enc P W 0 sp true f t cs = some (d, ps) → bulk d ≤ 4611686018427387904 →
    ∃ x : e.den, RelC (knW W) m0 (e.row x) cs ∧ bigE e x ≤ bulk d ∧ wfE e x
  | 0, f, t, e, cs, d, ps, hk, h, hb => by cases hk
  | n + 1, f, t, e, cs, d, ps, hk, h, hb => by
    have struct : (match P.underlying t with
      | some (.struct fs) => Nat.beq (P.cellsOf t) e.size && kFs (kOK P n) P fs.toList 0 e
      | _ => false) = true → ∃ x : e.den, RelC (knW W) m0 (e.row x) cs ∧ bigE e x ≤ bulk d ∧ wfE e x := fun hk => by
      split at hk
      · rename_i fs hu
        rw [Bool.and_eq_true] at hk
        have hc := Nat.eq_of_beq_eq_true hk.1
        cases f with
        | zero => unfold DataW.trod at h; cases h
        | succ f =>
          unfold DataW.trod at h
          rw [hu] at h
          simp only [hc] at h
          split at h
          · rename_i hlen
            rw [Option.map_eq_some_iff] at h
            obtain ⟨r, hr, hd⟩ := h
            simp only [Prod.mk.injEq] at hd
            obtain ⟨rfl, -⟩ := hd
            rw [B.hag] at hb ⊢
            obtain ⟨x, h1, h2, h3⟩ := read_fields B (f := f) (fun t e cs d ps hk hh hb => read_e B n f t e cs d ps hk hh hb) fs.toList 0 e cs r hk.2 (by omega) hr (by omega)
            exact ⟨x, by simpa using h1, by omega, h3⟩
          · cases h
      · cases hk
    cases e with
    | int k =>
      cases k <;> try exact struct hk
      obtain ⟨m, rfl, rfl, h1, h2⟩ := trod_i64 hk h
      exact ⟨m, ⟨.cons (.int _ _) (.nil _ _), fun v hv => by simp at hv; subst hv; rfl⟩, by simp [bigE], h1, h2⟩
    | str =>
      obtain ⟨s, rfl, rfl⟩ := trod_str hk h
      refine ⟨s.data.toList, ⟨.cons ?_ (.nil _ _), fun v hv => by simp at hv; subst hv; rfl⟩, by simp only [bigE, B.hs]; omega, trivial⟩
      have := Rel.str (kn := knW W) (m := m0) s.data.toList
      simpa using this
    | bool =>
      have hk : (match P.underlying t with
        | some .bool => true
        | _ => false) = true := hk
      split at hk
      · rename_i hu
        cases f with
        | zero => unfold DataW.trod at h; cases h
        | succ f =>
          unfold DataW.trod at h
          rw [hu] at h
          split at h <;> try (simp_all; done)
          rename_i b _
          exact ⟨b, ⟨.cons (.bool _) (.nil _ _), fun v hv => by simp at hv; subst hv; rfl⟩, by simp [bigE], trivial⟩
      · cases hk
    | form =>
      obtain ⟨x, h1, h2⟩ := form_read B hk f cs d ps h hb
      exact ⟨x, h1, h2, trivial⟩
    | slice e =>
      have hk : (match P.underlying t with
        | some (.slice t') => kOK P n t' e && (Nat.beq (P.cellsOf t') e.size && Nat.blt 0 e.size)
        | _ => false) = true := hk
      split at hk
      · rename_i t' hu
        simp only [Bool.and_eq_true] at hk
        cases f with
        | zero => unfold DataW.trod at h; cases h
        | succ f =>
          obtain ⟨l, h1, h2, h3⟩ := read_slice B (sz := e.size) (by have := hk.2.2; unfold Nat.blt at this; exact Nat.le_of_ble_eq_true this) (Nat.eq_of_beq_eq_true hk.2.1) e.row e.row_len (bigE e) (wfE e) hu (fun cs d ps hh hb => read_e B n f t' e cs d ps hk.1 hh hb) h hb
          exact ⟨l, h1, h2, h3⟩
      · cases hk
    | erri => exact struct hk
    | un => exact struct hk
    | pr a b => exact struct hk
/-- The cells, one step. -/
theorem row_cells {kn : Kn} {m : Mp} : ∀ (e : E) (x : e.den) (vs : List Value), RelC kn m (e.row x) vs → RelC kn m (e.cells x) vs
  | .int _, _, _, h => h
  | .bool, _, _, h => h
  | .str, _, _, h => h
  | .erri, _, _, h => h
  | .form, .mk k n t l, vs, h => by
    refine ⟨?_, h.2⟩
    have h := h.1
    simp only [E.row, Fm.row, Fm.rows_map] at h
    obtain ⟨v0, u0, rfl, h0, h⟩ := h.uncons
    obtain ⟨v1, u1, rfl, h1, h⟩ := h.uncons
    obtain ⟨v2, u2, rfl, h2, h⟩ := h.uncons
    obtain ⟨v3, u3, rfl, h3, h⟩ := h.uncons
    exact .cons h0 (.cons h1 (.cons h2 (.cons (rel_tvec.2 h3) h)))
  | .un, _, _, h => h
  | .pr a b, (x, y), vs, h => by
    obtain ⟨us, ws, rfl, h1, h2⟩ := RelL.append_iff.1 h.1
    exact (row_cells a x us ⟨h1, fun v hv => h.2 v (by simp [hv])⟩).append (row_cells b y ws ⟨h2, fun v hv => h.2 v (by simp [hv])⟩)
  | .slice e, l, vs, h => by
    refine ⟨?_, h.2⟩
    have h := h.1
    simp only [E.row] at h
    obtain ⟨v0, u0, rfl, h0, h⟩ := h.uncons
    exact .cons (rel_tvec.2 h0) h
theorem rel_aggW {row : List AV} {cs : Array Value} (h : RelC (knW W) m0 row (Value.agg cs).cells.toList) : Rel (knW W) m0 (.agg row) (.agg cs) := by
  have hcs : (Value.agg cs).cells.toList = cs.toList := rfl
  rw [hcs] at h
  exact .agg _ _ (by simpa using h.1.1) (fun i y v q r => h.1.2 i y v q (by simpa using r)) (fun i v r => h.2 v (by simpa using Array.mem_of_getElem? r))
end
end Go.Ab

/-
  THE CONTRACT OF A LAW whose arguments are plain data, out of its call.
-/
set_option linter.unusedVariables false
set_option linter.unusedSimpArgs false
set_option maxRecDepth 100000
namespace Go.Ab
open Go Go.ChangeShapes Go.WideShapes Go.ChangeAt Go.RowKit Go.Proofs Go.Proofs.YtmompmackgknbaaDoor
def argOK (P : Program) (n : Nat) (t : TypeId) (e : E) : Bool := kOK P n t e && match e with
  | .int .i64 => true
  | .bool => true
  | .str => true
  | .form => true
  | .slice _ => true
  | .pr _ _ => true
  | _ => false
def parOK (P : Program) (n : Nat) : List TypeId → List E → Bool
  | [], [] => true
  | t :: ts, e :: es => argOK P n t e && parOK P n ts es
  | _, _ => false
abbrev shA (es : List E) : List Sh := es.map .d
def bigA : (es : List E) → Sh.denL (shA es) → Nat
  | [], _ => 0
  | e :: es, x => bigE e x.1 + bigA es x.2
def wfA : (es : List E) → Sh.denL (shA es) → Prop
  | [], _ => True
  | e :: es, x => wfE e x.1 ∧ wfA es x.2
section
variable {H : Type} {enc : TypeId × Value → H} {W : World} {P : Program}
theorem one_cell {t : TypeId} {v c : Value} {base : Nat} (hs : ∀ fs, P.underlying t ≠ some (.struct fs)) (ha : ∀ k a, P.underlying t ≠ some (.array k a)) (hok : Value.okWide P W .any base t v) (h : v.cells.toList = [c]) : v = c := by
  cases v <;> simp [Value.cells] at h <;> try exact h
  rename_i cs
  exfalso
  unfold Value.okWide at hok
  split at hok
  · rename_i fs e; exact hs fs e
  · rename_i k a e; exact ha _ _ e
  · unfold Cell.okWide at hok
    split at hok <;> first | (simp_all; done) | skip
    unfold Cell.ok at hok
    split at hok <;> simp_all
theorem struct_agg {t : TypeId} {v : Value} {base : Nat} {fs : Array Field} (hu : P.underlying t = some (.struct fs)) (hok : Value.okWide P W .any base t v) : ∃ cs, v = .agg cs := by
  unfold Value.okWide at hok
  rw [hu] at hok
  obtain ⟨cs, h, _⟩ := hok
  exact ⟨cs, h⟩
theorem row_av {n : Nat} {t : TypeId} {e : E} {x : e.den} {v : Value} {base : Nat} (hk : argOK P n t e = true) (hok : Value.okWide P W .any base t v) (h : RelC (knW W) m0 (e.row x) v.cells.toList) : Rel (knW W) m0 (e.av x) v := by
  unfold argOK at hk
  rw [Bool.and_eq_true] at hk
  obtain ⟨hk, hk2⟩ := hk
  cases n with
  | zero => cases hk
  | succ n =>
  have one : ∀ {a : AV}, (∀ fs, P.underlying t ≠ some (.struct fs)) → (∀ k a, P.underlying t ≠ some (.array k a)) → RelC (knW W) m0 [a] v.cells.toList → Rel (knW W) m0 a v := by
    intro a hs ha h
    obtain ⟨c, u, hc, h1, h2⟩ := h.1.uncons
    have : u = [] := by have q := h2.1; exact List.length_eq_zero_iff.1 q.symm
    subst this
    rw [one_cell hs ha hok hc]
    exact h1
  cases e with
  | int k =>
    cases k <;> try (cases hk2; done)
    have hk : isI64 P t = true := hk
    unfold isI64 at hk
    split at hk
    · rename_i hu; exact one (fun fs e => by rw [hu] at e; cases e) (fun _ _ e => by rw [hu] at e; cases e) h
    · cases hk
  | bool =>
    have hk : (match P.underlying t with
      | some .bool => true
      | _ => false) = true := hk
    split at hk
    · rename_i hu; exact one (fun fs e => by rw [hu] at e; cases e) (fun _ _ e => by rw [hu] at e; cases e) h
    · cases hk
  | str =>
    have hk : isStr P t = true := hk
    unfold isStr at hk
    split at hk
    · rename_i hu; exact one (fun fs e => by rw [hu] at e; cases e) (fun _ _ e => by rw [hu] at e; cases e) h
    · cases hk
  | slice e =>
    have hk : (match P.underlying t with
      | some (.slice t') => kOK P n t' e && (Nat.beq (P.cellsOf t') e.size && Nat.blt 0 e.size)
      | _ => false) = true := hk
    split at hk
    · rename_i hu
      exact one (fun fs e => by rw [hu] at e; cases e) (fun _ _ e => by rw [hu] at e; cases e) (row_cells (.slice e) x _ h)
    · cases hk
  | form =>
    have hk : isForm P t = true := hk
    unfold isForm at hk
    split at hk
    · rename_i fs hu
      obtain ⟨cs, rfl⟩ := struct_agg hu hok
      exact rel_aggW (row_cells .form x _ h)
    · cases hk
  | pr a b =>
    have hk : (match P.underlying t with
      | some (.struct fs) => Nat.beq (P.cellsOf t) (E.pr a b).size && kFs (kOK P n) P fs.toList 0 (.pr a b)
      | _ => false) = true := hk
    split at hk
    · rename_i fs hu
      obtain ⟨cs, rfl⟩ := struct_agg hu hok
      exact rel_aggW (row_cells (.pr a b) x _ h)
    · cases hk
  | erri => cases hk2
  | un => cases hk2
variable {bulk : DataW H → Nat} {bulkAll : List (DataW H) → Nat}
theorem args_read (B : Bulk bulk bulkAll) (n : Nat) : ∀ (ts : List TypeId) (es : List E) (vs : List Value) (ds : List (DataW H)) (ps : List MemPlace) (base : Nat), parOK P n ts es = true → DataW.TrodAll enc P W 0 (fun _ => true) true ts vs ds ps → (∀ (j : Nat) t v, ts[j]? = some t → vs[j]? = some v → Value.okWide P W .any base t v) → bulkAll ds ≤ 4611686018427387904 →
    ∃ x : Sh.denL (shA es), RelL (knW W) m0 (patL ρ0 (shA es) x) vs ∧ bigA es x ≤ bulkAll ds ∧ wfA es x
  | [], [], vs, ds, ps, base, _, h, _, _ => by
    obtain ⟨rfl, rfl, rfl⟩ := trodAll_nil h
    exact ⟨(), .nil _ _, by simp [bigA], trivial⟩
  | [], e :: es, vs, ds, ps, base, hk, _, _, _ => by cases hk
  | t :: ts, [], vs, ds, ps, base, hk, _, _, _ => by cases hk
  | t :: ts, e :: es, vs, ds, ps, base, hk, h, hok, hb => by
    simp only [parOK, Bool.and_eq_true] at hk
    obtain ⟨v, vs', d, ds', p, q, rfl, rfl, rfl, h1, h2⟩ := trodAll_cons h
    rw [B.h1] at hb ⊢
    obtain ⟨f, t1⟩ := id h1
    have hk1 : kOK P n t e = true := by have := hk.1; unfold argOK at this; rw [Bool.and_eq_true] at this; exact this.1
    obtain ⟨x, a1, a2, a3⟩ := read_e B n f t e _ d p hk1 t1 (by omega)
    obtain ⟨y, b1, b2, b3⟩ := args_read B n ts es vs' ds' q base hk.2 h2 (fun j t v q1 q2 => hok (j + 1) t v q1 q2) (by omega)
    exact ⟨(x, y), .cons (row_av hk.1 (hok 0 t v rfl rfl) a1) b1, by simp only [bigA]; omega, a3, b3⟩
theorem trodAll_length : ∀ {ts : List TypeId} {vs : List Value} {ds : List (DataW H)} {ps : List MemPlace} {W : World} {b : Nat} {sp : Nat → Bool} {hd : Bool}, DataW.TrodAll enc P W b sp hd ts vs ds ps → ds.length = ts.length
  | [], vs, ds, ps, W, b, sp, hd, h => by obtain ⟨_, rfl, _⟩ := trodAll_nil h; rfl
  | t :: ts, vs, ds, ps, W, b, sp, hd, h => by
    obtain ⟨v, vs', d, ds', p, q, rfl, rfl, rfl, h1, h2⟩ := trodAll_cons h
    simp [trodAll_length h2]
theorem trodAll_below {W' : World} (hl : laidOutB P = true) : ∀ {ts : List TypeId} {vs : List Value} {ds : List (DataW H)} {ps : List MemPlace}, ts.all (fun t => P.readableRec t && Nat.blt t P.types.size) = true → DataW.TrodAll enc P W 0 (fun _ => true) true ts vs ds ps → Below W.heap.size W W' → (∀ x ∈ ps, x.block < W.heap.size) → DataW.TrodAll enc P W' 0 (fun b => decide (b < W.heap.size)) true ts vs ds ps
  | [], vs, ds, ps, _, h, _, _ => by obtain ⟨rfl, rfl, rfl⟩ := trodAll_nil h; exact trodAll_mk0
  | t :: ts, vs, ds, ps, hr, h, hb, hp => by
    simp only [List.all_cons, Bool.and_eq_true] at hr
    obtain ⟨v, vs', d, ds', p, q, rfl, rfl, rfl, h1, h2⟩ := trodAll_cons h
    exact trodAll_cons_mk (Below.trod hl hr.1.1 (Nat.le_of_ble_eq_true hr.1.2) h1 hb (fun x hx => hp x (by simp [hx]))) (trodAll_below hl hr.2 h2 hb (fun x hx => hp x (by simp [hx])))
end
theorem len_sum {α : Type} (g : α → Nat) : ∀ l : List α, l.length ≤ (l.map fun x => max 1 (g x)).sum
  | [] => Nat.le_refl _
  | x :: l => by have := len_sum g l; simp only [List.length_cons, List.map_cons, List.sum_cons]; omega
theorem bulk_pos {H : Type} (d : DataW H) : 1 ≤ Rows.uptoBulk d := by
  cases d with
  | lit l => cases l <;> simp [Rows.uptoBulk]
  | _ => simp [Rows.uptoBulk]
theorem uptoB {H : Type} : Bulk (Rows.uptoBulk (H := H)) Rows.uptoBulkAll := ⟨fun l => by simp [Rows.uptoBulk], fun l r => by simp [Rows.uptoBulk]; omega, fun l => by simp [Rows.uptoBulk], bulk_pos, by simp [Rows.uptoBulkAll], fun d l => by simp [Rows.uptoBulkAll]⟩
/-- **The contract of a law**, out of its call. -/
theorem contract_of {g : FuncId} {fn : Func} {es : List E} {n : Nat} {spec : ChangeSpec} {tb : TypeId} (hv : spec.vars = []) (hfn : ∀ (H : Type) (ds : List (DataW H)), ds.length = fn.params.toList.length → spec.fn H ds = { results := [.lit (.bool true)], args := ds })
    (hres : fn.resultTypes = #[tb]) (htb : Tryd.prog.underlying tb = some .bool) (hk : parOK Tryd.prog n fn.params.toList es = true) (hrr : fn.params.toList.all (fun t => Tryd.prog.readableRec t && Nat.blt t Tryd.prog.types.size) = true) (hl : laidOutB Tryd.prog = true) (hbo : bodyOK Tryd.prog g = true)
    (hlaw : ∀ x, bigA es x ≤ 1048576 → wfA es x → PCall CX g (patL ρ0 (shA es) x) (· = .ret (.bool true)))
    (H : Type) (enc : TypeId × Value → H) (W : World) (base : Nat) (args : Array Value) (ds gs : List (DataW H)) (before : List MemPlace)
    (hval : ∀ (j : Nat) t v, fn.params[j]? = some t → args[j]? = some v → Value.okWide Tryd.prog W .any base t v)
    (hW : DataW.Whole enc Tryd.prog fn.params.toList spec.vars false W args.toList ds gs before) (hb : Rows.uptoSmall H (ds ++ gs) = true) :
    Calls Tryd.prog g args W fun e W' => ∃ v, e = .returned v ∧ spec.post enc Tryd.prog fn false true false false W args v W' := by
  have hW' := hW
  obtain ⟨p, q, hA0, hV, rfl, hfz, hnd⟩ := hW
  have hA : DataW.TrodAll enc Tryd.prog W 0 (fun _ => true) true fn.params.toList args.toList ds p := hA0
  rw [hv] at hV
  obtain ⟨rfl, rfl⟩ := trodVars_none hV
  have hbd : Rows.uptoBulkAll ds ≤ 1048576 := by
    have := of_decide_eq_true hb
    simpa using this
  obtain ⟨x, hx, hxb, hxw⟩ := args_read uptoB n fn.params.toList es args.toList ds p base hk hA (fun j t v a b => hval j t v (by simpa using a) (by simpa using b)) (by omega)
  have hdo := hlaw x (by omega) hxw (knW W) W args.toList (knOK_W W) hx
  have hlt : ∀ y ∈ p, y.block < W.heap.size := fun y hy => hW'.lt y (by simp [hy])
  have fin : ∀ e w', (∃ out kn', out = AOut.ret (.bool true) ∧ RelOut kn' m0 out e ∧ KnOK CX kn' w' ∧ Below W.heap.size W w' ∧ ∀ b, b < W.heap.size → kn' b = knW W b) → ∃ v, e = .returned v ∧ spec.post enc Tryd.prog fn false true false false W args v w' := by
    rintro e w' ⟨out, kn', rfl, ho, _, hbel, _⟩
    cases e with
    | returned u =>
      simp only [RelOut] at ho
      cases ho
      have hT := trodAll_below hl hrr hA hbel hlt
      refine ⟨_, rfl, _, _, _, [], p, [], hW', ?_, ?_, ?_, hbel.frame _, fun h => by cases h⟩
      · rw [hres, hfn H _ (by simpa using trodAll_length hA)]
        exact trodAll_cons_mk (shut_bool htb _) trodAll_mk0
      · rw [hfn H _ (by simpa using trodAll_length hA), List.append_nil]
        exact hT
      · rw [hv, hfn H _ (by simpa using trodAll_length hA)]; rfl
    | panicked ch => exact ho.elim
    | outgrown => exact ho.elim
  rcases hdo with ⟨_, hc⟩ | ⟨u, w', h1, _⟩
  · exact hc.mono fin
  · have h2 : (callFunc g args.toList.toArray).run Tryd.prog W = _ := calls_of_bodyOK hbo _ W
    have h1' : (callFunc g args.toList.toArray).run Tryd.prog W = _ := h1
    rw [h2] at h1'
    cases h1'
end Go.Ab

/-
  strings.Builder: copyCheck and String, walked over the heap; then over objects.
-/
set_option linter.unusedVariables false
set_option linter.unusedSimpArgs false
namespace Go.Ab
open Go Go.RowKit Go.Proofs

theorem uPB : Tryd.prog.underlying 133 = some (.pointer 136) := by kernel_rfl
theorem uUP : Tryd.prog.underlying 151 = some .unsafePointer := by kernel_rfl
theorem iB : ∃ j, Tryd.prog.info? 136 = some j ∧ j.size = 2 := by
  have h : (Tryd.prog.info? 136).map (·.size) = some 2 := by kernel_rfl
  exact Option.map_eq_some_iff.1 h
set_option maxHeartbeats 1000000 in
set_option maxRecDepth 100000 in
theorem copyCheck_used (b : Nat) (w : World) (h0 : w.cell? ⟨b, 0, none⟩ = some (.pointer (some ⟨b, 0, none⟩))) :
    Calls Tryd.prog 123 #[.pointer (some ⟨b, 0, none⟩)] w fun e w' => e = .returned (.tuple #[]) ∧ w' = w := by
  obtain ⟨j, hj, _⟩ := iB
  go_enter Tryd.func123, Tryd.ntmps123
  go_wp2
  rw [Lib.run_neq_ptr_same w _ uPB hj]
  go_wp2
  go_end0
  exact ⟨rfl, rfl⟩
set_option maxHeartbeats 1000000 in
set_option maxRecDepth 100000 in
theorem copyCheck_fresh (b : Nat) (w : World) (h0 : w.cell? ⟨b, 0, none⟩ = some (.pointer none)) (hsh : w.shape? b = some (136, 2)) (hfz : w.frozen? ⟨b, 0, none⟩ = false) :
    Calls Tryd.prog 123 #[.pointer (some ⟨b, 0, none⟩)] w fun e w' => e = .returned (.tuple #[]) ∧ w' = w.setCell ⟨b, 0, none⟩ (.pointer (some ⟨b, 0, none⟩)) := by
  obtain ⟨j, hj, hjs⟩ := iB
  go_enter Tryd.func123, Tryd.ntmps123
  go_wp2
  rw [Lib.run_to_unsafe w ⟨b, 0, none⟩ uPB uUP hj (by rw [hjs]; decide) hsh (Nat.zero_lt_succ 1)]
  simp only [Result.andThen]
  rw [Oper.upon_value]
  go_wp2
  rw [run_callFunc_extern Tryd.func129 (by kernel_rfl) (by kernel_rfl) (by kernel_rfl) (e := Extern.AbiNoEscape.same) (by kernel_rfl)]
  rw [Lib.run_noEscape]
  simp only [Result.andThen]
  rw [Oper.upon_value]
  go_wp2
  rw [Lib.run_from_unsafe w ⟨b, 0, none⟩ uUP uPB hj hsh (by kernel_rfl)]
  simp only [Result.andThen]
  rw [Oper.upon_value]
  go_wp2
  go_end0
  exact ⟨rfl, rfl⟩

/-! ### over objects -/
theorem Inv.nxup {C : Cx} {B : Base} {kn : Kn} {m : Mp} {σ : Sto} {nx nx' : Nat} {w : World} (h : Inv C B kn m σ nx w) (hn : nx ≤ nx') : Inv C B kn m σ nx' w :=
  ⟨h.knok, h.size, h.os, h.tape, h.output, h.old, h.obj, h.own, h.dist, fun n q => h.dom n (Nat.le_trans hn q), fun p nm ob e => Nat.lt_of_lt_of_le (h.lt p nm ob e) hn, h.uniq, h.glob⟩
abbrev bldCells : List Sh := [.mref 0 0, .gs 1 (.int .u8)]
abbrev bldO (k : Bool) : Slots := [(k, .cells 136 bldCells), (k, .tg (.int .u8) 5)]
def S_copyCheck : Sig := .o ⟨bldO false, [.ref 0 0], bldO true, .tup [], fun x => some ((), ((true, (), ()), x.2.2.1, ()))⟩
theorem S_copyCheck_ok : SigOK CX 123 S_copyCheck := by
  refine ⟨by kernel_rfl, fun x r hr B kn m w vs hI hlay hargs => ?_⟩
  cases hr
  obtain ⟨loc, hm⟩ := hlay 0 (by decide)
  obtain ⟨xa, ⟨⟨b0, u1, u2⟩, l, u3⟩⟩ := x
  have hp : (osto 0 (bldO false) ((b0, u1, u2), l, u3))[0]? = some (0, .cells 136 [.mref 0 0 0 b0, .gs 1 1 (.int .u8) l.length]) := rfl
  have hob := hI.obj _ _ _ hp
  simp only [ObjRel, hm] at hob
  obtain ⟨hnl, h0, arr, hw, hrl, hone⟩ := hob
  obtain ⟨v0, vs0, ha0, hr0, hrl⟩ := hrl.uncons
  obtain ⟨v1, vs1, rfl, hr1, hrl⟩ := hrl.uncons
  have : vs1 = [] := List.eq_nil_of_length_eq_zero hrl.1.symm
  subst this
  have harr : arr = #[v0, v1] := by rw [← Array.toArray_toList (xs := arr), ha0]
  subst harr
  obtain ⟨a, as1, rfl, hra, hargs⟩ := RelL.uncons hargs
  have : as1 = [] := List.eq_nil_of_length_eq_zero hargs.1.symm
  subst this
  have hra : Rel kn m (.ref 0 0 0) a := hra
  cases hra with
  | ref _ _ _ loc' hm' =>
    rw [hm] at hm'; cases hm'
    rw [h0]
    refine .inl ⟨by kernel_rfl, ?_⟩
    have fin : ∀ w', w'.heap.size = w.heap.size → w'.os = w.os → w'.tape = w.tape → w'.output = w.output → (∀ b, b ≠ loc.blk → w'.heap[b]? = w.heap[b]?) → w'.heap[loc.blk]? = some (.cells #[.pointer (some ⟨loc.blk, 0, none⟩), v1] 136 (0, 0)) →
        ∃ kn' m', KnLe kn kn' ∧ Inv CX B kn' m' (osto 2 (bldO true) ((true, (), ()), l, ())) (2 + 2) w' ∧ (∀ i, i < 2 → m' i = m i) ∧ (∀ j, j < 2 → ∃ loc, m' (nameOf 2 j (bldO true)) = some loc) ∧ RelOut kn' m' (.ret (.tup [])) (.returned (.tuple #[])) := fun w' q1 q2 q3 q4 q5 q6 => by
      obtain ⟨k1, k2⟩ := hI.write (ob' := .cells 136 [.mref 0 0 0 true, .gs 1 1 (.int .u8) l.length]) hp trivial hm hnl q1 q2 q3 q4 q5 (by
        simp only [ObjRel, hm]
        refine ⟨hnl, h0, _, q6, .cons ?_ (.cons hr1 (.nil _ _)), fun v hv => ?_⟩
        · have := Rel.mrefSome (kn := kn) 0 0 0 loc hm
          rw [h0] at this
          exact this
        · simp at hv
          rcases hv with rfl | rfl
          · rfl
          · exact hone _ (by rw [ha0]; simp))
      refine ⟨kn, m, KnLe.refl _, k1.nxup (by show 0 + 2 ≤ 4; omega), fun _ _ => rfl, fun j hj => ?_, .tup [] #[] rfl (fun i x v e => by simp at e)⟩
      have hj2 : nameOf 2 j (bldO true) = j := by
        match j, hj with
        | 0, _ => rfl
        | 1, _ => rfl
      rw [hj2]
      exact hlay j hj
    have hr0 : Rel kn m (.mref 0 0 0 b0) v0 := hr0
    cases hr0 with
    | mrefSome _ _ _ loc' hm' =>
      rw [hm] at hm'; cases hm'
      rw [h0] at hw
      refine (copyCheck_used loc.blk w (by rw [Lib.cell_of_heap hw]; rfl)).mono fun e w' ⟨he, hw'⟩ => ?_
      subst he; rw [hw']
      exact fin w rfl rfl rfl rfl (fun _ _ => rfl) hw
    | mrefNil =>
      refine (copyCheck_fresh loc.blk w (by rw [Lib.cell_of_heap hw]; rfl) (by simp [World.shape?, hw]) (Lib.frozen_of_heap hw 0)).mono fun e w' ⟨he, hw'⟩ => ?_
      subst he; rw [hw']
      exact fin _ (by simp [World.setCell]) rfl rfl rfl (fun b hb => Below.heap_setCell _ _ _ _ hb) (by simp [World.setCell, Array.getElem?_modify, hw])


/-! ### String -/
theorem liesAt_off {P : Program} {e : TypeId} (hc : P.cellsOf e = 1) (count o n : Nat) (hn : o + n ≤ count) : liesAt P P.depth e count o e n = true := by
  have hd : P.depth = (2 * (P.types.size + Made.depth) + 1) + 1 := rfl
  rw [hd]
  simp only [liesAt, Bool.or_eq_true]
  left
  rw [hd]
  simp [rowAt, hc, hn, sameLayout, Nat.mod_one]
theorem run_unsafeString_off {P : Program} (w : World) (pt it ty e : TypeId) (hp : P.underlying pt = some (.pointer e)) (hc : P.cellsOf e = 1) (g o cells : Nat) (hsh : w.shape? g = some (e, cells)) (l : List UInt8) (h0 : l ≠ []) (hn : o + l.length ≤ cells) (h63 : l.length ≤ 9223372036854775807)
    (hcell : ∀ j x, l[j]? = some x → w.cell? ((⟨g, o, none⟩ : Addr).add j) = some (.int .u8 x.toNat)) :
    (Builtin.unsafeString_ #[pt, it] ty #[.pointer (some ⟨g, o, none⟩), .int .i64 l.length]).run P w = .ok (.string ⟨l.toArray⟩) (w.freeze ⟨g, o, none⟩ l.length) := by
  have hl : l.length ≠ 0 := by simpa using h0
  have hlb := Lib.run_loadBytes (P := P) w l ⟨g, o, none⟩ .empty hcell
  have hlies := liesAt_off (P := P) hc (cells / P.cellsOf e) o l.length (by rw [hc]; simpa using hn)
  have h63' : ¬ (9223372036854775807 : Int) < (l.length : Int) := by omega
  have hdef : Builtin.unsafeString_ #[pt, it] ty #[.pointer (some ⟨g, o, none⟩), .int .i64 l.length] =
      (do
        let n ← asInt (.int .i64 l.length)
        if n < 0 then runtimePanic (.error "unsafe.String: len out of range")
        if n > IntKind.i64.max then unsupported (.unsafePointer "String: a length above the largest int")
        if n = 0 then pure (.string .empty)
        else if ← variablesAt ⟨g, o, none⟩ (← elemOf pt) n.toNat then do
          let s ← loadBytes ⟨g, o, none⟩ .empty n.toNat
          freeze ⟨g, o, none⟩ n.toNat
          pure (.string s)
        else unsupported (.unsafePointer "String: not so many bytes at ptr")) := rfl
  rw [hdef]
  have hmax : IntKind.i64.max = 9223372036854775807 := rfl
  have hneg : ¬ (l.length : Int) < 0 := by omega
  simp [asInt, asIntOf, hmax, h63', hneg, hl, variablesAt, hsh, elemOf, run_underlying hp, hlies, hlb]
theorem uPU : Tryd.prog.underlying 148 = some (.pointer 5) := by kernel_rfl
theorem cU8 : Tryd.prog.cellsOf 5 = 1 := by kernel_rfl
abbrev Same (w w' : World) (g : Nat) : Prop := w.heap.size ≤ w'.heap.size ∧ w'.os = w.os ∧ w'.tape = w.tape ∧ w'.output = w.output ∧ ∀ b, b < w.heap.size → b ≠ g → w'.heap[b]? = w.heap[b]?
theorem same_drew (w : World) (g : Nat) : Same w w.drew g := ⟨Nat.le_refl _, rfl, rfl, rfl, fun _ _ _ => rfl⟩
theorem same_freeze (w : World) (g o n : Nat) : Same w (w.drew.freeze ⟨g, o, none⟩ n) g := by
  obtain ⟨k1, k2, k3, k4, _⟩ := Lib.below_freeze (Below.drew (Below.refl g w)) (p := ⟨g, o, none⟩) (Nat.le_refl g) n
  refine ⟨k4, k1, k2, k3, fun b hb hne => ?_⟩
  unfold World.freeze
  split
  · rfl
  · show (Array.modify _ _ _)[b]? = _
    rw [Array.getElem?_modify, if_neg (fun e => hne e.symm)]
    rfl
theorem same_alloc (w : World) (g : Nat) (ob : Obj) : Same w (w.drew.alloc ob) g := ⟨by simp, rfl, rfl, rfl, fun b hb _ => Below.heap_alloc _ _ _ hb⟩
theorem same_alloc' (w : World) (g : Nat) (ob : Obj) : Same w (w.alloc ob).drew g := ⟨by simp [World.drew], rfl, rfl, rfl, fun b hb _ => Below.heap_alloc _ _ _ hb⟩
theorem mixedO : Tryd.prog.follows .mixedOrders = true := by kernel_rfl
set_option maxHeartbeats 2000000 in
set_option maxRecDepth 100000 in
theorem string_row (b g o cap : Nat) (cur : Array Value) (w : World) (l : List UInt8) (p : Value) (h0 : l ≠ []) (hbk : w.heap[b]? = some (.cells #[p, .slice (some ⟨g, o, none⟩) l.length cap] 136 (0, 0)))
    (hg : w.heap[g]? = some (.cells cur 5 (0, 0))) (hnc : l.length ≤ cap) (hcs : o + cap ≤ cur.size) (hcm : cap ≤ maxLen) (hcell : ∀ j x, l[j]? = some x → w.cell? ((⟨g, o, none⟩ : Addr).add j) = some (.int .u8 x.toNat)) :
    Calls Tryd.prog 114 #[.pointer (some ⟨b, 0, none⟩)] w fun e w' => e = .returned (.string ⟨l.toArray⟩) ∧ Same w w' g := by
  have hl0 : l.length ≠ 0 := by simpa using h0
  have mixed := mixedO
  have c1 : w.drew.cell? ⟨b, 1, none⟩ = some (.slice (some ⟨g, o, none⟩) l.length cap) := by
    have : w.drew.heap[b]? = some (.cells #[p, .slice (some ⟨g, o, none⟩) l.length cap] 136 (0, 0)) := hbk
    rw [Lib.cell_of_heap this]; rfl
  have c0 : w.cell? ⟨b, 1, none⟩ = some (.slice (some ⟨g, o, none⟩) l.length cap) := c1
  have hSD : (Builtin.unsafeSliceData_ #[134] 148 #[.slice (some ⟨g, o, none⟩) l.length cap]).run Tryd.prog w.drew = .ok (.pointer (some ⟨g, o, none⟩)) w.drew :=
    Lib.run_unsafeSliceData_row _ _ _ _ _ _ (by omega)
  have hUS : (Builtin.unsafeString_ #[148, 3] 9 #[.pointer (some ⟨g, o, none⟩), .int .i64 l.length]).run Tryd.prog w.drew = .ok (.string ⟨l.toArray⟩) (w.drew.freeze ⟨g, o, none⟩ l.length) := by
    refine run_unsafeString_off w.drew 148 3 9 5 uPU cU8 g o cur.size (by have hg' : w.drew.heap[g]? = some (.cells cur 5 (0, 0)) := hg; simp [World.shape?, hg']) l h0 (by omega) (by unfold maxLen at hcm; omega) hcell
  have hfin := same_freeze w g o l.length
  go_enter Tryd.func114, Tryd.ntmps114
  go_wp2
  go_region_o
  all_goals (go_wp2; go_ret; exact ⟨rfl, hfin⟩)
set_option maxHeartbeats 2000000 in
set_option maxRecDepth 100000 in
theorem string_nil (b g : Nat) (w : World) (p : Value) (hbk : w.heap[b]? = some (.cells #[p, .slice none 0 0] 136 (0, 0))) :
    Calls Tryd.prog 114 #[.pointer (some ⟨b, 0, none⟩)] w fun e w' => e = .returned (.string ⟨#[]⟩) ∧ Same w w' g := by
  have mixed := mixedO
  have c1 : w.drew.cell? ⟨b, 1, none⟩ = some (.slice none 0 0) := by
    have : w.drew.heap[b]? = some (.cells #[p, .slice none 0 0] 136 (0, 0)) := hbk
    rw [Lib.cell_of_heap this]; rfl
  have c0 : w.cell? ⟨b, 1, none⟩ = some (.slice none 0 0) := c1
  have hSD : (Builtin.unsafeSliceData_ #[134] 148 #[.slice none 0 0]).run Tryd.prog w.drew = .ok (.pointer none) w.drew := rfl
  have hUS : (Builtin.unsafeString_ #[148, 3] 9 #[.pointer none, .int .i64 0]).run Tryd.prog w.drew = .ok (.string ⟨#[]⟩) w.drew := Lib.run_unsafeString_none w.drew _ _ _ none
  have hfin := same_drew w g
  go_enter Tryd.func114, Tryd.ntmps114
  go_wp2
  go_region_o
  all_goals (go_wp2; go_ret; exact ⟨rfl, hfin⟩)
set_option maxHeartbeats 2000000 in
set_option maxRecDepth 100000 in
theorem string_room (b g g' o cap : Nat) (w : World) (p : Value) (hc : cap ≠ 0) (hbk : w.heap[b]? = some (.cells #[p, .slice (some ⟨g', o, none⟩) 0 cap] 136 (0, 0))) :
    Calls Tryd.prog 114 #[.pointer (some ⟨b, 0, none⟩)] w fun e w' => e = .returned (.string ⟨#[]⟩) ∧ Same w w' g := by
  have mixed := mixedO
  have c1 : w.drew.cell? ⟨b, 1, none⟩ = some (.slice (some ⟨g', o, none⟩) 0 cap) := by
    have : w.drew.heap[b]? = some (.cells #[p, .slice (some ⟨g', o, none⟩) 0 cap] 136 (0, 0)) := hbk
    rw [Lib.cell_of_heap this]; rfl
  have c0 : w.cell? ⟨b, 1, none⟩ = some (.slice (some ⟨g', o, none⟩) 0 cap) := c1
  have hSD : (Builtin.unsafeSliceData_ #[134] 148 #[.slice (some ⟨g', o, none⟩) 0 cap]).run Tryd.prog w.drew = .ok (.pointer (some ⟨g', o, none⟩)) w.drew :=
    Lib.run_unsafeSliceData_row _ _ _ _ _ _ hc
  have hUS : (Builtin.unsafeString_ #[148, 3] 9 #[.pointer (some ⟨g', o, none⟩), .int .i64 0]).run Tryd.prog w.drew = .ok (.string ⟨#[]⟩) w.drew := Lib.run_unsafeString_none w.drew _ _ _ _
  have hfin := same_drew w g
  go_enter Tryd.func114, Tryd.ntmps114
  go_wp2
  go_region_o
  all_goals (go_wp2; go_ret; exact ⟨rfl, hfin⟩)
set_option maxHeartbeats 2000000 in
set_option maxRecDepth 100000 in
theorem string_noroom (b g g' o : Nat) (cur : Array Value) (w : World) (p : Value) (hbk : w.heap[b]? = some (.cells #[p, .slice (some ⟨g', o, none⟩) 0 0] 136 (0, 0))) (hg : w.heap[g']? = some (.cells cur 5 (0, 0))) :
    Calls Tryd.prog 114 #[.pointer (some ⟨b, 0, none⟩)] w fun e w' => e = .returned (.string ⟨#[]⟩) ∧ Same w w' g := by
  have mixed := mixedO
  have hlt : b < w.heap.size := by
    rcases Nat.lt_or_ge b w.heap.size with h' | h'
    · exact h'
    · simp [Array.getElem?_eq_none h'] at hbk
  have c1 : w.drew.cell? ⟨b, 1, none⟩ = some (.slice (some ⟨g', o, none⟩) 0 0) := by
    have : w.drew.heap[b]? = some (.cells #[p, .slice (some ⟨g', o, none⟩) 0 0] 136 (0, 0)) := hbk
    rw [Lib.cell_of_heap this]; rfl
  have hSD : (Builtin.unsafeSliceData_ #[134] 148 #[.slice (some ⟨g', o, none⟩) 0 0]).run Tryd.prog w.drew = .ok (.pointer (some ⟨w.drew.heap.size, 0, none⟩)) (w.drew.alloc (.view ⟨g', o, none⟩ 5)) :=
    Lib.run_unsafeSliceData_zero w.drew _ _ 5 uPU ⟨g', o, none⟩ 0 (5, cur.size) (by have hg' : w.drew.heap[g']? = some (.cells cur 5 (0, 0)) := hg; simp [World.shape?, hg'])
  have c2 : (w.drew.alloc (.view ⟨g', o, none⟩ 5)).cell? ⟨b, 1, none⟩ = some (.slice (some ⟨g', o, none⟩) 0 0) := by
    have : (w.drew.alloc (.view ⟨g', o, none⟩ 5)).heap[b]? = _ := (Lib.alloc_old w.drew _ b hlt).trans hbk
    rw [Lib.cell_of_heap this]; rfl
  have c3 : (w.alloc (.view ⟨g', o, none⟩ 5)).drew.cell? ⟨b, 1, none⟩ = some (.slice (some ⟨g', o, none⟩) 0 0) := c2
  have c0 : w.cell? ⟨b, 1, none⟩ = some (.slice (some ⟨g', o, none⟩) 0 0) := c1
  have hUS : ∀ (W : World) (q : Option Addr), (Builtin.unsafeString_ #[148, 3] 9 #[.pointer q, .int .i64 0]).run Tryd.prog W = .ok (.string ⟨#[]⟩) W := fun W q => Lib.run_unsafeString_none W _ _ _ q
  have hfin := same_alloc w g (.view ⟨g', o, none⟩ 5)
  go_enter Tryd.func114, Tryd.ntmps114
  go_wp2
  go_region_o
  all_goals (go_wp2; go_ret; exact ⟨rfl, hfin⟩)
end Go.Ab

/-
  strings.Builder's String, over objects.
-/
set_option linter.unusedVariables false
set_option linter.unusedSimpArgs false
namespace Go.Ab
open Go Go.RowKit Go.Proofs

/-! ### String, over objects -/
theorem Inv.forget {C : Cx} {B : Base} {kn : Kn} {m : Mp} {σ : Sto} {nx nx' : Nat} {w w' : World} {g : Nat} (h : Inv C B kn m σ nx w) (hs : Same w w' g) (hn : nx ≤ nx') (hg : (B.w.heap.size ≤ g ∨ B.own g) ∧ ∀ o, kn g o = none) : Inv C B kn m [] nx' w' := by
  obtain ⟨h1, h2, h3, h4, h5⟩ := hs
  refine ⟨fun b o v e => ?_, Nat.le_trans h.size h1, h2.trans h.os, h3.trans h.tape, h4.trans h.output, fun b hb hob => ?_, fun p nm ob e => by simp at e, fun p nm ob loc e => by simp at e, fun p nm ob loc p' nm' ob' loc' e => by simp at e, fun n q => h.dom n (Nat.le_trans hn q), fun p nm ob e => by simp at e, fun p p' nm ob ob' e => by simp at e, h.glob⟩
  · have hlt := h.kn_lt e
    have hne : b ≠ g := fun q => by rw [q, hg.2 o] at e; cases e
    have := h.knok b o v e
    unfold World.cell? at this ⊢
    rw [h5 b hlt hne]; exact this
  · have hlt := Nat.lt_of_lt_of_le hb h.size
    have hne : b ≠ g := fun q => by
      subst q
      rcases hg.1 with q | q
      · omega
      · exact hob q
    exact ⟨(h5 b hlt hne).trans (h.old b hb hob).1, (h.old b hb hob).2⟩
theorem addr_add (g o j : Nat) : (⟨g, o, none⟩ : Addr).add j = ⟨g, o + j, none⟩ := by
  unfold Addr.add
  by_cases h : j = 0
  · subst h; simp
  · simp [h]
def bytesOf (l : List Int) : Option (List UInt8) := if (l.all fun n => decide (0 ≤ n ∧ n < 256)) = true then some (l.map fun n => UInt8.ofNat n.toNat) else none
def S_string : Sig := .o ⟨bldO false, [.ref 0 0], [], .d .str, fun x => (bytesOf x.2.2.1).map fun s => (s, ())⟩
theorem rowsU8_get (l : List Int) {j : Nat} {n : Int} (h : l[j]? = some n) : (List.map (E.row (.int .u8)) l)[j]? = some [.int .u8 n] :=
  show (List.map (fun n : Int => [AV.int .u8 n]) l)[j]? = _ from by rw [List.getElem?_map, h]; rfl
theorem rowsU8_len (l : List Int) : (List.map (E.row (.int .u8)) l).length = l.length := List.length_map ..
theorem string_over (b0 : Bool) (l : List Int) (r : List UInt8) (hr : bytesOf l = some r) (B : Base) (kn : Kn) (m : Mp) (w : World) (vs : List Value) (hI : Inv CX B kn m (osto 0 (bldO false) ((b0, (), ()), l, ())) 2 w)
    (hlay : ∀ i, i < 2 → ∃ loc, m i = some loc) (hargs : RelL kn m [.ref 0 0 0] vs) : Does CX.P 114 vs.toArray w fun e w' => ∃ kn' m', KnLe kn kn' ∧ Inv CX B kn' m' [] 2 w' ∧ (∀ i, i < 2 → m' i = m i) ∧ RelOut kn' m' (.ret (.str r)) e := by
  obtain ⟨loc, hm⟩ := hlay 0 (by decide)
  obtain ⟨loc1, hm1⟩ := hlay 1 (by decide)
  have hp : (osto 0 (bldO false) ((b0, (), ()), l, ()))[0]? = some (0, .cells 136 [.mref 0 0 0 b0, .gs 1 1 (.int .u8) l.length]) := rfl
  have hp1 : (osto 0 (bldO false) ((b0, (), ()), l, ()))[1]? = some (1, .tg (.int .u8) 5 l) := rfl
  have hob := hI.obj _ _ _ hp
  have hob1 := hI.obj _ _ _ hp1
  simp only [ObjRel, hm] at hob
  obtain ⟨hnl, h0, arr, hw, hrl, hone⟩ := hob
  obtain ⟨v0, vs0, ha0, hr0, hrl⟩ := hrl.uncons
  obtain ⟨v1, vs1, rfl, hr1, hrl⟩ := hrl.uncons
  have : vs1 = [] := List.eq_nil_of_length_eq_zero hrl.1.symm
  subst this
  have harr : arr = #[v0, v1] := by rw [← Array.toArray_toList (xs := arr), ha0]
  subst harr
  obtain ⟨a, as1, rfl, hra, hargs⟩ := RelL.uncons hargs
  have : as1 = [] := List.eq_nil_of_length_eq_zero hargs.1.symm
  subst this
  have hra : Rel kn m (.ref 0 0 0) a := hra
  obtain ⟨q1, q2, q3⟩ := hI.own 0 0 _ loc hp trivial hm hnl
  unfold bytesOf at hr
  split at hr
  · rename_i hall
    cases hr
    cases hra with
    | ref _ _ _ loc' hm' =>
      rw [hm] at hm'; cases hm'
      rw [h0]
      refine .inl ⟨by kernel_rfl, ?_⟩
      have fin : ∀ (g : Nat) (w' : World), Same w w' g → ((B.w.heap.size ≤ g ∨ B.own g) ∧ ∀ o, kn g o = none) →
          ∃ kn' m', KnLe kn kn' ∧ Inv CX B kn' m' [] 2 w' ∧ (∀ i, i < 2 → m' i = m i) ∧ RelOut kn' m' (.ret (.str (l.map fun n => UInt8.ofNat n.toNat))) (.returned (.string ⟨(l.map fun n => UInt8.ofNat n.toNat).toArray⟩)) := fun g w' hs hg =>
        ⟨kn, m, KnLe.refl _, hI.forget hs (Nat.le_refl _) hg, fun _ _ => rfl, .str _⟩
      have hgv : GvRel kn m w 1 1 5 (l.map (E.row (.int .u8))) := hob1
      obtain ⟨locx, hx, hlen, hgv⟩ := hgv
      rw [hm1] at hx; cases hx
      have hr1 : Rel kn m (.gs 1 1 (.int .u8) l.length) v1 := hr1
      cases hr1 with
      | gs _ _ _ _ _ locy hy hly hsl =>
        rw [hm1] at hy; cases hy
        have hsl : Rel kn m (.sref 1 1 1 0 l.length) v1 := hsl
        generalize hn : l.length = n at hsl
        cases hsl with
        | srefNil _ _ _ locz hz hznil =>
          have hl : l = [] := List.eq_nil_of_length_eq_zero hn
          subst hl
          exact (string_nil loc.blk loc.blk w v0 hw).mono fun e w' ⟨he, hs⟩ => (by subst he; exact fin loc.blk w' hs ⟨q2, q3⟩)
        | sref _ _ _ _ _ locz hz hznil hze hzl hzm =>
          rw [hm1] at hz; cases hz
          rcases hgv with ⟨hnil, _⟩ | ⟨_, hesz, arr1, hw1, hsz, hcap, hmax, hone1, hrow, hrel⟩
          · rw [hnil] at hznil; cases hznil
          obtain ⟨p1, p2, p3⟩ := hI.own 1 1 _ loc1 hp1 trivial hm1 hznil
          have hze : loc1.esz = 1 := hze
          simp only [Nat.zero_mul, Nat.add_zero, Nat.sub_zero] at hw ⊢
          by_cases hl0 : l = []
          · subst hl0
            have hn0 : n = 0 := hn.symm
            subst hn0
            by_cases hc0 : loc1.cap = 0
            · rw [hc0] at hw
              exact (string_noroom loc.blk loc1.blk loc1.blk loc1.off arr1 w v0 hw hw1).mono fun e w' ⟨he, hs⟩ => (by subst he; exact fin loc1.blk w' hs ⟨p2, p3⟩)
            · exact (string_room loc.blk loc1.blk loc1.blk loc1.off loc1.cap w v0 hc0 hw).mono fun e w' ⟨he, hs⟩ => (by subst he; exact fin loc1.blk w' hs ⟨p2, p3⟩)
          · have hll : (l.map fun n => UInt8.ofNat n.toNat).length = n := by rw [List.length_map]; exact hn
            subst hn
            rw [← hll] at hw
            have hcap' : l.length ≤ loc1.cap := (rowsU8_len l) ▸ hcap
            refine (string_row loc.blk loc1.blk loc1.off loc1.cap arr1 w (l.map fun n => UInt8.ofNat n.toNat) v0 (by simpa using hl0) hw hw1 (by simpa using hcap') (by omega) hmax (fun j x hx => ?_)).mono fun e w' ⟨he, hs⟩ => (by subst he; exact fin loc1.blk w' hs ⟨p2, p3⟩)
            rw [List.getElem?_map] at hx
            cases hlj : l[j]? with
            | none => rw [hlj] at hx; cases hx
            | some n =>
              rw [hlj] at hx
              simp only [Option.map_some, Option.some.injEq] at hx
              have hj := (List.getElem?_eq_some_iff.1 hlj).1
              have hnb : 0 ≤ n ∧ n < 256 := by
                have := List.all_eq_true.1 hall n (List.mem_of_getElem? hlj)
                simpa using this
              have hin : loc1.off + j < arr1.size := by omega
              have hrv := hrel j [.int .u8 n] 0 (.int .u8 n) arr1[loc1.off + j] (rowsU8_get l hlj) rfl (by
                rw [Nat.mul_one, Nat.add_zero]
                exact Array.getElem?_eq_getElem hin)
              rw [addr_add]
              rw [Lib.cell_of_heap hw1, Array.getElem?_eq_getElem hin]
              generalize arr1[loc1.off + j] = u at hrv
              cases hrv
              rw [← hx]
              have : ((UInt8.ofNat n.toNat).toNat : Int) = n := by
                have e : n.toNat < 2 ^ 8 := by omega
                rw [UInt8.toNat_ofNat_of_lt' e]; omega
              rw [this]
  · cases hr
theorem S_string_ok : SigOK CX 114 S_string := by
  refine ⟨by kernel_rfl, fun x r hr B kn m w vs hI hlay hargs => ?_⟩
  have hr : (bytesOf x.2.2.1).map (fun s => (s, ())) = some r := hr
  obtain ⟨s, hs, rfl⟩ := Option.map_eq_some_iff.1 hr
  exact (string_over x.2.1.1 x.2.2.1 s hs B kn m w vs hI hlay hargs).mono fun e w' ⟨kn', m', h1, h2, h3, h4⟩ => ⟨kn', m', h1, h2, h3, fun j hj => absurd hj (by show ¬ j < 0; omega), h4⟩
end Go.Ab

set_option linter.unusedVariables false
set_option linter.unusedSimpArgs false
set_option maxRecDepth 100000
namespace Go.Ab
open Go Go.RowKit Go.Proofs

def badR (c : Int) : Bool := !decide (c = 10) && (decide (c < 32) || decide (126 < c))
theorem badR_call (c : Int) : PCall CX 89 [.int .i32 c] (· = .ret (.bool (badR c))) := by
  refine pcall_mk 0 13 [.tmp 2] Tryd.func89 rfl (by decide) rfl rfl rfl ?_
  refine aw_sreg {} rfl rfl fun K KP hK hP => ?_
  simp only [go_sem, ↓reduceIte]
  apply hK; clear hK hP
  by_cases c1_0 : c = 10
  ·
    refine aw_sreg {} rfl rfl fun K KP hK hP => ?_
    simp only [go_sem, ↓reduceIte, c1_0]
    apply hK; clear hK hP
    refine aw_ret ?_
    simp only [go_sem, ↓reduceIte, c1_0, athen_ret] <;> (
      simp [badR])
  ·
    by_cases c1_1 : c < 32
    ·
      refine aw_sreg {} rfl rfl fun K KP hK hP => ?_
      simp only [go_sem, ↓reduceIte, c1_0, c1_1]
      apply hK; clear hK hP
      refine aw_ret ?_
      simp only [go_sem, ↓reduceIte, c1_0, c1_1, athen_ret] <;> (
        simp [badR, c1_0, c1_1])
    ·
      refine aw_sreg {} rfl rfl fun K KP hK hP => ?_
      simp only [go_sem, ↓reduceIte, c1_0, c1_1]
      apply hK; clear hK hP
      refine aw_ret ?_
      simp only [go_sem, ↓reduceIte, c1_0, c1_1, athen_ret] <;> (
        simp [badR, c1_0, c1_1])
def idxR (p : Int → Bool) (s : List UInt8) : Nat → Nat → Int
  | 0, _ => -1
  | f + 1, pos => if pos < s.length then (if p (Utf8.decode ⟨s.toArray⟩ pos).1 = true then pos else idxR p s f (pos + (Utf8.decode ⟨s.toArray⟩ pos).2)) else -1
theorem decode_wide (b : ByteArray) (i : Nat) : 1 ≤ (Utf8.decode b i).2 := by
  unfold Utf8.decode
  simp only
  repeat' split
  all_goals simp
theorem indexFunc_call (p : Int → Bool) (g : FuncId) (hg : ∀ c, PCall CX g [.int .i32 c] (· = .ret (.bool (p c)))) (s : List UInt8) : PCall CX 112 [.str s, .fn (.func g) [] [], .bool true] (· = .ret (.int .i64 (idxR p s (s.length + 1) 0))) := by
  refine pcall_mk 0 21 [.tmp 6] Tryd.func112 rfl (by decide) rfl rfl rfl ?_
  refine aw_sreg {} rfl rfl fun K KP hK hP => ?_
  simp only [go_sem, ↓reduceIte]
  apply hK; clear hK hP
  refine aw_seq ?_
  refine aw_sreg {} rfl rfl fun K KP hK hP => ?_
  simp only [go_sem, ↓reduceIte]
  apply hK; clear hK hP
  refine aw_block ?_
  refine aw_loop' (fun dd st => ∃ (pos f : Nat), (s.length < pos + f) ∧ (idxR p s f pos = idxR p s (s.length + 1) 0) ∧ f = dd ∧ [(0, .siter s pos)] = st.σ ∧ st.env 0 = .str s ∧ st.env 1 = .fn (.func g) [] [] ∧ st.env 2 = .bool true ∧ st.env 10 = .ref 0 0 0) (fun dd st hJ => ?_) ?_
  ·
    obtain ⟨env0, σ0, nx0⟩ := st
    obtain ⟨pos, f, hp0_0, hp0_1, hd0, hs0, e0_0, e0_1, e0_2, e0_10⟩ := hJ
    dsimp only at hs0  e0_0 e0_1 e0_2 e0_10
    subst hd0; subst hs0
    refine aw_forget' 1 rfl ?_
    by_cases c2 : pos < s.length
    ·
      refine aw_sreg {} rfl rfl fun K KP hK hP => ?_
      simp only [go_sem, ↓reduceIte, e0_0, e0_1, e0_2, e0_10, c2]
      apply hK; clear hK hP
      refine aw_seq ?_
      refine aw_if (True) (by simp only [go_sem, ↓reduceIte, e0_0, e0_1, e0_2, e0_10, c2]) (fun h2 => ?_) (fun h2 => ?_)
      ·
        refine aw_skip ?_
        refine athen_normal.2 ?_
        refine aw_block ?_
        refine aw_sreg {} rfl rfl fun K KP hK hP => ?_
        simp only [go_sem, ↓reduceIte, e0_0, e0_1, e0_2, e0_10, c2]
        apply hK; clear hK hP
        refine aw_sreg {} rfl rfl fun K KP hK hP => ?_
        simp only [go_sem, ↓reduceIte, e0_0, e0_1, e0_2, e0_10, c2]
        refine CallP.ret (hg _) (by simp only [go_sem]) ?_
        try simp only [go_sem, ↓reduceIte, e0_0, e0_1, e0_2, e0_10, c2]
        apply hK; clear hK hP
        refine aw_if (p (Utf8.decode ⟨s.toArray⟩ pos).1 = true) (by simp only [go_sem, ↓reduceIte, e0_0, e0_1, e0_2, e0_10, c2]) (fun h4 => ?_) (fun h4 => ?_)
        ·
          refine aw_sreg {} rfl rfl fun K KP hK hP => ?_
          simp only [go_sem, ↓reduceIte, e0_0, e0_1, e0_2, e0_10, c2]
          apply hK; clear hK hP
          refine aw_ret ?_
          refine ablock_ret.2 ?_
          refine afor_one ?_
          refine athen_ret.2 ?_
          refine ablock_ret.2 ?_
          refine athen_ret.2 ?_
          simp only [go_sem, ↓reduceIte, e0_0, e0_1, e0_2, e0_10, c2, athen_ret] <;> (
            rw [← hp0_1]
            cases f with
            | zero => omega
            | succ f => simp only [idxR, c2, if_true, h4])
        ·
          refine aw_skip ?_
          refine ablock_normal.2 ?_
          refine afor_one ?_
          refine athen_normal.2 ?_
          refine ⟨_, ?_, (pos + (Utf8.decode ⟨s.toArray⟩ pos).2), (f - 1), ?_, ?_, rfl, rfl, ?_, ?_, ?_, ?_⟩
          · have := decode_wide ⟨s.toArray⟩ pos
            omega
          · have := decode_wide ⟨s.toArray⟩ pos
            omega
          · rw [← hp0_1]
            cases f with
            | zero => omega
            | succ f => simp only [idxR, c2, if_true, h4, Nat.add_sub_cancel, if_false]; rfl
          · simp only [go_sem, ↓reduceIte, e0_0, e0_1, e0_2, e0_10, c2] <;> try rfl
          · simp only [go_sem, ↓reduceIte, e0_0, e0_1, e0_2, e0_10, c2] <;> try rfl
          · simp only [go_sem, ↓reduceIte, e0_0, e0_1, e0_2, e0_10, c2] <;> try rfl
          · simp only [go_sem, ↓reduceIte, e0_0, e0_1, e0_2, e0_10, c2] <;> try rfl
      ·
        exact absurd trivial h2
    ·
      refine aw_sreg {} rfl rfl fun K KP hK hP => ?_
      simp only [go_sem, ↓reduceIte, e0_0, e0_1, e0_2, e0_10, c2]
      apply hK; clear hK hP
      refine aw_seq ?_
      refine aw_if (False) (by simp only [go_sem, ↓reduceIte, e0_0, e0_1, e0_2, e0_10, c2]) (fun h2 => ?_) (fun h2 => ?_)
      ·
        exact h2.elim
      ·
        refine aw_exit ?_
        refine athen_exit.2 ?_
        refine afor_one ?_
        refine athen_exit.2 ?_
        refine ablock_here ?_
        refine athen_normal.2 ?_
        refine aw_sreg {} rfl rfl fun K KP hK hP => ?_
        simp only [go_sem, ↓reduceIte, e0_0, e0_1, e0_2, e0_10, c2]
        apply hK; clear hK hP
        refine aw_ret ?_
        simp only [go_sem, ↓reduceIte, e0_0, e0_1, e0_2, e0_10, c2, athen_ret] <;> (
          rw [← hp0_1]
          cases f with
          | zero => rfl
          | succ f => simp only [idxR, c2, if_false])
  ·
    refine ⟨_, 0, s.length + 1, ?_, ?_, rfl, ?_, ?_, ?_, ?_, ?_⟩
    · first | omega | trivial | assumption
    · first | omega | trivial | assumption
    · first | rfl | (simp only [go_sem, ↓reduceIte])
    · simp only [go_sem, ↓reduceIte] <;> try rfl
    · simp only [go_sem, ↓reduceIte] <;> try rfl
    · simp only [go_sem, ↓reduceIte] <;> try rfl
    · simp only [go_sem, ↓reduceIte] <;> try rfl
theorem indexFunc2_call (p : Int → Bool) (g : FuncId) (hg : ∀ c, PCall CX g [.int .i32 c] (· = .ret (.bool (p c)))) (s : List UInt8) : PCall CX 99 [.str s, .fn (.func g) [] []] (· = .ret (.int .i64 (idxR p s (s.length + 1) 0))) := by
  refine pcall_mk 0 8 [.tmp 4] Tryd.func99 rfl (by decide) rfl rfl rfl ?_
  refine aw_sreg {} rfl rfl fun K KP hK hP => ?_
  simp only [go_sem, ↓reduceIte]
  apply hK; clear hK hP
  refine aw_sreg {} rfl rfl fun K KP hK hP => ?_
  simp only [go_sem, ↓reduceIte]
  refine CallP.ret (indexFunc_call p g hg s) (by simp only [go_sem]) ?_
  try simp only [go_sem, ↓reduceIte]
  apply hK; clear hK hP
  refine aw_ret ?_
  simp only [go_sem, ↓reduceIte, athen_ret]
theorem containsFunc_call (p : Int → Bool) (g : FuncId) (hg : ∀ c, PCall CX g [.int .i32 c] (· = .ret (.bool (p c)))) (s : List UInt8) : PCall CX 90 [.str s, .fn (.func g) [] []] (· = .ret (.bool (decide (0 ≤ idxR p s (s.length + 1) 0)))) := by
  refine pcall_mk 0 9 [.tmp 4] Tryd.func90 rfl (by decide) rfl rfl rfl ?_
  refine aw_sreg {} rfl rfl fun K KP hK hP => ?_
  simp only [go_sem, ↓reduceIte]
  apply hK; clear hK hP
  refine aw_sreg {} rfl rfl fun K KP hK hP => ?_
  simp only [go_sem, ↓reduceIte]
  refine CallP.ret (indexFunc2_call p g hg s) (by simp only [go_sem]) ?_
  try simp only [go_sem, ↓reduceIte]
  apply hK; clear hK hP
  refine aw_ret ?_
  simp only [go_sem, ↓reduceIte, athen_ret]

def badT (t : List UInt8) : Bool := decide (0 ≤ idxR badR t (t.length + 1) 0)
noncomputable def S_containsBad : Sig := .n [.d .str, .c (.fn (.func 89) [] [])] (.d .bool) (fun x => some (badT x.1))
theorem S_containsBad_ok : SigOK CX 90 S_containsBad := fun x r h => by cases h; exact containsFunc_call badR _ badR_call x.1
end Go.Ab
