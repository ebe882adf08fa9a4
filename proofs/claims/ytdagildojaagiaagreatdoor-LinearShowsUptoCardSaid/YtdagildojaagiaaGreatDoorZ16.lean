/-
  SORTING: reversing a range; the choice of a pivot.
-/
import Derived.Test.YtdagildojaagiaaGreatDoorZ15
import Derived.Test.YtdagildojaagiaaGreatDoorZ11
import Derived.Test.YtdagildojaagiaaGreatDoorZ12
import Derived.Test.YtdagildojaagiaaGreatDoorZ10
import Derived.Test.YtdagildojaagiaaGreatDoorZ13
import Derived.Laws.RangeAny
import Derived.Laws.RangeString
import Derived.Test.YtdagildojaagiaaGreatDoorZ14
set_option linter.unusedVariables false
set_option linter.unusedSimpArgs false
set_option maxRecDepth 100000
namespace Go.Ab
open Go Go.RowKit Go.Proofs
mutual
def Fm.size : Fm → Nat
 | .mk k _ _ l => 1 + (if k = 3 then Fm.sizeL l else 0)
def Fm.sizeL : List Fm → Nat
 | [] => 0
 | f :: r => f.size + Fm.sizeL r
end
mutual
def Fm.depth : Fm → Nat
 | .mk k _ _ l => 1 + (if k = 3 then Fm.depthL l else 0)
def Fm.depthL : List Fm → Nat
 | [] => 0
 | f :: r => max f.depth (Fm.depthL r)
end
theorem sizeL_le : ∀ l : List Fm, (∀ f ∈ l, f.size ≤ f.big) → Fm.sizeL l ≤ Fm.bigL l
 | [], _ => by simp [Fm.sizeL, Fm.bigL]
 | f :: r, h => by
  simp only [Fm.sizeL, Fm.bigL]
  have := h f (by simp)
  have := sizeL_le r fun g hg => h g (by simp [hg])
  omega
theorem size_le : ∀ f : Fm, f.size ≤ f.big := Fm.ind fun k n t l ih => by
 have := sizeL_le l ih
 simp only [Fm.size, Fm.big]
 split <;> omega
theorem depthL_le : ∀ l : List Fm, (∀ f ∈ l, f.depth ≤ f.big) → Fm.depthL l ≤ Fm.bigL l
 | [], _ => by simp [Fm.depthL, Fm.bigL]
 | f :: r, h => by
  simp only [Fm.depthL, Fm.bigL]
  have := h f (by simp)
  have := depthL_le r fun g hg => h g (by simp [hg])
  omega
theorem depth_le : ∀ f : Fm, f.depth ≤ f.big := Fm.ind fun k n t l ih => by
 have := depthL_le l ih
 simp only [Fm.depth, Fm.big]
 split <;> omega
theorem sizeL_take (l : List Fm) {i : Nat} (h : i < l.length) : Fm.sizeL (l.take (i + 1)) = Fm.sizeL (l.take i) + l[i].size := by
 rw [List.take_succ_eq_append_getElem h]
 have : ∀ a b : List Fm, Fm.sizeL (a ++ b) = Fm.sizeL a + Fm.sizeL b := by
  intro a b
  induction a with
  | nil => simp [Fm.sizeL]
  | cons x r ih => simp only [List.cons_append, Fm.sizeL, ih]; omega
 rw [this]; simp [Fm.sizeL]
theorem depthL_take (l : List Fm) {i : Nat} (h : i < l.length) : Fm.depthL (l.take (i + 1)) = max (Fm.depthL (l.take i)) l[i].depth := by
 rw [List.take_succ_eq_append_getElem h]
 have : ∀ a b : List Fm, Fm.depthL (a ++ b) = max (Fm.depthL a) (Fm.depthL b) := by
  intro a b
  induction a with
  | nil => simp [Fm.depthL]
  | cons x r ih => simp only [List.cons_append, Fm.depthL, ih]; omega
 rw [this]; simp [Fm.depthL]
theorem sizeL_take_le (l : List Fm) (i : Nat) : Fm.sizeL (l.take i) ≤ Fm.sizeL l := by
 induction l generalizing i with
 | nil => simp
 | cons f r ih => cases i with
  | zero => simp [Fm.sizeL]
  | succ i => simp only [List.take_succ_cons, Fm.sizeL]; have := ih i; omega
theorem kids_val (f : Fm) : G_kids f = some (if f.k = 3 then f.l else []) := by
 unfold G_kids
 by_cases h : f.k = 3
 ·simp [h]
 ·simp [h]
def wordS (t : List UInt8) : Bool := decide (t ≠ []) && (decide (t.length ≤ 30) && !numericS t)
def leafS (k n : Int) (t : List UInt8) (l : List Fm) : Bool :=
 if k = 0 then decide (t = []) && (decide (l = []) && (decide (-1152921504606846976 ≤ n) && decide (n ≤ 1152921504606846976)))
 else if k = 1 then (wordS t && t.all fun c => !outsideS c) && (decide (n = 0) && decide (l = []))
 else if k = 2 then decide (t.length ≤ 2000) && (!badT t && (decide (n = 0) && decide (l = [])))
 else if k = 3 then decide (t = []) && decide (n = 0)
 else false
theorem outside_byte {t : List UInt8} {i : Nat} (h : i < t.length) : outsideF (byteAt t (i : Int)) = some (outsideS t[i]) := by
 have hb := t[i].toNat_lt
 have e : byteAt t (i : Int) = (t[i].toNat : Int) := by unfold byteAt; simp [h]
 unfold outsideF
 rw [e, if_pos (by omega)]
 simp
theorem word_loop {a n : Int} {t : List UInt8} {l : List Fm} {A : Type} {v : A} (F : ((Int × Int × (List UInt8) × (List Fm) × Unit) × Bool × Unit) × (Unit) → Option A) (b0 : Bool) (ht : t.length ≤ 30)
  (hF : F ((((a, n, t, l, ()), b0 && t.all fun c => !outsideS c, ()), ())) = some v) :
  Option.bind (loopM (L := ((Int × Int × (List UInt8) × (List Fm) × Unit) × Bool × Int × Unit) × (Unit)) (R := ((Int × Int × (List UInt8) × (List Fm) × Unit) × Bool × Unit) × (Unit)) (fun d2 => (
 let v3_3 := d2.1.2.1
 let v4_4 := d2.1.2.2.1
 cond (cond (decide (v4_4 < (d2.1.1.2.2.1.length : Int))) v3_3 false) (cond (ixOK v4_4 d2.1.1.2.2.1.length) (Option.bind (α := Bool) (outsideF (byteAt d2.1.1.2.2.1 v4_4)) fun r5 => (
 some (Step.next (((d2.1.1.1, d2.1.1.2.1, d2.1.1.2.2.1, d2.1.1.2.2.2.1, ()), !r5, IntKind.wrap .i64 (v4_4 + 1), ()), ())))) none) (some (Step.done (((d2.1.1.1, d2.1.1.2.1, d2.1.1.2.2.1, d2.1.1.2.2.2.1, ()), v3_3, ()), ()))))) (((a, n, t, l, ()), b0, 0, ()), ())) F = some v := by
 have key : ∀ j i (b : Bool), i + j = t.length → F ((((a, n, t, l, ()), b && (t.drop i).all fun c => !outsideS c, ()), ())) = some v → Option.bind (loopM (L := ((Int × Int × (List UInt8) × (List Fm) × Unit) × Bool × Int × Unit) × (Unit)) (R := ((Int × Int × (List UInt8) × (List Fm) × Unit) × Bool × Unit) × (Unit)) (fun d2 => (
 let v3_3 := d2.1.2.1
 let v4_4 := d2.1.2.2.1
 cond (cond (decide (v4_4 < (d2.1.1.2.2.1.length : Int))) v3_3 false) (cond (ixOK v4_4 d2.1.1.2.2.1.length) (Option.bind (α := Bool) (outsideF (byteAt d2.1.1.2.2.1 v4_4)) fun r5 => (
 some (Step.next (((d2.1.1.1, d2.1.1.2.1, d2.1.1.2.2.1, d2.1.1.2.2.2.1, ()), !r5, IntKind.wrap .i64 (v4_4 + 1), ()), ())))) none) (some (Step.done (((d2.1.1.1, d2.1.1.2.1, d2.1.1.2.2.1, d2.1.1.2.2.2.1, ()), v3_3, ()), ()))))) (((a, n, t, l, ()), b, (i : Int), ()), ())) F = some v := by
  intro j
  induction j with
  | zero =>
   intro i b hi hv
   obtain rfl : i = t.length := by omega
   rw [loopM_done (r := (((a, n, t, l, ()), b, ()), ())) (by simp)]
   simpa using hv
  | succ j ih =>
   intro i b hi hv
   have hlt : i < t.length := by omega
   cases b with
   | false =>
    rw [loopM_done (r := (((a, n, t, l, ()), false, ()), ())) (by simp)]
    simpa using hv
   | true =>
    have e1 : decide ((i : Int) < (t.length : Int)) = true := by simp [hlt]
    have e2 : ixOK (i : Int) t.length = true := ixOK_iff.2 (by omega)
    rw [loopM_next (l' := (((a, n, t, l, ()), !outsideS t[i], ((i + 1 : Nat) : Int), ()), ())) (by
     simp only [e1, e2, cond_true, outside_byte hlt, Option.bind_some, wrapN (show i < 4611686018427387904 by omega)])]
    refine ih (i + 1) _ (by omega) ?_
    rw [List.drop_eq_getElem_cons hlt, List.all_cons, Bool.true_and] at hv
    exact hv
 exact key t.length 0 b0 (by omega) (by simpa using hF)
theorem len0 {α : Type} (l : List α) : decide ((l.length : Int) = 0) = decide (l = []) := by
 cases l with
 | nil => rfl
 | cons a r =>
  have : ¬ ((a :: r).length : Int) = 0 := by simp only [List.length_cons]; omega
  simp only [this, decide_false]; rfl
theorem leaf_val (f : Fm) : G_leaf f = some (leafS f.k f.n f.t f.l) := by
 unfold G_leaf leafS
 generalize f.k = a
 generalize f.n = n
 generalize f.t = t
 generalize f.l = l
 simp only [len0]
 by_cases h0 : a = 0
 ·subst h0
  simp only [decide_true, cond_true, if_true, Option.bind_some, ge_iff_le]
  congr 1
  apply Bool.eq_iff_iff.2
  simp [and_assoc]
 ·simp only [h0, decide_false, cond_false, if_false]
  by_cases h1 : a = 1
  ·subst h1
   simp only [decide_true, cond_true, if_true]
   by_cases hn : t = []
   ·subst hn
    simp only [decide_true, Bool.not_true, cond_false, Option.bind_some]
    rw [loopM_done (r := (((1, n, [], l, ()), false, ()), ())) (by simp)]
    simp [wordS]
   ·by_cases hl : t.length ≤ 30
    ·have e1 : decide ((t.length : Int) ≤ 30) = true := by simp; omega
     have hnum : numericF t = some (numericS t) := by unfold numericF; rw [if_pos (by omega)]
     simp only [hn, decide_false, Bool.not_false, cond_true, e1, hnum, Option.bind_some]
     rw [word_loop (v := Step.done (cond (cond ((!numericS t) && t.all fun c => !outsideS c) (decide (n = 0)) false) (decide (l = [])) false)) _ _ hl (by simp only [len0])]
     simp only [Option.bind_some]
     congr 1
     have ew : wordS t = !numericS t := by simp [wordS, hn, hl]
     rw [ew]
     apply Bool.eq_iff_iff.2
     simp [and_assoc]
    ·have e1 : decide ((t.length : Int) ≤ 30) = false := by simp; omega
     simp only [hn, decide_false, Bool.not_false, cond_true, e1, cond_false, Option.bind_some]
     rw [loopM_done (r := (((1, n, t, l, ()), false, ()), ())) (by simp)]
     simp [wordS, hl]
  ·simp only [h1, decide_false, cond_false, if_false]
   by_cases h2 : a = 2
   ·subst h2
    simp only [decide_true, cond_true, if_true]
    by_cases hl : t.length ≤ 2000
    ·have e1 : decide ((t.length : Int) ≤ 2000) = true := by simp; omega
     simp only [e1, cond_true, Option.bind_some, hl, decide_true, Bool.true_and]
     congr 1
     apply Bool.eq_iff_iff.2
     simp [and_assoc]
    ·have e1 : decide ((t.length : Int) ≤ 2000) = false := by simp; omega
     simp [e1, hl]
   ·simp only [h2, decide_false, cond_false, if_false]
    by_cases h3 : a = 3
    ·subst h3
     simp only [decide_true, cond_true, if_true, Option.bind_some]
     congr 1
     apply Bool.eq_iff_iff.2
     simp [and_assoc]
    ·simp [h3]
end Go.Ab

set_option maxRecDepth 100000
namespace Go.Ab
open Go Go.RowKit Go.Proofs
end Go.Ab

namespace Go.Ab
open Go Go.RowKit
mutual
def eqSh : (s : Sh) → s.den → s.den → Bool
 | .d e, x, y => eqE e x y
 | .c _, _, _ => true
 | .ref _ _, _, _ => true
 | .gs _ _, _, _ => true
 | .mref _ _, x, y => eqBl x y
 | .gv _ _, _, _ => false
 | .agg l, x, y => eqShL l x y
 | .tup l, x, y => eqShL l x y
 | .rptr l, x, y => eqShL l x y
 | .fn _ _ _, _, _ => false
 | .iface _ s, x, y => eqSh s x y
def eqShL : (l : List Sh) → Sh.denL l → Sh.denL l → Bool
 | [], _, _ => true
 | s :: l, x, y => eqSh s x.1 y.1 && eqShL l x.2 y.2
end
mutual
theorem eqSh_sound : ∀ (s : Sh) (x y : s.den), eqSh s x y = true → x = y
 | .d e, x, y, h => eqE_sound e x y h
 | .c _, x, y, h => rfl
 | .ref _ _, x, y, h => rfl
 | .gs _ _, x, y, h => rfl
 | .mref _ _, x, y, h => eqBl_sound x y h
 | .gv _ _, x, y, h => by cases h
 | .agg l, x, y, h => eqShL_sound l x y h
 | .tup l, x, y, h => eqShL_sound l x y h
 | .rptr l, x, y, h => eqShL_sound l x y h
 | .fn _ _ _, x, y, h => by cases h
 | .iface _ s, x, y, h => eqSh_sound s x y h
theorem eqShL_sound : ∀ (l : List Sh) (x y : Sh.denL l), eqShL l x y = true → x = y
 | [], x, y, h => rfl
 | s :: l, (x1, x2), (y1, y2), h => by
  have h : (eqSh s x1 y1 && eqShL l x2 y2) = true := h
  rw [Bool.and_eq_true] at h
  rw [eqSh_sound s x1 y1 h.1, eqShL_sound l x2 y2 h.2]
end
end Go.Ab

set_option maxRecDepth 100000
namespace Go.Ab
open Go Go.RowKit Go.Proofs
end Go.Ab

set_option maxRecDepth 100000
namespace Go.Ab
open Go Go.RowKit Go.Proofs
end Go.Ab

set_option maxRecDepth 100000
namespace Go.Ab
open Go Go.RowKit Go.Proofs
mutual
def validS : Fm → Int → Int → Bool × Int
 | .mk k n t l, p, d => if p - 1 < 0 ∨ d = 0 ∨ leafS k n t l = false then (false, p - 1) else validLS l (p - 1) (d - 1)
def validLS : List Fm → Int → Int → Bool × Int
 | [], p, _ => (true, p)
 | f :: r, p, d => if (validS f p d).1 = true then validLS r (validS f p d).2 d else (false, (validS f p d).2)
end
def validF (f : Fm) : Bool := (validS f 20000 100).1
theorem validLS_drop {l : List Fm} {i : Nat} (h : i < l.length) (p d : Int) : validLS (l.drop i) p d = if (validS l[i] p d).1 = true then validLS (l.drop (i + 1)) (validS l[i] p d).2 d else (false, (validS l[i] p d).2) := by
 rw [List.drop_eq_getElem_cons h]; simp only [validLS]
theorem validLS_ok : ∀ (l : List Fm), (∀ f ∈ l, ∀ p d : Int, 0 ≤ p → (validS f p d).1 = true → 0 ≤ (validS f p d).2 ∧ (validS f p d).2 ≤ p) → ∀ p d : Int, 0 ≤ p → (validLS l p d).1 = true → 0 ≤ (validLS l p d).2 ∧ (validLS l p d).2 ≤ p
 | [], _, p, d, hp, _ => ⟨hp, Int.le_refl _⟩
 | f :: r, h, p, d, hp, ht => by
  simp only [validLS] at ht ⊢
  split at ht
  ·rename_i hf
   rw [if_pos hf]
   obtain ⟨h1, h2⟩ := h f (by simp) p d hp hf
   obtain ⟨h3, h4⟩ := validLS_ok r (fun g hg => h g (by simp [hg])) _ d h1 ht
   exact ⟨h3, by omega⟩
  ·cases ht
theorem validS_ok : ∀ f : Fm, ∀ p d : Int, 0 ≤ p → (validS f p d).1 = true → 0 ≤ (validS f p d).2 ∧ (validS f p d).2 ≤ p := Fm.ind fun k n t l ih p d hp ht => by
 simp only [validS] at ht ⊢
 split at ht
 ·cases ht
 ·rename_i hc
  rw [if_neg hc]
  obtain ⟨h1, h2⟩ := validLS_ok l ih (p - 1) (d - 1) (by have := fun h => hc (.inl h); omega) ht
  exact ⟨h1, by omega⟩
def cI (l : List Fm) (p d : Int) : Nat → Int
 | 0 => p
 | i + 1 => match l[i]? with
  | some f => if (validS f (cI l p d i) d).1 = true then (validS f (cI l p d i) d).2 else cI l p d i
  | none => cI l p d i
theorem cI_ok (l : List Fm) (p d : Int) (hp : 0 ≤ p) : ∀ i, 0 ≤ cI l p d i ∧ cI l p d i ≤ p
 | 0 => ⟨hp, Int.le_refl _⟩
 | i + 1 => by
  obtain ⟨h1, h2⟩ := cI_ok l p d hp i
  simp only [cI]
  split
  ·rename_i f hf
   split
   ·rename_i hv
    obtain ⟨h3, h4⟩ := validS_ok f _ d h1 hv
    exact ⟨h3, by omega⟩
   ·exact ⟨h1, h2⟩
  ·exact ⟨h1, h2⟩
theorem validS_eq (f : Fm) (p d : Int) : validS f p d = if p - 1 < 0 ∨ d = 0 ∨ leafS f.k f.n f.t f.l = false then (false, p - 1) else validLS f.l (p - 1) (d - 1) := by
 cases f; simp only [validS]; rfl
theorem valid_up : ∀ k, ∀ (f : Fm) (p d : Int), f.big ≤ 4611686018427387000 → 0 ≤ p → p ≤ 4611686018427387000 → 0 ≤ d → d ≤ 4611686018427387000 → Up (k < f.big) (G_valid k f d (p, ())) ((validS f p d).1, (((validS f p d).2, ()), ()))
 | 0 => fun f p d hb _ _ _ _ => .inr ⟨by unfold G_valid; rfl, by have := big_pos f; omega⟩
 | k + 1 => fun f p d hb hp0 hp1 hd0 hd1 => by
  have hkb := big_kids f
  have hln := length_le_big f.l
  have hmem : ∀ g ∈ f.l, g.big < f.big := fun g hg => by have := big_mem hg; omega
  rw [validS_eq]
  unfold G_valid
  simp only [Fm.eta_eq, leaf_val]
  rw [show IntKind.wrap .i64 (p - 1) = p - 1 from w64 (by omega) (by omega)]
  generalize leafS f.k f.n f.t f.l = b
  generalize f.l = l at hkb hln hmem
  by_cases h1 : p - 1 < 0
  ·simp only [h1, decide_true, cond_true, Bool.not_true, cond_false, Option.bind_some, true_or, if_true]; exact .of rfl
  ·by_cases h2 : d = 0
   ·simp only [h1, h2, decide_false, decide_true, cond_true, cond_false, Bool.not_true, Option.bind_some, true_or, or_true, if_true]; exact .of rfl
   ·cases b with
    | false => simp only [h1, h2, decide_false, cond_true, cond_false, Bool.not_false, Option.bind_some, or_true, if_true]; exact .of rfl
    | true =>
     simp only [h1, h2, decide_false, cond_true, cond_false, Bool.not_false, Bool.not_true, Option.bind_some, Bool.true_eq_false, or_false, if_false]
     refine loop_ix (fun i => (((), d, l, (l.length : Int), (i : Int), ()), ((cI l (p - 1) (d - 1) i, ()), ()))) (fun i => ((validLS (l.drop i) (cI l (p - 1) (d - 1) i) (d - 1)).1, (((validLS (l.drop i) (cI l (p - 1) (d - 1) i) (d - 1)).2, ()), ()))) l.length (fun i hi => ?_) ?_
     ·have e1 : decide ((i : Int) < (l.length : Int)) = true := by simp [hi]
      have e2 : ixOK (i : Int) l.length = true := ixOK_iff.2 (by omega)
      obtain ⟨c1, c2⟩ := cI_ok l (p - 1) (d - 1) (by omega) i
      have hg := hmem _ (List.getElem_mem hi)
      simp only [e1, e2, cond_true, Int.toNat_natCast, getD_in hi, Fm.eta_eq, wrapN (show i < 4611686018427387904 by omega), validLS_drop hi, w64 (show -9223372036854775808 ≤ d - 1 by omega) (by omega)]
      have hcI : cI l (p - 1) (d - 1) (i + 1) = if (validS l[i] (cI l (p - 1) (d - 1) i) (d - 1)).1 = true then (validS l[i] (cI l (p - 1) (d - 1) i) (d - 1)).2 else cI l (p - 1) (d - 1) i := by
       simp only [cI, List.getElem?_eq_getElem hi]
      rcases valid_up k l[i] (cI l (p - 1) (d - 1) i) (d - 1) (by omega) c1 (by omega) (by omega) (by omega) with h | ⟨h, hn⟩
      ·rw [h]
       simp only [Option.bind_some]
       by_cases hv : (validS l[i] (cI l (p - 1) (d - 1) i) (d - 1)).1 = true
       ·rw [if_pos hv] at hcI
        refine .inl ⟨?_, ?_⟩
        ·rw [hcI, hv]; rfl
        ·rw [if_pos hv, hcI]
       ·have hv' : (validS l[i] (cI l (p - 1) (d - 1) i) (d - 1)).1 = false := by simpa using hv
        refine .inr (.inl ⟨.done (false, (((validS l[i] (cI l (p - 1) (d - 1) i) (d - 1)).2, ()), ())), by rw [hv']; rfl, .of ?_⟩)
        rw [if_neg hv]
      ·rw [h]; exact .inr (.inr ⟨rfl, by omega⟩)
     ·refine ⟨.next ((), ((cI l (p - 1) (d - 1) l.length, ()), ())), by simp, .of ?_⟩
      simp [validLS]
theorem valid_val {f : Fm} {p d : Int} (hb : f.big ≤ 4611686018427387000) (h1 : 0 ≤ p) (h2 : p ≤ 4611686018427387000) (h3 : 0 ≤ d) (h4 : d ≤ 4611686018427387000) : L_valid f d (p, ()) = some ((validS f p d).1, (((validS f p d).2, ()), ())) := limF_up (b := f.big) fun k => valid_up k f p d hb h1 h2 h3 h4
theorem rvalid_val {f : Fm} (hb : f.big ≤ 4611686018427387000) : G_rvalid f = some (validF f) := by
 unfold G_rvalid
 rw [Fm.eta_eq, valid_val hb (by omega) (by omega) (by omega) (by omega)]
 rfl
theorem head_val (f : Fm) : G_head f = some (match (if f.k = 3 then f.l else []) with | [] => [] | g :: _ => if g.k = 1 then g.t else []) := by
 unfold G_head
 simp only [Fm.eta_eq, kids_val, Option.bind_some]
 generalize (if f.k = 3 then f.l else []) = l
 cases l with
 | nil => simp [ixOK]
 | cons g r =>
  have e : ixOK 0 (g :: r).length = true := ixOK_iff.2 (by simp only [List.length_cons]; omega)
  have e2 : decide (((g :: r).length : Int) > 0) = true := by simp only [List.length_cons]; simp
  simp only [e, e2, Bool.true_or, cond_true]
  show cond (decide (g.k = 1)) (some g.t) (some []) = _
  by_cases h : g.k = 1 <;> simp [h]
end Go.Ab

set_option maxRecDepth 100000
namespace Go.Ab
open Go Go.RowKit Go.Proofs
end Go.Ab

set_option maxRecDepth 100000
namespace Go.Ab
open Go Go.RowKit Go.Proofs
theorem Up.get {R : Type} {o : Option R} {v : R} (h : Up False o v) : o = some v := h.elim id fun h => h.2.elim
theorem byteAt_in {t : List UInt8} {i : Nat} (h : i < t.length) : byteAt t (i : Int) = (t[i].toNat : Int) := by
 unfold byteAt; simp [h]
theorem visible_val (c : UInt8) : G_visible (c.toNat : Int) = some (!outsideS c) := by
 have : ∀ n : Fin 256, G_visible ((UInt8.ofFin n).toNat : Int) = some (!outsideS (UInt8.ofFin n)) := by decide +kernel
 exact this c.toFin
theorem digitB_eq (c : UInt8) : digitB c = (decide (48 ≤ c.toNat) && decide (c.toNat ≤ 57)) := by
 have : ∀ n : Fin 256, digitB (UInt8.ofFin n) = (decide (48 ≤ (UInt8.ofFin n).toNat) && decide ((UInt8.ofFin n).toNat ≤ 57)) := by decide +kernel
 exact this c.toFin
theorem digits_loop (s : List UInt8) (hs : s.length ≤ 4611686018427387000) :
  Option.bind (α := Step (((List UInt8) × Unit) × (Unit)) (Bool))
 (loopM (L := ((List UInt8) × Int × Unit) × (Unit)) (R := Step (((List UInt8) × Unit) × (Unit)) (Bool)) (fun d3 => (
 let v0_4 := d3.1.1
 let v3_5 := d3.1.2.1
 cond (decide (v3_5 < (v0_4.length : Int))) (cond (ixOK v3_5 v0_4.length) (cond ((ixOK v3_5 v0_4.length) || !(!(decide (byteAt v0_4 v3_5 < 48)))) (cond (cond (decide (byteAt v0_4 v3_5 < 48)) true (decide (byteAt v0_4 v3_5 > 57))) (some (Step.done (Step.done false))) (some (Step.next ((v0_4, IntKind.wrap .i64 (v3_5 + 1), ()), ())))) none) none) (some (Step.done (Step.next ((v0_4, ()), ())))))) ((s, 0, ()), ())) (fun qd6 => match qd6 with
 | .next d6 => (
 let v0_7 := d6.1.1
 some (!decide (v0_7 = [])))
 | .done r => some r) = some (!decide (s = []) && s.all digitB) := by
 refine Up.get ?_
 have h := loop_ix (N := False) (F := fun qd6 : Step (((List UInt8) × Unit) × (Unit)) (Bool) => match qd6 with
 | .next d6 => (
 let v0_7 := d6.1.1
 some (!decide (v0_7 = [])))
 | .done r => some r) (b := (fun d3 : ((List UInt8) × Int × Unit) × (Unit) => (
 let v0_4 := d3.1.1
 let v3_5 := d3.1.2.1
 cond (decide (v3_5 < (v0_4.length : Int))) (cond (ixOK v3_5 v0_4.length) (cond ((ixOK v3_5 v0_4.length) || !(!(decide (byteAt v0_4 v3_5 < 48)))) (cond (cond (decide (byteAt v0_4 v3_5 < 48)) true (decide (byteAt v0_4 v3_5 > 57))) (some (Step.done (Step.done false))) (some (Step.next ((v0_4, IntKind.wrap .i64 (v3_5 + 1), ()), ())))) none) none) (some (Step.done (Step.next ((v0_4, ()), ()))))))) (fun i => ((s, (i : Int), ()), ())) (fun i => (!decide (s = []) && (s.drop i).all digitB)) s.length (fun i hi => ?_) ?_
 ·simpa using h
 ·have e1 : decide ((i : Int) < (s.length : Int)) = true := by simp [hi]
  have e2 : ixOK (i : Int) s.length = true := ixOK_iff.2 (by omega)
  have e3 : decide (s = []) = false := by
   apply decide_eq_false
   intro h
   simp [h] at hi
  rw [List.drop_eq_getElem_cons hi]
  simp only [e1, e2, e3, cond_true, Bool.true_or, byteAt_in hi, wrapN (show i < 4611686018427387904 by omega), List.all_cons, Bool.not_false, Bool.true_and]
  by_cases c : digitB s[i] = true
  ·have c' := c
   rw [digitB_eq] at c'
   simp only [Bool.and_eq_true, decide_eq_true_eq] at c'
   refine .inl ⟨?_, by rw [c]; simp⟩
   have a1 : ¬ ((s[i].toNat : Int) < 48) := by omega
   have a2 : ¬ ((s[i].toNat : Int) > 57) := by omega
   simp [a1, a2]
  ·refine .inr (.inl ⟨.done false, ?_, .of (by simp [c])⟩)
   rw [digitB_eq] at c
   by_cases a1 : ((s[i].toNat : Int) < 48)
   ·simp [a1]
   ·have a2 : ((s[i].toNat : Int) > 57) := by
     simp only [Bool.and_eq_true, decide_eq_true_eq] at c
     omega
    simp [a1, a2]
 ·refine ⟨.next ((s, ()), ()), by simp, .of (by simp)⟩
theorem digits_val {t : List UInt8} (ht : t.length ≤ 4611686018427387000) : G_digits t = some (numericS t) := by
 unfold G_digits
 rcases t with _ | ⟨c, _ | ⟨d, r⟩⟩
 ·simp only [List.length_nil]
  show Option.bind (some ((([] : List UInt8), ()), ())) _ = _
  simp only [Option.bind_some]
  refine (digits_loop [] (by simp)).trans ?_
  rfl
 ·have e2 : decide (([c].length : Int) > 1) = false := by simp
  simp only [e2, Bool.not_false, Bool.or_true, cond_true, cond_false, Option.bind_some]
  refine (digits_loop [c] (by simp)).trans ?_
  congr 1
  unfold numericS cutMinus
  by_cases h : c = 45
  ·subst h; simp [digitB]; decide
  ·simp [h]
 ·have e0 : ixOK 0 (c :: d :: r).length = true := ixOK_iff.2 (by simp only [List.length_cons]; omega)
  have e2 : decide (((c :: d :: r).length : Int) > 1) = true := by simp only [List.length_cons]; apply decide_eq_true; omega
  have e3 : byteAt (c :: d :: r) 0 = (c.toNat : Int) := byteAt_in (t := c :: d :: r) (i := 0) (by simp)
  simp only [List.length_cons] at ht
  simp only [e0, e2, e3, cond_true, Bool.true_or]
  by_cases h : c = 45
  ·subst h
   have e4 : slOK 1 (((45 : UInt8) :: d :: r).length : Int) ((45 : UInt8) :: d :: r).length = true := by simp [slOK]; omega
   have e5 : decide (((45 : UInt8).toNat : Int) = 45) = true := by decide
   have e6 : List.take ((((45 : UInt8) :: d :: r).length : Int).toNat - (1 : Int).toNat) (List.drop (1 : Int).toNat ((45 : UInt8) :: d :: r)) = d :: r := by
    simp only [List.length_cons, Int.toNat_one, Int.toNat_natCast, List.drop_succ_cons, List.drop_zero]
    apply List.take_of_length_le
    simp
   simp only [e4, e5, e6, cond_true, Option.bind_some]
   refine (digits_loop (d :: r) (by simp only [List.length_cons]; omega)).trans ?_
   simp [numericS, cutMinus]
  ·have e5 : decide ((c.toNat : Int) = 45) = false := by
    apply decide_eq_false
    intro hc
    exact h (UInt8.toNat_inj.1 (by simpa using (by omega : c.toNat = 45)))
   simp only [e5, cond_false, Option.bind_some]
   refine (digits_loop (c :: d :: r) (by simp only [List.length_cons]; omega)).trans ?_
   congr 1
   simp [numericS, cutMinus, h]
theorem isWord_val {t : List UInt8} (ht : t.length ≤ 4611686018427387000) : G_isWord t = some (wordS t && t.all fun c => !outsideS c) := by
 refine Up.get ?_
 unfold G_isWord
 refine loop_ix (fun i => ((t, (i : Int), ()), ())) (fun i => wordS t && (t.drop i).all fun c => !outsideS c) t.length (fun i hi => ?_) ?_
 ·have e1 : decide ((i : Int) < (t.length : Int)) = true := by simp [hi]
  have e2 : ixOK (i : Int) t.length = true := ixOK_iff.2 (by omega)
  rw [List.drop_eq_getElem_cons hi]
  simp only [e1, e2, cond_true, byteAt_in hi, visible_val, Option.bind_some, wrapN (show i < 4611686018427387904 by omega), List.all_cons]
  cases ho : outsideS t[i] with
  | false => exact .inl ⟨by simp, by simp⟩
  | true => exact .inr (.inl ⟨.done false, by simp, .of (by simp)⟩)
 ·refine ⟨.next ((t, ()), ()), by simp, .of ?_⟩
  simp only [List.drop_length, List.all_nil, Bool.and_true]
  unfold wordS
  by_cases h1 : t = []
  ·subst h1; simp
  ·have a1 : decide ((t.length : Int) ≥ 1) = true := by
    have := List.length_pos_iff.2 h1
    apply decide_eq_true; omega
   by_cases h2 : t.length ≤ 30
   ·have a2 : decide ((t.length : Int) ≤ 30) = true := by apply decide_eq_true; omega
    simp [a1, a2, h1, h2, digits_val ht]
   ·have a2 : decide ((t.length : Int) ≤ 30) = false := by apply decide_eq_false; omega
    simp [a1, a2, h1, h2]
def badB (c : UInt8) : Bool := badR c.toNat
theorem idxR_bad (s : List UInt8) : ∀ (f pos : Nat), s.length < pos + f → (0 ≤ idxR badR s f pos ↔ (s.drop pos).any badB = true)
 | 0, pos, h => by
  rw [List.drop_eq_nil_of_le (by omega)]
  simp [idxR]
 | f + 1, pos, h => by
  unfold idxR
  by_cases hp : pos < s.length
  ·rw [if_pos hp, List.drop_eq_getElem_cons hp, List.any_cons]
   have hsz : pos < (⟨s.toArray⟩ : ByteArray).size := by show pos < s.toArray.size; simpa using hp
   have hel : ((⟨s.toArray⟩ : ByteArray)[pos]'hsz) = s[pos] := by simp [ByteArray.getElem_eq_getElem_data]
   by_cases h8 : s[pos].toNat < 128
   ·have hd := decode_ascii ⟨s.toArray⟩ pos hsz (by rw [hel]; exact h8)
    rw [hd, hel]
    show (0 ≤ (if badR ((s[pos].toNat : Nat) : Int) = true then ((pos : Nat) : Int) else _) ↔ _)
    by_cases hb : badB s[pos] = true
    ·have hb' := hb
     unfold badB at hb'
     rw [if_pos hb', hb]
     simp
    ·have hb' := hb
     unfold badB at hb'
     rw [if_neg hb', idxR_bad s f (pos + 1) (by omega)]
     simp [hb]
   ·have hd := decode_high ⟨s.toArray⟩ pos hsz (by rw [hel]; omega)
    have hb1 : badR (Utf8.decode ⟨s.toArray⟩ pos).1 = true := by
     have := hd.1
     unfold badR
     have a1 : ¬ (((Utf8.decode ⟨s.toArray⟩ pos).1 : Int) = 10) := by omega
     have a2 : (126 < ((Utf8.decode ⟨s.toArray⟩ pos).1 : Int)) := by omega
     simp only [a1, a2, decide_true, decide_false, Bool.not_false, Bool.or_true, Bool.and_true]
    have hb2 : badB s[pos] = true := by
     unfold badB badR
     have a1 : ¬ ((s[pos].toNat : Int) = 10) := by omega
     have a2 : (126 < (s[pos].toNat : Int)) := by omega
     simp only [a1, a2, decide_true, decide_false, Bool.not_false, Bool.or_true, Bool.and_true]
    rw [if_pos hb1, hb2]
    simp
  ·rw [if_neg hp, List.drop_eq_nil_of_le (by omega)]
   simp
theorem badT_any (t : List UInt8) : badT t = t.any badB := by
 unfold badT
 have := idxR_bad t (t.length + 1) 0 (by omega)
 rw [List.drop_zero] at this
 cases h : t.any badB with
 | true => exact decide_eq_true (this.2 h)
 | false => exact decide_eq_false fun hc => by have := this.1 hc; rw [h] at this; cases this
theorem isText_val {t : List UInt8} (ht : t.length ≤ 4611686018427387000) : G_isText t = some (decide (t.length ≤ 2000) && !badT t) := by
 refine Up.get ?_
 rw [badT_any]
 unfold G_isText
 refine loop_ix (fun i => ((t, (i : Int), ()), ())) (fun i => decide (t.length ≤ 2000) && !(t.drop i).any badB) t.length (fun i hi => ?_) ?_
 ·have e1 : decide ((i : Int) < (t.length : Int)) = true := by simp [hi]
  have e2 : ixOK (i : Int) t.length = true := ixOK_iff.2 (by omega)
  rw [List.drop_eq_getElem_cons hi]
  simp only [e1, e2, cond_true, Bool.true_or, byteAt_in hi, wrapN (show i < 4611686018427387904 by omega), List.any_cons]
  have hb : badB t[i] = (cond (!decide ((t[i].toNat : Int) = 10)) (cond (decide ((t[i].toNat : Int) < 32)) true (decide ((t[i].toNat : Int) > 126))) false) := by
   unfold badB badR
   by_cases a1 : (t[i].toNat : Int) = 10
   ·simp only [a1, decide_true, Bool.not_true, cond_false, Bool.false_and]
   ·by_cases a2 : (t[i].toNat : Int) < 32
    ·simp only [a1, a2, decide_true, decide_false, Bool.not_false, cond_true, Bool.true_or, Bool.and_true]
    ·simp only [a1, a2, decide_false, Bool.not_false, cond_true, cond_false, Bool.false_or, Bool.true_and, gt_iff_lt]
  rw [← hb]
  cases ho : badB t[i] with
  | false => exact .inl ⟨by simp, by simp⟩
  | true => exact .inr (.inl ⟨.done false, by simp, .of (by simp)⟩)
 ·refine ⟨.next ((t, ()), ()), by simp, .of ?_⟩
  simp
  omega
mutual
def fieldsF : Fm → Bool
 | .mk k n t l => leafS k n t l && fieldsL l
def fieldsL : List Fm → Bool
 | [] => true
 | f :: r => fieldsF f && fieldsL r
end
theorem fieldsF_eq (f : Fm) : fieldsF f = (leafS f.k f.n f.t f.l && fieldsL f.l) := by cases f; simp only [fieldsF]; rfl
theorem fields_up : ∀ k, ∀ f : Fm, f.big ≤ 4611686018427387000 → Up (k < f.big) (G_fields k f) (fieldsF f)
 | 0 => fun f hb => .inr ⟨by unfold G_fields; rfl, by have := big_pos f; omega⟩
 | k + 1 => fun f hb => by
  have hkb := big_kids f
  have hl := length_le_big f.l
  have htb : f.t.length < f.big := by cases f; simp only [Fm.big, Fm.t]; omega
  unfold G_fields
  rw [fieldsF_eq]
  generalize f.k = a
  generalize f.n = n
  generalize f.t = t at htb
  generalize f.l = l at hkb hl
  by_cases h0 : a = 0
  ·subst h0
   simp only [leafS, decide_true, decide_false, Bool.not_true, Bool.not_false, cond_true, cond_false, if_true, Int.reduceEq]
   cases l with
   | cons g r =>
    have : decide ((((g :: r).length : Nat) : Int) > 0) = true := by simp only [List.length_cons]; apply decide_eq_true; omega
    simp only [this, cond_true]
    exact .of (by simp)
   | nil =>
    by_cases ht : t = []
    ·subst ht
     exact .of (by simp [fieldsL])
    ·exact .of (by simp [ht])
  ·by_cases hn : n = 0
   ·subst hn
    by_cases h3 : a = 3
    ·subst h3
     simp only [leafS, decide_true, decide_false, Bool.not_true, Bool.not_false, cond_true, cond_false, if_true, Int.reduceEq, if_false]
     by_cases ht : t = []
     ·subst ht
      simp only [decide_true, Bool.not_true, Bool.true_and, cond_false]
      refine Up.bind (v := Step.done (fieldsL l)) ?_ (.of rfl)
      refine loop_ix (fun i => (((3, 0, [], l, ()), (i : Int), ()), ())) (fun i => (Step.done (fieldsL (l.drop i)) : Step ((Unit) × (Unit)) (Bool))) l.length (fun i hi => ?_) ?_
      ·have e1 : decide ((i : Int) < (l.length : Int)) = true := by simp [hi]
       have e2 : ixOK (i : Int) l.length = true := ixOK_iff.2 (by omega)
       have hm := big_mem (List.getElem_mem hi)
       rw [List.drop_eq_getElem_cons hi]
       simp only [e1, e2, cond_true, Int.toNat_natCast, getD_in hi, Fm.eta_eq, wrapN (show i < 4611686018427387904 by omega), fieldsL]
       rcases fields_up k l[i] (by omega) with h | ⟨h, hn⟩
       ·rw [h]
        cases fieldsF l[i] with
        | true => exact .inl ⟨by simp, by simp⟩
        | false => exact .inr (.inl ⟨.done (.done false), by simp, .of (by simp)⟩)
       ·rw [h]; exact .inr (.inr ⟨rfl, by omega⟩)
      ·refine ⟨.next ((), ()), by simp, .of ?_⟩
       simp [fieldsL]
     ·exact .of (by simp [ht])
    ·cases l with
     | cons g r =>
      have : decide ((((g :: r).length : Nat) : Int) > 0) = true := by simp only [List.length_cons]; apply decide_eq_true; omega
      have hf : leafS a 0 t (g :: r) = false := by unfold leafS; simp [h0, h3]
      simp only [hf, h0, h3, this, decide_true, decide_false, Bool.not_true, Bool.not_false, cond_true, cond_false]
      exact .of (by simp)
     | nil =>
      by_cases h1 : a = 1
      ·subst h1
       refine .of ?_
       simp [isWord_val (show t.length ≤ 4611686018427387000 by omega), leafS, fieldsL]
      ·by_cases h2 : a = 2
       ·subst h2
        refine .of ?_
        simp [isText_val (show t.length ≤ 4611686018427387000 by omega), leafS, fieldsL]
       ·refine .of ?_
        have hf : leafS a 0 t [] = false := by unfold leafS; simp [h0, h1, h2, h3]
        simp only [hf, h0, h1, h2, h3, decide_true, decide_false, Bool.not_true, Bool.not_false, cond_true, cond_false, Option.bind_some, Bool.false_and]
        cases decide (t = []) <;> simp
   ·have hf : leafS a n t l = false := by unfold leafS; simp [h0, hn]
    refine .of ?_
    simp [h0, hn, hf]
theorem fields_val {f : Fm} (hb : f.big ≤ 4611686018427387000) : L_fields f = some (fieldsF f) := limF_up (b := f.big) fun k => fields_up k f hb
theorem refSize_up : ∀ k, ∀ f : Fm, f.big ≤ 4611686018427387000 → Up (k < f.big) (G_refSize k f) (f.size : Int)
 | 0 => fun f hb => .inr ⟨by unfold G_refSize; rfl, by have := big_pos f; omega⟩
 | k + 1 => fun f hb => by
  obtain ⟨a, n, t, l⟩ := f
  have hs := size_le (.mk a n t l)
  have hkb := big_kids (.mk a n t l)
  have hln := length_le_big l
  simp only [Fm.l] at hkb
  unfold G_refSize
  simp only [Fm.k, Fm.n, Fm.t, Fm.l]
  by_cases h3 : a = 3
  ·subst h3
   simp only [Fm.size, if_true] at hs ⊢
   refine loop_ix (fun i => (((3, n, t, l, ()), ((1 + Fm.sizeL (l.take i) : Nat) : Int), (i : Int), ()), ())) (fun i => ((1 + Fm.sizeL l : Nat) : Int)) l.length (fun i hi => ?_) ?_
   ·have e1 : decide ((i : Int) < (l.length : Int)) = true := by simp [hi]
    have e2 : ixOK (i : Int) l.length = true := ixOK_iff.2 (by omega)
    have hm := big_mem (List.getElem_mem hi)
    have h2 := sizeL_take l hi
    have h3 := sizeL_take_le l (i + 1)
    simp only [decide_true, e1, e2, cond_true, Int.toNat_natCast, getD_in hi, Fm.eta_eq, wrapN (show i < 4611686018427387904 by omega)]
    rcases refSize_up k l[i] (by omega) with h | ⟨h, hn⟩
    ·rw [h]
     refine .inl ⟨?_, trivial⟩
     simp only [Option.bind_some]
     rw [w64 (by omega) (by omega)]
     have : ((1 + Fm.sizeL (l.take i) : Nat) : Int) + (l[i].size : Int) = ((1 + Fm.sizeL (l.take (i + 1)) : Nat) : Int) := by omega
     rw [this]
    ·rw [h]; exact .inr (.inr ⟨rfl, by omega⟩)
   ·refine ⟨((((1 + Fm.sizeL (l.take l.length) : Nat) : Int), ()), ()), by simp, .of ?_⟩
    simp
  ·rw [loopM_done (r := ((1, ()), ())) (by simp [h3])]
   exact .of (by simp [Fm.size, h3])
theorem refSize_val {f : Fm} (hb : f.big ≤ 4611686018427387000) : L_refSize f = some (f.size : Int) := limF_up (b := f.big) fun k => refSize_up k f hb
theorem refDepth_up : ∀ k, ∀ f : Fm, f.big ≤ 4611686018427387000 → Up (k < f.big) (G_refDepth k f) (f.depth : Int)
 | 0 => fun f hb => .inr ⟨by unfold G_refDepth; rfl, by have := big_pos f; omega⟩
 | k + 1 => fun f hb => by
  obtain ⟨a, n, t, l⟩ := f
  have hs := depth_le (.mk a n t l)
  have hkb := big_kids (.mk a n t l)
  have hln := length_le_big l
  simp only [Fm.l] at hkb
  unfold G_refDepth
  simp only [Fm.k, Fm.n, Fm.t, Fm.l]
  by_cases h3 : a = 3
  ·subst h3
   simp only [Fm.depth, if_true] at hs ⊢
   refine loop_ix (fun i => (((3, n, t, l, ()), (Fm.depthL (l.take i) : Int), (i : Int), ()), ())) (fun i => ((1 + Fm.depthL l : Nat) : Int)) l.length (fun i hi => ?_) ?_
   ·have e1 : decide ((i : Int) < (l.length : Int)) = true := by simp [hi]
    have e2 : ixOK (i : Int) l.length = true := ixOK_iff.2 (by omega)
    have hm := big_mem (List.getElem_mem hi)
    have h2 := depthL_take l hi
    simp only [decide_true, e1, e2, cond_true, Int.toNat_natCast, getD_in hi, Fm.eta_eq, wrapN (show i < 4611686018427387904 by omega)]
    rcases refDepth_up k l[i] (by omega) with h | ⟨h, hn⟩
    ·rw [h]
     refine .inl ⟨?_, trivial⟩
     simp only [Option.bind_some]
     have : (if (l[i].depth : Int) > (Fm.depthL (l.take i) : Int) then (l[i].depth : Int) else (Fm.depthL (l.take i) : Int)) = (Fm.depthL (l.take (i + 1)) : Int) := by
      rw [h2]; split <;> omega
     rw [this]
    ·rw [h]; exact .inr (.inr ⟨rfl, by omega⟩)
   ·refine ⟨(((Fm.depthL (l.take l.length) : Int), ()), ()), by simp, .of ?_⟩
    simp only [List.take_length]
    rw [w64 (by omega) (by omega)]
    congr 1; omega
  ·rw [loopM_done (r := ((0, ()), ())) (by simp [h3])]
   exact .of (by simp only [Option.bind_some, Fm.depth, h3, if_false]; rfl)
theorem refDepth_val {f : Fm} (hb : f.big ≤ 4611686018427387000) : L_refDepth f = some (f.depth : Int) := limF_up (b := f.big) fun k => refDepth_up k f hb
theorem leafS_kids {k n : Int} {t : List UInt8} {l : List Fm} (h : leafS k n t l = true) : k = 3 ∨ l = [] := by
 unfold leafS at h
 by_cases h3 : k = 3
 ·exact .inl h3
 ·by_cases hl : l = []
  ·exact .inr hl
  ·exfalso
   revert h
   split
   ·simp [hl]
   ·split
    ·simp [hl]
    ·split
     ·simp [hl]
     ·simp [h3]
theorem validLS_iff : ∀ (l : List Fm), (∀ f ∈ l, ∀ p d : Int, 0 ≤ p → 0 ≤ d → (validS f p d).1 = (fieldsF f && (decide ((f.size : Int) ≤ p) && decide ((f.depth : Int) ≤ d))) ∧ ((validS f p d).1 = true → (validS f p d).2 = p - f.size)) →
  ∀ p d : Int, 0 ≤ p → 0 ≤ d → (validLS l p d).1 = (fieldsL l && (decide ((Fm.sizeL l : Int) ≤ p) && decide ((Fm.depthL l : Int) ≤ d))) ∧ ((validLS l p d).1 = true → (validLS l p d).2 = p - Fm.sizeL l)
 | [], _, p, d, hp, hd => by
  simp only [validLS, fieldsL, Fm.sizeL, Fm.depthL]
  refine ⟨?_, fun _ => by simp⟩
  simp [hp, hd]
 | f :: r, h, p, d, hp, hd => by
  obtain ⟨h1, h2⟩ := h f (by simp) p d hp hd
  simp only [validLS, fieldsL, Fm.sizeL, Fm.depthL]
  by_cases hv : (validS f p d).1 = true
  ·rw [if_pos hv]
   have h2' := h2 hv
   rw [hv] at h1
   have h1' := h1.symm
   simp only [Bool.and_eq_true, decide_eq_true_eq] at h1'
   obtain ⟨a1, a2, a3⟩ := h1'
   obtain ⟨b1, b2⟩ := validLS_iff r (fun g hg => h g (by simp [hg])) (validS f p d).2 d (by omega) hd
   refine ⟨?_, fun ht => by have := b2 ht; omega⟩
   rw [b1, a1, h2']
   simp only [Bool.true_and]
   congr 2
   ·apply decide_eq_decide.2; omega
   ·apply decide_eq_decide.2; omega
  ·rw [if_neg hv]
   have hv' : (validS f p d).1 = false := by simpa using hv
   rw [hv'] at h1
   refine ⟨?_, fun h => by cases h⟩
   simp only
   symm
   by_cases a1 : fieldsF f = true
   ·by_cases a2 : (f.size : Int) ≤ p
    ·have a3 : ¬ (f.depth : Int) ≤ d := fun a3 => by rw [a1, decide_eq_true a2, decide_eq_true a3] at h1; cases h1
     have : ¬ (((max f.depth (Fm.depthL r) : Nat) : Int) ≤ d) := by omega
     simp only [this, decide_false, Bool.and_false]
    ·have : ¬ (((f.size + Fm.sizeL r : Nat) : Int) ≤ p) := by omega
     simp only [this, decide_false, Bool.false_and, Bool.and_false]
   ·simp [a1]
theorem validS_iff : ∀ f : Fm, ∀ p d : Int, 0 ≤ p → 0 ≤ d → (validS f p d).1 = (fieldsF f && (decide ((f.size : Int) ≤ p) && decide ((f.depth : Int) ≤ d))) ∧ ((validS f p d).1 = true → (validS f p d).2 = p - f.size) := Fm.ind fun k n t l ih p d hp hd => by
 have eS : (Fm.mk k n t l).size = 1 + (if k = 3 then Fm.sizeL l else 0) := by simp only [Fm.size]
 have eD : (Fm.mk k n t l).depth = 1 + (if k = 3 then Fm.depthL l else 0) := by simp only [Fm.depth]
 generalize (Fm.mk k n t l).size = S at eS ⊢
 generalize (Fm.mk k n t l).depth = D at eD ⊢
 simp only [validS, fieldsF]
 by_cases h1 : p - 1 < 0
 ·rw [if_pos (.inl h1)]
  refine ⟨?_, fun h => by cases h⟩
  have : ¬ ((S : Int) ≤ p) := by omega
  simp only [this, decide_false, Bool.false_and, Bool.and_false]
 ·by_cases h2 : d = 0
  ·rw [if_pos (.inr (.inl h2))]
   refine ⟨?_, fun h => by cases h⟩
   have : ¬ ((D : Int) ≤ d) := by omega
   simp only [this, decide_false, Bool.and_false]
  ·by_cases h3 : leafS k n t l = false
   ·rw [if_pos (.inr (.inr h3)), h3]
    exact ⟨by simp, fun h => by cases h⟩
   ·rw [if_neg (fun h => h.elim h1 fun h => h.elim h2 h3)]
    have h3' : leafS k n t l = true := by simpa using h3
    obtain ⟨b1, b2⟩ := validLS_iff l ih (p - 1) (d - 1) (by omega) (by omega)
    have hs : (if k = 3 then Fm.sizeL l else 0) = Fm.sizeL l ∧ (if k = 3 then Fm.depthL l else 0) = Fm.depthL l := by
     rcases leafS_kids h3' with rfl | rfl
     ·simp
     ·simp [Fm.sizeL, Fm.depthL]
    rw [hs.1] at eS
    rw [hs.2] at eD
    rw [h3', b1]
    refine ⟨?_, fun ht => by rw [← b1] at ht; have := b2 ht; omega⟩
    simp only [Bool.true_and]
    congr 2
    ·apply decide_eq_decide.2; omega
    ·apply decide_eq_decide.2; omega
theorem refValid_val {f : Fm} (hb : f.big ≤ 4611686018427387000) : G_refValid f = some (validF f) := by
 unfold G_refValid G_small1 validF
 rw [(validS_iff f 20000 100 (by omega) (by omega)).1]
 simp only [Fm.eta_eq, fields_val hb, refSize_val hb, refDepth_val hb, Option.bind_some]
 cases fieldsF f with
 | false => rfl
 | true =>
  by_cases h : (f.size : Int) ≤ 20000
  ·simp [h]
  ·simp [h]
end Go.Ab

set_option maxRecDepth 100000
namespace Go.Ab
open Go Go.RowKit Go.Proofs
theorem loop_wp {L R : Type} {b : L → Option (Step L R)} (I : L → Prop) (μ : L → Nat) (Q : R → Prop)
  (h : ∀ l, I l → (∃ l', b l = some (.next l') ∧ I l' ∧ μ l' < μ l) ∨ (∃ r, b l = some (.done r) ∧ Q r)) : ∀ l, I l → ∃ r, loopM b l = some r ∧ Q r := by
 have key : ∀ n l, μ l ≤ n → I l → ∃ r, loopM b l = some r ∧ Q r := by
  intro n
  induction n with
  | zero =>
   intro l hn hl
   rcases h l hl with ⟨l', h1, h2, h3⟩ | ⟨r, h1, h2⟩
   ·omega
   ·exact ⟨r, loopM_done h1, h2⟩
  | succ n ih =>
   intro l hn hl
   rcases h l hl with ⟨l', h1, h2, h3⟩ | ⟨r, h1, h2⟩
   ·rw [loopM_next h1]; exact ih l' (by omega) h2
   ·exact ⟨r, loopM_done h1, h2⟩
 exact fun l hl => key (μ l) l (Nat.le_refl _) hl
def atF' (l : List Fm) (i : Nat) : Fm := l.getD i (.mk 0 0 [] [])
def swapL (l : List Fm) (i j : Nat) : List Fm := (l.set i (atF' l j)).set j (atF' l i)
theorem swapL_length (l : List Fm) (i j : Nat) : (swapL l i j).length = l.length := by simp [swapL]
theorem swapL_at (l : List Fm) {i j : Nat} (hi : i < l.length) (hj : j < l.length) (p : Nat) : atF' (swapL l i j) p = if p = j then atF' l i else if p = i then atF' l j else atF' l p := by
 unfold atF' swapL
 simp only [List.getD_eq_getElem?_getD, List.getElem?_set]
 by_cases h1 : p = j
 ·subst h1; simp [hj]; rfl
 ·rw [if_neg (fun h => h1 h.symm), if_neg h1]
  by_cases h2 : p = i
  ·subst h2; simp [hi]; rfl
  ·rw [if_neg (fun h => h2 h.symm), if_neg h2]
inductive SW (a b : Nat) : List Fm → List Fm → Prop
 | refl (l) : SW a b l l
 | swap (l m : List Fm) (i j : Nat) : SW a b l m → a ≤ i → i < b → a ≤ j → j < b → SW a b l (swapL m i j)
theorem SW.trans {a b : Nat} {l m o : List Fm} (h : SW a b l m) (h' : SW a b m o) : SW a b l o := by
 induction h' with
 | refl => exact h
 | swap m i j _ h1 h2 h3 h4 ih => exact .swap _ _ _ _ ih h1 h2 h3 h4
theorem SW.mono {a b a' b' : Nat} {l m : List Fm} (h : SW a b l m) (ha : a' ≤ a) (hb : b ≤ b') : SW a' b' l m := by
 induction h with
 | refl => exact .refl _
 | swap m i j _ h1 h2 h3 h4 ih => exact .swap _ _ _ _ ih (by omega) (by omega) (by omega) (by omega)
theorem SW.length {a b : Nat} {l m : List Fm} (h : SW a b l m) : m.length = l.length := by
 induction h with
 | refl => rfl
 | swap m i j _ _ _ _ _ ih => rw [swapL_length, ih]
theorem SW.out {a b : Nat} {l m : List Fm} (h : SW a b l m) (hb : b ≤ l.length) {p : Nat} (hp : p < a ∨ b ≤ p) : atF' m p = atF' l p := by
 induction h with
 | refl => rfl
 | swap m i j h h1 h2 h3 h4 ih =>
  rw [swapL_at m (by rw [h.length]; omega) (by rw [h.length]; omega), if_neg (by omega), if_neg (by omega), ih]
theorem SW.all {a b : Nat} {l m : List Fm} (h : SW a b l m) (hb : b ≤ l.length) {P : Fm → Prop} (hP : ∀ p, a ≤ p → p < b → P (atF' l p)) : ∀ p, a ≤ p → p < b → P (atF' m p) := by
 induction h with
 | refl => exact hP
 | swap m i j h h1 h2 h3 h4 ih =>
  intro p hp hq
  rw [swapL_at m (by rw [h.length]; omega) (by rw [h.length]; omega)]
  split
  ·exact ih i h1 h2
  ·split
   ·exact ih j h3 h4
   ·exact ih p hp hq
theorem mem_swapL {l : List Fm} {i j : Nat} (hi : i < l.length) (hj : j < l.length) (f : Fm) : f ∈ swapL l i j ↔ f ∈ l := by
 have at_mem : ∀ {m : List Fm} {p : Nat}, p < m.length → atF' m p ∈ m := fun {m p} h => by unfold atF'; rw [getD_in h]; exact List.getElem_mem h
 constructor
 ·intro h
  obtain ⟨p, hp, rfl⟩ := List.getElem_of_mem h
  have : (swapL l i j)[p] = atF' (swapL l i j) p := by unfold atF'; rw [getD_in hp]
  rw [swapL_length] at hp
  rw [this, swapL_at l hi hj]
  split
  ·exact at_mem hi
  ·split
   ·exact at_mem hj
   ·exact at_mem hp
 ·intro h
  obtain ⟨p, hp, rfl⟩ := List.getElem_of_mem h
  have : l[p] = atF' l p := by unfold atF'; rw [getD_in hp]
  rw [this]
  by_cases h1 : p = i
  ·subst h1
   have := at_mem (m := swapL l p j) (p := j) (by rw [swapL_length]; exact hj)
   rwa [swapL_at l hi hj, if_pos rfl] at this
  ·by_cases h2 : p = j
   ·subst h2
    have := at_mem (m := swapL l i p) (p := i) (by rw [swapL_length]; exact hi)
    rwa [swapL_at l hi hj, if_neg (fun h => h1 h.symm), if_pos rfl] at this
   ·have := at_mem (m := swapL l i j) (p := p) (by rw [swapL_length]; exact hp)
    rwa [swapL_at l hi hj, if_neg h2, if_neg h1] at this
theorem SW.mem {a b : Nat} {l m : List Fm} (h : SW a b l m) (hb : b ≤ l.length) (f : Fm) : f ∈ m ↔ f ∈ l := by
 induction h with
 | refl => rfl
 | swap m i j h h1 h2 h3 h4 ih => rw [mem_swapL (by rw [h.length]; omega) (by rw [h.length]; omega), ih]
def le (f g : Fm) : Prop := cmpF f g ≤ 0
theorem le_refl' (f : Fm) : le f f := by unfold le; rw [cmpF_self]; omega
theorem le_trans' {f g h : Fm} (h1 : le f g) (h2 : le g h) : le f h := (cmpF_tri f g h).1 h1 h2
theorem le_of_not_lt {f g : Fm} (h : ¬ cmpF f g < 0) : le g f := by unfold le; rw [cmpF_neg f g]; omega
theorem le_of_lt' {f g : Fm} (h : cmpF f g < 0) : le f g := Int.le_of_lt h
def Srt (a b : Nat) (l : List Fm) : Prop := ∀ p q, a ≤ p → p < q → q < b → le (atF' l p) (atF' l q)
def bigAll (l : List Fm) : Prop := ∀ f ∈ l, f.big ≤ 4611686018427387000
theorem bigAll_at {l : List Fm} (h : bigAll l) {i : Nat} (hi : i < l.length) : (atF' l i).big ≤ 4611686018427387000 := by
 unfold atF'; rw [getD_in hi]; exact h _ (List.getElem_mem hi)
theorem SW.big {a b : Nat} {l m : List Fm} (h : SW a b l m) (hb : b ≤ l.length) (hl : bigAll l) : bigAll m := fun f hf => hl f ((h.mem hb f).1 hf)
theorem wrapS {i : Nat} (h : i < 4611686018427387904) (h0 : 0 < i) : IntKind.wrap .i64 ((i : Int) - 1) = ((i - 1 : Nat) : Int) := by
 rw [w64 (by omega) (by omega)]; omega
theorem insInner {a b i : Nat} {l0 : List Fm} (hai : a < i) (hib : i < b) (hb : b ≤ l0.length) (hln : l0.length < 4611686018427387904) (hbig : bigAll l0) (hs : Srt a i l0) :
  ∃ r, (loopM (L := (Unit × Int × Int × Unit × Int × Int × Unit) × ((List Fm) × Unit)) (R := (Unit × Int × Int × Unit × Int × Unit) × ((List Fm) × Unit)) (fun d6 => (
 let l7 := d6.2.1
 let v1_8 := d6.1.2.1
 let v2_9 := d6.1.2.2.1
 let v8_10 := d6.1.2.2.2.2.1
 let v9_11 := d6.1.2.2.2.2.2.1
 cond ((ixOK v9_11 l7.length) || !(decide (v9_11 > v1_8))) (cond ((decide (v9_11.toNat < l7.length)) || !(decide (v9_11 > v1_8))) (cond ((ixOK (IntKind.wrap .i64 (v9_11 - 1)) l7.length) || !(decide (v9_11 > v1_8))) (cond ((decide ((IntKind.wrap .i64 (v9_11 - 1)).toNat < l7.length)) || !(decide (v9_11 > v1_8))) (Option.bind (α := Int) (cond (decide (v9_11 > v1_8)) (L_compare (Fm.eta (l7.getD v9_11.toNat (Fm.mk 0 0 [] []))) (Fm.eta (l7.getD ((IntKind.wrap .i64 (v9_11 - 1)).toNat) (Fm.mk 0 0 [] [])))) (some (0 : Int))) fun r12 => (
 cond (cond (decide (v9_11 > v1_8)) (decide (r12 < 0)) false) (cond (ixOK (IntKind.wrap .i64 (v9_11 - 1)) l7.length) (cond (decide ((IntKind.wrap .i64 (v9_11 - 1)).toNat < l7.length)) (cond (ixOK v9_11 l7.length) (cond (decide (v9_11.toNat < l7.length)) (cond (ixOK v9_11 l7.length) (cond (decide (v9_11.toNat < l7.length)) (cond (ixOK (IntKind.wrap .i64 (v9_11 - 1)) l7.length) (cond (decide ((IntKind.wrap .i64 (v9_11 - 1)).toNat < (l7.set v9_11.toNat (Fm.eta (l7.getD ((IntKind.wrap .i64 (v9_11 - 1)).toNat) (Fm.mk 0 0 [] [])))).length)) (some (Step.next (((), v1_8, v2_9, (), v8_10, IntKind.wrap .i64 (v9_11 - 1), ()), ((l7.set v9_11.toNat (Fm.eta (l7.getD ((IntKind.wrap .i64 (v9_11 - 1)).toNat) (Fm.mk 0 0 [] [])))).set ((IntKind.wrap .i64 (v9_11 - 1)).toNat) (Fm.eta (l7.getD v9_11.toNat (Fm.mk 0 0 [] []))), ())))) none) none) none) none) none) none) none) none) (some (Step.done (((), v1_8, v2_9, (), v8_10, ()), (l7, ())))))) none) none) none) none)) (((), (a : Int), (b : Int), (), (i : Int), (i : Int), ()), (l0, ()))) = some r ∧ ∃ m, r = (((), (a : Int), (b : Int), (), (i : Int), ()), (m, ())) ∧ SW a (i + 1) l0 m ∧ Srt a (i + 1) m := by
 refine loop_wp (fun d => ∃ (j : Nat) (m : List Fm), d = (((), (a : Int), (b : Int), (), (i : Int), (j : Int), ()), (m, ())) ∧ a ≤ j ∧ j ≤ i ∧ SW a (i + 1) l0 m ∧ ∀ p q, a ≤ p → p < q → q ≤ i → q ≠ j → le (atF' m p) (atF' m q)) (fun d => d.1.2.2.2.2.2.1.toNat) _ ?_ _
  ⟨i, l0, rfl, by omega, Nat.le_refl _, .refl _, fun p q h1 h2 h3 h4 => hs p q h1 h2 (by omega)⟩
 rintro d ⟨j, m, rfl, h1, h2, hsw, hso⟩
 have hlen := hsw.length
 have hbm := hsw.big (by omega) hbig
 have hj : j < m.length := by omega
 have e1 : ixOK (j : Int) m.length = true := ixOK_iff.2 (by omega)
 have e2 : decide (j < m.length) = true := by simp [hj]
 by_cases hja : j = a
 ·subst hja
  refine .inr ⟨_, ?_, m, rfl, hsw, fun p q q1 q2 q3 => hso p q q1 q2 (by omega) (by omega)⟩
  simp [e1, hj]
 ·have hgt : decide ((j : Int) > (a : Int)) = true := by apply decide_eq_true; omega
  have hw : IntKind.wrap .i64 ((j : Int) - 1) = ((j - 1 : Nat) : Int) := wrapS (by omega) (by omega)
  have e3 : ixOK ((j - 1 : Nat) : Int) m.length = true := ixOK_iff.2 (by omega)
  have e4 : decide (j - 1 < m.length) = true := by apply decide_eq_true; omega
  have hcmp : L_compare (m.getD j (Fm.mk 0 0 [] [])) (m.getD (j - 1) (Fm.mk 0 0 [] [])) = some (cmpF (atF' m j) (atF' m (j - 1))) := compare_val (bigAll_at hbm hj)
  simp only [hgt, hw, e1, e2, e3, e4, hcmp, Int.toNat_natCast, cond_true, Bool.true_or, Fm.eta_eq, List.length_set, Option.bind_some]
  by_cases hc : cmpF (atF' m j) (atF' m (j - 1)) < 0
  ·have hc' : decide (cmpF (atF' m j) (atF' m (j - 1)) < 0) = true := decide_eq_true hc
   simp only [hc', cond_true]
   refine .inl ⟨_, rfl, ⟨j - 1, swapL m j (j - 1), rfl, by omega, by omega, .swap _ _ _ _ hsw (by omega) (by omega) (by omega) (by omega), ?_⟩, by simp; omega⟩
   intro p q q1 q2 q3 q4
   rw [swapL_at m hj (by omega), swapL_at m hj (by omega), if_neg q4]
   by_cases c1 : q = j
   ·subst c1
    rw [if_pos rfl]
    by_cases c2 : p = q - 1
    ·rw [if_pos c2]; exact le_of_lt' hc
    ·rw [if_neg c2, if_neg (by omega)]; exact hso p (q - 1) q1 (by omega) (by omega) (by omega)
   ·rw [if_neg c1]
    by_cases c2 : p = j - 1
    ·rw [if_pos c2]; exact hso j q (by omega) (by omega) q3 c1
    ·rw [if_neg c2]
     by_cases c3 : p = j
     ·subst c3; rw [if_pos rfl]; exact hso (p - 1) q (by omega) (by omega) q3 c1
     ·rw [if_neg c3]; exact hso p q q1 q2 q3 c1
  ·have hc' : decide (cmpF (atF' m j) (atF' m (j - 1)) < 0) = false := decide_eq_false hc
   simp only [hc', cond_false]
   refine .inr ⟨_, rfl, m, rfl, hsw, fun p q q1 q2 q3 => ?_⟩
   by_cases c1 : q = j
   ·subst c1
    have h0 := le_of_not_lt hc
    by_cases c2 : p = q - 1
    ·subst c2; exact h0
    ·exact le_trans' (hso p (q - 1) q1 (by omega) (by omega) (by omega)) h0
   ·exact hso p q q1 q2 (by omega) c1
theorem ret_of {o : Option (Unit × List Fm × Unit)} {P : List Fm → Prop} (h : ∃ r, o = some r ∧ ∃ m, r = ((), (m, ())) ∧ P m) : ∃ m, o = some ((), (m, ())) ∧ P m := by
 obtain ⟨r, h1, m, rfl, h2⟩ := h
 exact ⟨m, h1, h2⟩
theorem insSort_val {a b : Nat} {l : List Fm} (hab : a < b) (hb : b ≤ l.length) (hln : l.length < 4611686018427387904) (hbig : bigAll l) : ∃ m, G_insSort (a : Int) (b : Int) l = some ((), (m, ())) ∧ SW a b l m ∧ Srt a b m := by
 unfold G_insSort
 refine ret_of ?_
 ·rw [show IntKind.wrap .i64 ((a : Int) + 1) = ((a + 1 : Nat) : Int) from wrapN (by omega)]
  refine loop_wp (fun d => ∃ (i : Nat) (m : List Fm), d = (((), (a : Int), (b : Int), (), (i : Int), ()), (m, ())) ∧ a < i ∧ i ≤ b ∧ SW a b l m ∧ Srt a i m) (fun d => (b - d.1.2.2.2.2.1.toNat : Nat)) _ ?_ _
   ⟨a + 1, l, rfl, by omega, by omega, .refl _, fun p q _ _ _ => by omega⟩
  rintro d ⟨i, m, rfl, h1, h2, hsw, hso⟩
  have hlen := hsw.length
  by_cases hi : i = b
  ·subst hi
   refine .inr ⟨_, by simp only [Int.lt_irrefl, decide_false, cond_false], m, rfl, hsw, hso⟩
  ·have e1 : decide ((i : Int) < (b : Int)) = true := by apply decide_eq_true; omega
   obtain ⟨r, hr, m', rfl, q1, q2⟩ := insInner (b := b) h1 (by omega) (by omega) (by omega) (hsw.big hb hbig) hso
   simp only [e1, cond_true]
   refine .inl ⟨(((), (a : Int), (b : Int), (), ((i + 1 : Nat) : Int), ()), (m', ())), ?_, ⟨i + 1, m', rfl, by omega, by omega, hsw.trans (q1.mono (Nat.le_refl _) (by omega)), q2⟩, by simp only [Int.toNat_natCast]; omega⟩
   refine (congrArg (fun o => Option.bind o _) hr).trans ?_
   simp only [Option.bind_some, wrapN (show i < 4611686018427387904 by omega)]
end Go.Ab

set_option maxRecDepth 100000
namespace Go.Ab
open Go Go.RowKit Go.Proofs
theorem wA {i j : Nat} (h : i + j < 4611686018427387904) : IntKind.wrap .i64 ((i : Int) + (j : Int)) = ((i + j : Nat) : Int) := by
 rw [w64 (by omega) (by omega)]; omega
theorem wM {i : Nat} (h : 2 * i < 4611686018427387904) : IntKind.wrap .i64 (2 * (i : Int)) = ((2 * i : Nat) : Int) := by
 rw [w64 (by omega) (by omega)]; omega
def HP (f lo hi : Nat) (l : List Fm) : Prop := ∀ i j, lo ≤ i → (j = 2 * i + 1 ∨ j = 2 * i + 2) → j < hi → le (atF' l (f + j)) (atF' l (f + i))
theorem siftDown_val {lo hi f : Nat} {l : List Fm} (hfl : f + hi ≤ l.length) (hln : l.length < 1000000000000) (hlo : lo ≤ hi) (hbig : bigAll l) (hp : HP f (lo + 1) hi l) :
  ∃ m, G_siftDown (lo : Int) (hi : Int) (f : Int) l = some ((), (m, ())) ∧ SW (f + lo) (f + hi) l m ∧ HP f lo hi m := by
 unfold G_siftDown
 refine ret_of ?_
 refine loop_wp (fun d => ∃ (r : Nat) (m : List Fm), d = (((), (hi : Int), (f : Int), (), (r : Int), ()), (m, ())) ∧ lo ≤ r ∧ r ≤ hi ∧ SW (f + lo) (f + hi) l m ∧
   (∀ i j, lo ≤ i → i ≠ r → (j = 2 * i + 1 ∨ j = 2 * i + 2) → j < hi → le (atF' m (f + j)) (atF' m (f + i))) ∧
   (∀ p j, lo ≤ p → (r = 2 * p + 1 ∨ r = 2 * p + 2) → (j = 2 * r + 1 ∨ j = 2 * r + 2) → j < hi → le (atF' m (f + j)) (atF' m (f + p)))) (fun d => hi - d.1.2.2.2.2.1.toNat) _ ?_ _
  ⟨lo, l, rfl, Nat.le_refl _, hlo, .refl _, fun i j h1 h2 h3 h4 => hp i j (by omega) h3 h4, fun p j h1 h2 h3 h4 => by omega⟩
 rintro d ⟨r, m, rfl, h1, h2, hsw, hA, hB⟩
 have hlen := hsw.length
 have hbm := hsw.big hfl hbig
 have w1 : IntKind.wrap .i64 (IntKind.wrap .i64 (2 * (r : Int)) + 1) = ((2 * r + 1 : Nat) : Int) := by rw [wM (by omega), wrapN (by omega)]
 have w2 : IntKind.wrap .i64 (((2 * r + 1 : Nat) : Int) + 1) = ((2 * r + 2 : Nat) : Int) := by rw [wrapN (by omega)]
 have w3 : IntKind.wrap .i64 ((f : Int) + ((2 * r + 1 : Nat) : Int)) = ((f + (2 * r + 1) : Nat) : Int) := wA (by omega)
 have w4 : IntKind.wrap .i64 (((f + (2 * r + 1) : Nat) : Int) + 1) = ((f + (2 * r + 2) : Nat) : Int) := by rw [wrapN (by omega)]; omega
 have w5 : IntKind.wrap .i64 ((f : Int) + (r : Int)) = ((f + r : Nat) : Int) := wA (by omega)
 simp only [w1, w2, w3, w4]
 by_cases hc : hi ≤ 2 * r + 1
 ·have e1 : decide (((2 * r + 1 : Nat) : Int) ≥ (hi : Int)) = true := by apply decide_eq_true; omega
  refine .inr ⟨_, by simp only [e1, cond_true], m, rfl, hsw, fun i j q1 q2 q3 => ?_⟩
  by_cases hir : i = r
  ·subst hir; omega
  ·exact hA i j q1 hir q2 q3
 ·have e1 : decide (((2 * r + 1 : Nat) : Int) ≥ (hi : Int)) = false := by apply decide_eq_false; omega
  have i1 : ixOK ((f + (2 * r + 1) : Nat) : Int) m.length = true := ixOK_iff.2 (by omega)
  have i2 : decide (f + (2 * r + 1) < m.length) = true := by apply decide_eq_true; omega
  have i3 : ixOK ((f + r : Nat) : Int) m.length = true := ixOK_iff.2 (by omega)
  have i4 : decide (f + r < m.length) = true := by apply decide_eq_true; omega
  have main : ∀ c, (c = 2 * r + 1 ∨ c = 2 * r + 2) → c < hi → (∀ j, (j = 2 * r + 1 ∨ j = 2 * r + 2) → j < hi → le (atF' m (f + j)) (atF' m (f + c))) →
    (∃ l', (Option.bind (some (((), (hi : Int), (f : Int), (), (r : Int), (c : Int), ()), (m, ()))) fun d7 : (Unit × Int × Int × Unit × Int × Int × Unit) × ((List Fm) × Unit) => (
 let l8 := d7.2.1
 let v2_9 := d7.1.2.1
 let v3_10 := d7.1.2.2.1
 let v10_11 := d7.1.2.2.2.2.1
 let v11_12 := d7.1.2.2.2.2.2.1
 cond (ixOK (IntKind.wrap .i64 (v3_10 + v10_11)) l8.length) (cond (decide ((IntKind.wrap .i64 (v3_10 + v10_11)).toNat < l8.length)) (cond (ixOK (IntKind.wrap .i64 (v3_10 + v11_12)) l8.length) (cond (decide ((IntKind.wrap .i64 (v3_10 + v11_12)).toNat < l8.length)) (Option.bind (α := Int) (L_compare (Fm.eta (l8.getD ((IntKind.wrap .i64 (v3_10 + v10_11)).toNat) (Fm.mk 0 0 [] []))) (Fm.eta (l8.getD ((IntKind.wrap .i64 (v3_10 + v11_12)).toNat) (Fm.mk 0 0 [] [])))) fun r13 => (
 cond (!(decide (r13 < 0))) (some (Step.done ((), (l8, ())))) (cond (ixOK (IntKind.wrap .i64 (v3_10 + v11_12)) l8.length) (cond (decide ((IntKind.wrap .i64 (v3_10 + v11_12)).toNat < l8.length)) (cond (ixOK (IntKind.wrap .i64 (v3_10 + v10_11)) l8.length) (cond (decide ((IntKind.wrap .i64 (v3_10 + v10_11)).toNat < l8.length)) (cond (ixOK (IntKind.wrap .i64 (v3_10 + v10_11)) l8.length) (cond (decide ((IntKind.wrap .i64 (v3_10 + v10_11)).toNat < l8.length)) (cond (ixOK (IntKind.wrap .i64 (v3_10 + v11_12)) l8.length) (cond (decide ((IntKind.wrap .i64 (v3_10 + v11_12)).toNat < (l8.set ((IntKind.wrap .i64 (v3_10 + v10_11)).toNat) (Fm.eta (l8.getD ((IntKind.wrap .i64 (v3_10 + v11_12)).toNat) (Fm.mk 0 0 [] [])))).length)) (some (Step.next (((), v2_9, v3_10, (), v11_12, ()), ((l8.set ((IntKind.wrap .i64 (v3_10 + v10_11)).toNat) (Fm.eta (l8.getD ((IntKind.wrap .i64 (v3_10 + v11_12)).toNat) (Fm.mk 0 0 [] [])))).set ((IntKind.wrap .i64 (v3_10 + v11_12)).toNat) (Fm.eta (l8.getD ((IntKind.wrap .i64 (v3_10 + v10_11)).toNat) (Fm.mk 0 0 [] []))), ())))) none) none) none) none) none) none) none) none))) none) none) none) none)) = some (Step.next l') ∧ (∃ (r : Nat) (m : List Fm), l' = (((), (hi : Int), (f : Int), (), (r : Int), ()), (m, ())) ∧ lo ≤ r ∧ r ≤ hi ∧ SW (f + lo) (f + hi) l m ∧
   (∀ i j, lo ≤ i → i ≠ r → (j = 2 * i + 1 ∨ j = 2 * i + 2) → j < hi → le (atF' m (f + j)) (atF' m (f + i))) ∧
   (∀ p j, lo ≤ p → (r = 2 * p + 1 ∨ r = 2 * p + 2) → (j = 2 * r + 1 ∨ j = 2 * r + 2) → j < hi → le (atF' m (f + j)) (atF' m (f + p)))) ∧ hi - l'.1.2.2.2.2.1.toNat < hi - ((r : Int)).toNat) ∨
    (∃ x, (Option.bind (some (((), (hi : Int), (f : Int), (), (r : Int), (c : Int), ()), (m, ()))) fun d7 : (Unit × Int × Int × Unit × Int × Int × Unit) × ((List Fm) × Unit) => (
 let l8 := d7.2.1
 let v2_9 := d7.1.2.1
 let v3_10 := d7.1.2.2.1
 let v10_11 := d7.1.2.2.2.2.1
 let v11_12 := d7.1.2.2.2.2.2.1
 cond (ixOK (IntKind.wrap .i64 (v3_10 + v10_11)) l8.length) (cond (decide ((IntKind.wrap .i64 (v3_10 + v10_11)).toNat < l8.length)) (cond (ixOK (IntKind.wrap .i64 (v3_10 + v11_12)) l8.length) (cond (decide ((IntKind.wrap .i64 (v3_10 + v11_12)).toNat < l8.length)) (Option.bind (α := Int) (L_compare (Fm.eta (l8.getD ((IntKind.wrap .i64 (v3_10 + v10_11)).toNat) (Fm.mk 0 0 [] []))) (Fm.eta (l8.getD ((IntKind.wrap .i64 (v3_10 + v11_12)).toNat) (Fm.mk 0 0 [] [])))) fun r13 => (
 cond (!(decide (r13 < 0))) (some (Step.done ((), (l8, ())))) (cond (ixOK (IntKind.wrap .i64 (v3_10 + v11_12)) l8.length) (cond (decide ((IntKind.wrap .i64 (v3_10 + v11_12)).toNat < l8.length)) (cond (ixOK (IntKind.wrap .i64 (v3_10 + v10_11)) l8.length) (cond (decide ((IntKind.wrap .i64 (v3_10 + v10_11)).toNat < l8.length)) (cond (ixOK (IntKind.wrap .i64 (v3_10 + v10_11)) l8.length) (cond (decide ((IntKind.wrap .i64 (v3_10 + v10_11)).toNat < l8.length)) (cond (ixOK (IntKind.wrap .i64 (v3_10 + v11_12)) l8.length) (cond (decide ((IntKind.wrap .i64 (v3_10 + v11_12)).toNat < (l8.set ((IntKind.wrap .i64 (v3_10 + v10_11)).toNat) (Fm.eta (l8.getD ((IntKind.wrap .i64 (v3_10 + v11_12)).toNat) (Fm.mk 0 0 [] [])))).length)) (some (Step.next (((), v2_9, v3_10, (), v11_12, ()), ((l8.set ((IntKind.wrap .i64 (v3_10 + v10_11)).toNat) (Fm.eta (l8.getD ((IntKind.wrap .i64 (v3_10 + v11_12)).toNat) (Fm.mk 0 0 [] [])))).set ((IntKind.wrap .i64 (v3_10 + v11_12)).toNat) (Fm.eta (l8.getD ((IntKind.wrap .i64 (v3_10 + v10_11)).toNat) (Fm.mk 0 0 [] []))), ())))) none) none) none) none) none) none) none) none))) none) none) none) none)) = some (Step.done x) ∧ ∃ m, x = ((), (m, ())) ∧ SW (f + lo) (f + hi) l m ∧ HP f lo hi m) := by
   intro c hcc hch hmax
   have w6 : IntKind.wrap .i64 ((f : Int) + (c : Int)) = ((f + c : Nat) : Int) := wA (by omega)
   have j1 : ixOK ((f + c : Nat) : Int) m.length = true := ixOK_iff.2 (by omega)
   have j2 : decide (f + c < m.length) = true := by apply decide_eq_true; omega
   have hcmp : L_compare (m.getD (f + r) (Fm.mk 0 0 [] [])) (m.getD (f + c) (Fm.mk 0 0 [] [])) = some (cmpF (atF' m (f + r)) (atF' m (f + c))) := compare_val (bigAll_at hbm (by omega))
   simp only [Option.bind_some, w5, w6, i3, i4, j1, j2, Int.toNat_natCast, cond_true, Fm.eta_eq, hcmp, List.length_set]
   by_cases hlt : cmpF (atF' m (f + r)) (atF' m (f + c)) < 0
   ·have e2 : decide (cmpF (atF' m (f + r)) (atF' m (f + c)) < 0) = true := decide_eq_true hlt
    simp only [e2, Bool.not_true, cond_false]
    have at1 : ∀ p, atF' (swapL m (f + r) (f + c)) p = if p = f + c then atF' m (f + r) else if p = f + r then atF' m (f + c) else atF' m p := swapL_at m (by omega) (by omega)
    refine .inl ⟨_, rfl, ⟨c, swapL m (f + r) (f + c), rfl, by omega, by omega, .swap _ _ _ _ hsw (by omega) (by omega) (by omega) (by omega), ?_, ?_⟩, by simp only [Int.toNat_natCast]; omega⟩
    ·intro i j q1 q2 q3 q4
     rw [at1, at1]
     by_cases hir : i = r
     ·subst hir
      rw [if_neg (show ¬ f + i = f + c by omega), if_pos rfl]
      by_cases hjc : j = c
      ·subst hjc; rw [if_pos rfl]; exact le_of_lt' hlt
      ·rw [if_neg (by omega), if_neg (by omega)]; exact hmax j q3 q4
     ·rw [if_neg (show ¬ f + i = f + c by omega), if_neg (show ¬ f + i = f + r by omega)]
      by_cases hjr : j = r
      ·subst hjr
       rw [if_neg (by omega), if_pos rfl]
       exact hB i c q1 q3 hcc hch
      ·rw [if_neg (by omega), if_neg (by omega)]; exact hA i j q1 hir q3 q4
    ·intro p j q1 q2 q3 q4
     have hpr : p = r := by omega
     subst hpr
     rw [at1, at1, if_neg (by omega), if_neg (by omega), if_neg (by omega), if_pos rfl]
     exact hA c j (by omega) (by omega) q3 q4
   ·have e2 : decide (cmpF (atF' m (f + r)) (atF' m (f + c)) < 0) = false := decide_eq_false hlt
    simp only [e2, Bool.not_false, cond_true]
    refine .inr ⟨_, rfl, m, rfl, hsw, fun i j q1 q2 q3 => ?_⟩
    by_cases hir : i = r
    ·subst hir
     exact le_trans' (hmax j q2 q3) (le_of_not_lt hlt)
    ·exact hA i j q1 hir q2 q3
  simp only [e1, cond_false]
  by_cases h3 : 2 * r + 2 < hi
  ·have e3 : decide (((2 * r + 2 : Nat) : Int) < (hi : Int)) = true := by apply decide_eq_true; omega
   have k1 : ixOK ((f + (2 * r + 2) : Nat) : Int) m.length = true := ixOK_iff.2 (by omega)
   have k2 : decide (f + (2 * r + 2) < m.length) = true := by apply decide_eq_true; omega
   have hcmp : L_compare (m.getD (f + (2 * r + 1)) (Fm.mk 0 0 [] [])) (m.getD (f + (2 * r + 2)) (Fm.mk 0 0 [] [])) = some (cmpF (atF' m (f + (2 * r + 1))) (atF' m (f + (2 * r + 2)))) := compare_val (bigAll_at hbm (by omega))
   simp only [e3, i1, i2, k1, k2, hcmp, Int.toNat_natCast, cond_true, Bool.true_or, Fm.eta_eq]
   by_cases hlt : cmpF (atF' m (f + (2 * r + 1))) (atF' m (f + (2 * r + 2))) < 0
   ·have e4 : decide (cmpF (atF' m (f + (2 * r + 1))) (atF' m (f + (2 * r + 2))) < 0) = true := decide_eq_true hlt
    simp only [e4, Option.bind_some, cond_true]
    have hm := main (2 * r + 2) (.inr rfl) h3 fun j hj _ => by
     rcases hj with rfl | rfl
     ·exact le_of_lt' hlt
     ·exact le_refl' _
    simp only [Option.bind_some, Fm.eta_eq, Int.toNat_natCast] at hm
    try simp only [Option.bind_some, Fm.eta_eq, Int.toNat_natCast]
    exact hm
   ·have e4 : decide (cmpF (atF' m (f + (2 * r + 1))) (atF' m (f + (2 * r + 2))) < 0) = false := decide_eq_false hlt
    simp only [e4, Option.bind_some, cond_true, cond_false]
    have hm := main (2 * r + 1) (.inl rfl) (by omega) fun j hj _ => by
     rcases hj with rfl | rfl
     ·exact le_refl' _
     ·exact le_of_not_lt hlt
    simp only [Option.bind_some, Fm.eta_eq, Int.toNat_natCast] at hm
    try simp only [Option.bind_some, Fm.eta_eq, Int.toNat_natCast]
    exact hm
  ·have e3 : decide (((2 * r + 2 : Nat) : Int) < (hi : Int)) = false := by apply decide_eq_false; omega
   simp only [e3, Bool.not_false, Bool.or_true, cond_true, cond_false, Option.bind_some]
   have hm := main (2 * r + 1) (.inl rfl) (by omega) fun j hj hjh => by
    rcases hj with rfl | rfl
    ·exact le_refl' _
    ·omega
   simp only [Option.bind_some, Fm.eta_eq, Int.toNat_natCast] at hm
   try simp only [Option.bind_some, Fm.eta_eq, Int.toNat_natCast]
   exact hm
theorem heap_max {f k : Nat} {m : List Fm} (h : HP f 0 k m) : ∀ j, j < k → le (atF' m (f + j)) (atF' m f) := by
 intro j
 induction j using Nat.strongRecOn with
 | _ j ih =>
 intro hj
 by_cases h0 : j = 0
 ·subst h0; exact le_refl' _
 ·have hp := h ((j - 1) / 2) j (Nat.zero_le _) (by omega) hj
  exact le_trans' hp (ih ((j - 1) / 2) (by omega) (by omega))
theorem heapSort_val {a b : Nat} {l : List Fm} (hab : a < b) (hb : b ≤ l.length) (hln : l.length < 1000000000000) (hbig : bigAll l) : ∃ m, G_heapSort (a : Int) (b : Int) l = some ((), (m, ())) ∧ SW a b l m ∧ Srt a b m := by
 obtain ⟨hi, rfl⟩ : ∃ hi, b = a + hi := ⟨b - a, by omega⟩
 have w1 : IntKind.wrap .i64 (((a + hi : Nat) : Int) - (a : Int)) = (hi : Int) := by rw [w64 (by omega) (by omega)]; omega
 have w2 : IntKind.wrap .i64 ((hi : Int) - 1) = ((hi - 1 : Nat) : Int) := wrapS (by omega) (by omega)
 have w3 : IntKind.wrap .i64 (Int.tdiv ((hi - 1 : Nat) : Int) 2) = ((((hi - 1) / 2 + 1 : Nat) : Int) - 1) := by
  have : Int.tdiv ((hi - 1 : Nat) : Int) 2 = (((hi - 1) / 2 : Nat) : Int) := by
   rw [Int.tdiv_eq_ediv_of_nonneg (by omega)]; omega
  rw [this, w64 (by omega) (by omega)]; omega
 unfold G_heapSort
 simp only [w1, w2, w3]
 obtain ⟨r1, hr1, m1, rfl, hsw1, hp1⟩ := loop_wp (b := (fun d1 : (Unit × Unit × Int × Int × Int × Int × Unit) × ((List Fm) × Unit) => (
 let l2 := d1.2.1
 let v8_3 := d1.1.2.2.1
 let v9_4 := d1.1.2.2.2.1
 let v10_5 := d1.1.2.2.2.2.1
 let v11_6 := d1.1.2.2.2.2.2.1
 cond (decide (v11_6 ≥ 0)) (Option.bind (α := (Unit) × ((List Fm) × Unit)) (G_siftDown v11_6 v10_5 v8_3 l2) fun r7 => (
 some (Step.next (((), (), v8_3, v9_4, v10_5, IntKind.wrap .i64 (v11_6 - 1), ()), (r7.2.1, ()))))) (some (Step.done ((((), (), v8_3, v9_4, v10_5, ()), (l2, ())) : (Unit × Unit × Int × Int × Int × Unit) × ((List Fm) × Unit)))))))
  (fun d => ∃ (k : Nat) (m : List Fm), d = (((), (), (a : Int), 0, (hi : Int), (k : Int) - 1, ()), (m, ())) ∧ k ≤ hi ∧ SW a (a + hi) l m ∧ HP a k hi m) (fun d => (d.1.2.2.2.2.2.1 + 1).toNat)
  (fun r => ∃ m, r = (((), (), (a : Int), 0, (hi : Int), ()), (m, ())) ∧ SW a (a + hi) l m ∧ HP a 0 hi m) (by
   rintro d ⟨k, m, rfl, hk, hsw, hp⟩
   have hlen := hsw.length
   by_cases h0 : k = 0
   ·subst h0
    exact .inr ⟨_, rfl, m, rfl, hsw, hp⟩
   ·obtain ⟨i, rfl⟩ : ∃ i, k = i + 1 := ⟨k - 1, by omega⟩
    have e0 : (((i + 1 : Nat) : Int) - 1) = (i : Int) := by omega
    have e1 : decide ((i : Int) ≥ 0) = true := by apply decide_eq_true; omega
    have e2 : IntKind.wrap .i64 ((i : Int) - 1) = (i : Int) - 1 := w64 (by omega) (by omega)
    obtain ⟨m', q1, q2, q3⟩ := siftDown_val (lo := i) (hi := hi) (f := a) (l := m) (by omega) (by omega) (by omega) (hsw.big hb hbig) hp
    simp only [e0, e1, e2, q1, cond_true, Option.bind_some]
    refine .inl ⟨_, rfl, ⟨i, m', rfl, by omega, hsw.trans (q2.mono (by omega) (Nat.le_refl _)), q3⟩, by simp only; omega⟩)
  (((), (), (a : Int), 0, (hi : Int), (((hi - 1) / 2 + 1 : Nat) : Int) - 1, ()), (l, ())) ⟨(hi - 1) / 2 + 1, l, rfl, by omega, .refl _, fun i j q1 q2 q3 => by omega⟩
 have hlen1 := hsw1.length
 have step2 := loop_wp (b := (fun d13 : (Unit × Unit × Int × Int × Int × Unit) × ((List Fm) × Unit) => (
 let l14 := d13.2.1
 let v8_15 := d13.1.2.2.1
 let v9_16 := d13.1.2.2.2.1
 let v12_17 := d13.1.2.2.2.2.1
 cond (decide (v12_17 ≥ 0)) (cond (ixOK (IntKind.wrap .i64 (v8_15 + v12_17)) l14.length) (cond (decide ((IntKind.wrap .i64 (v8_15 + v12_17)).toNat < l14.length)) (cond (ixOK v8_15 l14.length) (cond (decide (v8_15.toNat < l14.length)) (cond (ixOK v8_15 l14.length) (cond (decide (v8_15.toNat < l14.length)) (cond (ixOK (IntKind.wrap .i64 (v8_15 + v12_17)) l14.length) (cond (decide ((IntKind.wrap .i64 (v8_15 + v12_17)).toNat < (l14.set v8_15.toNat (Fm.eta (l14.getD ((IntKind.wrap .i64 (v8_15 + v12_17)).toNat) (Fm.mk 0 0 [] [])))).length)) (Option.bind (α := (Unit) × ((List Fm) × Unit)) (G_siftDown v9_16 v12_17 v8_15 ((l14.set v8_15.toNat (Fm.eta (l14.getD ((IntKind.wrap .i64 (v8_15 + v12_17)).toNat) (Fm.mk 0 0 [] [])))).set ((IntKind.wrap .i64 (v8_15 + v12_17)).toNat) (Fm.eta (l14.getD v8_15.toNat (Fm.mk 0 0 [] []))))) fun r18 => (
 some (Step.next (((), (), v8_15, v9_16, IntKind.wrap .i64 (v12_17 - 1), ()), (r18.2.1, ()))))) none) none) none) none) none) none) none) none) (some (Step.done (((), (l14, ())) : (Unit) × ((List Fm) × Unit)))))))
  (fun d => ∃ (k : Nat) (m : List Fm), d = (((), (), (a : Int), 0, (k : Int) - 1, ()), (m, ())) ∧ k ≤ hi ∧ SW a (a + hi) l m ∧ HP a 0 k m ∧ ∀ p q, a ≤ p → p < q → a + k ≤ q → q < a + hi → le (atF' m p) (atF' m q)) (fun d => (d.1.2.2.2.2.1 + 1).toNat)
  (fun r => ∃ m, r = ((), (m, ())) ∧ SW a (a + hi) l m ∧ Srt a (a + hi) m) (by
   rintro d ⟨k, m, rfl, hk, hsw, hp, hso⟩
   have hlen := hsw.length
   by_cases h0 : k = 0
   ·subst h0
    exact .inr ⟨_, rfl, m, rfl, hsw, fun p q q1 q2 q3 => hso p q q1 q2 (by omega) q3⟩
   ·obtain ⟨i, rfl⟩ : ∃ i, k = i + 1 := ⟨k - 1, by omega⟩
    have e0 : (((i + 1 : Nat) : Int) - 1) = (i : Int) := by omega
    have e1 : decide ((i : Int) ≥ 0) = true := by apply decide_eq_true; omega
    have e2 : IntKind.wrap .i64 ((i : Int) - 1) = (i : Int) - 1 := w64 (by omega) (by omega)
    have e3 : IntKind.wrap .i64 ((a : Int) + (i : Int)) = ((a + i : Nat) : Int) := wA (by omega)
    have i1 : ixOK ((a + i : Nat) : Int) m.length = true := ixOK_iff.2 (by omega)
    have i2 : decide (a + i < m.length) = true := by apply decide_eq_true; omega
    have i3 : ixOK (a : Int) m.length = true := ixOK_iff.2 (by omega)
    have i4 : decide (a < m.length) = true := by apply decide_eq_true; omega
    have at1 : ∀ p, atF' (swapL m a (a + i)) p = if p = a + i then atF' m a else if p = a then atF' m (a + i) else atF' m p := swapL_at m (by omega) (by omega)
    have hsw' : SW a (a + hi) l (swapL m a (a + i)) := .swap _ _ _ _ hsw (by omega) (by omega) (by omega) (by omega)
    obtain ⟨m', q1, q2, q3⟩ := siftDown_val (lo := 0) (hi := i) (f := a) (l := swapL m a (a + i)) (by rw [swapL_length]; omega) (by rw [swapL_length]; omega) (by omega) (hsw'.big hb hbig) (fun x y r1 r2 r3 => by
     rw [at1, at1, if_neg (by omega), if_neg (by omega), if_neg (by omega), if_neg (by omega)]
     exact hp x y (by omega) r2 (by omega))
    have hmax := heap_max hp
    have hswl : a + i ≤ (swapL m a (a + i)).length := by rw [swapL_length]; omega
    have q1' : G_siftDown 0 (i : Int) (a : Int) ((m.set a (m.getD (a + i) (Fm.mk 0 0 [] []))).set (a + i) (m.getD a (Fm.mk 0 0 [] []))) = some ((), (m', ())) := q1
    simp only [e0, e1, e2, e3, i1, i2, i3, i4, cond_true, Int.toNat_natCast, List.length_set, Fm.eta_eq, q1', Option.bind_some]
    refine .inl ⟨_, rfl, ⟨i, m', rfl, by omega, hsw'.trans (q2.mono (by omega) (by omega)), q3, ?_⟩, by simp only; omega⟩
    intro p q r1 r2 r3 r4
    rw [q2.out hswl (p := q) (.inr (by omega)), at1]
    by_cases hpi : p < a + i
    ·by_cases hq : q = a + i
     ·rw [if_pos hq]
      refine q2.all hswl (P := fun x => le x (atF' m a)) (fun p' s1 s2 => ?_) p (by omega) hpi
      rw [at1, if_neg (by omega)]
      split
      ·exact hmax i (by omega)
      ·obtain ⟨j, rfl⟩ : ∃ j, p' = a + j := ⟨p' - a, by omega⟩
       exact hmax j (by omega)
     ·rw [if_neg hq, if_neg (by omega)]
      refine q2.all hswl (P := fun x => le x (atF' m q)) (fun p' s1 s2 => ?_) p (by omega) hpi
      rw [at1, if_neg (by omega)]
      split
      ·exact hso (a + i) q (by omega) (by omega) (by omega) r4
      ·exact hso p' q (by omega) (by omega) (by omega) r4
    ·rw [q2.out hswl (p := p) (.inr (by omega)), at1]
     by_cases hp' : p = a + i
     ·rw [if_pos hp', if_neg (by omega), if_neg (by omega)]
      exact hso a q (by omega) (by omega) (by omega) r4
     ·rw [if_neg hp', if_neg (by omega), if_neg (by omega), if_neg (by omega)]
      exact hso p q r1 r2 (by omega) r4)
  (((), (), (a : Int), 0, (hi : Int) - 1, ()), (m1, ())) ⟨hi, m1, rfl, Nat.le_refl _, hsw1, hp1, fun p q q1 q2 q3 q4 => by omega⟩
 obtain ⟨r2, hr2, m2, rfl, hsw2, hs2⟩ := step2
 refine ⟨m2, ?_, hsw2, hs2⟩
 refine (congrArg (fun o => Option.bind o _) hr1).trans ?_
 have w2' : IntKind.wrap .i64 ((hi : Int) - 1) = (hi : Int) - 1 := w64 (by omega) (by omega)
 simp only [Option.bind_some, w2']
 exact hr2
end Go.Ab

set_option maxRecDepth 100000
namespace Go.Ab
open Go Go.RowKit Go.Proofs
theorem revRange_val {a b : Nat} {l : List Fm} (hab : a < b) (hb : b ≤ l.length) (hln : l.length < 1000000000000) : ∃ m, G_revRange (a : Int) (b : Int) l = some ((), (m, ())) ∧ SW a b l m := by
 unfold G_revRange
 refine ret_of ?_
 rw [wrapS (show b < 4611686018427387904 by omega) (by omega)]
 refine loop_wp (fun d => ∃ (i j : Nat) (m : List Fm), d = (((), (i : Int), (j : Int), ()), (m, ())) ∧ a ≤ i ∧ j < b ∧ SW a b l m) (fun d => (d.1.2.2.1).toNat) _ ?_ _
  ⟨a, b - 1, l, rfl, Nat.le_refl _, by omega, .refl _⟩
 rintro d ⟨i, j, m, rfl, h1, h2, hsw⟩
 have hlen := hsw.length
 by_cases hij : i < j
 ·have e1 : decide ((i : Int) < (j : Int)) = true := by apply decide_eq_true; omega
  have i1 : ixOK (i : Int) m.length = true := ixOK_iff.2 (by omega)
  have i2 : decide (i < m.length) = true := by apply decide_eq_true; omega
  have i3 : ixOK (j : Int) m.length = true := ixOK_iff.2 (by omega)
  have i4 : decide (j < m.length) = true := by apply decide_eq_true; omega
  simp only [e1, i1, i2, i3, i4, cond_true, Int.toNat_natCast, List.length_set, Fm.eta_eq, wrapN (show i < 4611686018427387904 by omega), wrapS (show j < 4611686018427387904 by omega) (by omega)]
  exact .inl ⟨_, rfl, ⟨i + 1, j - 1, swapL m i j, rfl, by omega, by omega, .swap _ _ _ _ hsw (by omega) (by omega) (by omega) (by omega)⟩, by simp only [Int.toNat_natCast]; omega⟩
 ·have e1 : decide ((i : Int) < (j : Int)) = false := by apply decide_eq_false; omega
  exact .inr ⟨_, by simp only [e1, cond_false], m, rfl, hsw⟩
theorem order2_val {p q : Nat} {l : List Fm} (hp : p < l.length) (hq : q < l.length) (hln : l.length < 1000000000000) (hbig : bigAll l) (s : Int) :
  ∃ p' q' : Nat, ∃ s', G_order2 (p : Int) (q : Int) l (s, ()) = some (((p' : Int), (q' : Int), ()), (l, (s', ()), ())) ∧ ((p' = p ∧ q' = q) ∨ (p' = q ∧ q' = p)) := by
 have i1 : ixOK (p : Int) l.length = true := ixOK_iff.2 (by omega)
 have i2 : decide (p < l.length) = true := by apply decide_eq_true; omega
 have i3 : ixOK (q : Int) l.length = true := ixOK_iff.2 (by omega)
 have i4 : decide (q < l.length) = true := by apply decide_eq_true; omega
 have hcmp : L_compare (l.getD q (Fm.mk 0 0 [] [])) (l.getD p (Fm.mk 0 0 [] [])) = some (cmpF (atF' l q) (atF' l p)) := compare_val (bigAll_at hbig hq)
 unfold G_order2
 simp only [i1, i2, i3, i4, cond_true, Int.toNat_natCast, Fm.eta_eq, hcmp, Option.bind_some]
 by_cases hc : cmpF (atF' l q) (atF' l p) < 0
 ·exact ⟨q, p, _, by simp only [hc, decide_true, cond_true]; rfl, .inr ⟨rfl, rfl⟩⟩
 ·exact ⟨p, q, _, by simp only [hc, decide_false, cond_false]; rfl, .inl ⟨rfl, rfl⟩⟩
theorem median_val {p q r : Nat} {l : List Fm} (hp : p < l.length) (hq : q < l.length) (hr : r < l.length) (hln : l.length < 1000000000000) (hbig : bigAll l) (s : Int) :
  ∃ m : Nat, ∃ s', G_median (p : Int) (q : Int) (r : Int) l (s, ()) = some ((m : Int), (l, (s', ()), ())) ∧ (m = p ∨ m = q ∨ m = r) := by
 obtain ⟨a1, b1, s1, e1, o1⟩ := order2_val hp hq hln hbig s
 obtain ⟨b2, c2, s2, e2, o2⟩ := order2_val (p := b1) (q := r) (by omega) hr hln hbig s1
 obtain ⟨a3, b3, s3, e3, o3⟩ := order2_val (p := a1) (q := b2) (by omega) (by omega) hln hbig s2
 refine ⟨b3, s3, ?_, by omega⟩
 unfold G_median
 simp only [e1, e2, e3, Option.bind_some]
theorem medianAdj_val {p : Nat} {l : List Fm} (h0 : 0 < p) (hp : p + 1 < l.length) (hln : l.length < 1000000000000) (hbig : bigAll l) (s : Int) :
  ∃ m : Nat, ∃ s', G_medianAdj (p : Int) l (s, ()) = some ((m : Int), (l, (s', ()), ())) ∧ p - 1 ≤ m ∧ m ≤ p + 1 := by
 obtain ⟨m, s', e, o⟩ := median_val (p := p - 1) (q := p) (r := p + 1) (by omega) (by omega) hp hln hbig s
 refine ⟨m, s', ?_, by omega⟩
 unfold G_medianAdj
 simp only [wrapS (show p < 4611686018427387904 by omega) h0, wrapN (show p < 4611686018427387904 by omega), e, Option.bind_some]
theorem choosePivot_val {a b : Nat} {l : List Fm} (hab : a + 8 ≤ b) (hb : b ≤ l.length) (hln : l.length < 1000000000000) (hbig : bigAll l) :
  ∃ p : Nat, ∃ h : Int, G_choosePivot (a : Int) (b : Int) l = some (((p : Int), h, ()), (l, ())) ∧ a ≤ p ∧ p < b := by
 have w1 : IntKind.wrap .i64 ((b : Int) - (a : Int)) = ((b - a : Nat) : Int) := by rw [w64 (by omega) (by omega)]; omega
 have w2 : IntKind.wrap .i64 (Int.tdiv ((b - a : Nat) : Int) 4) = (((b - a) / 4 : Nat) : Int) := by
  have : Int.tdiv ((b - a : Nat) : Int) 4 = (((b - a) / 4 : Nat) : Int) := by rw [Int.tdiv_eq_ediv_of_nonneg (by omega)]; omega
  rw [this, w64 (by omega) (by omega)]
 have w3 : ∀ c : Nat, c ≤ 3 → IntKind.wrap .i64 ((a : Int) + IntKind.wrap .i64 ((((b - a) / 4 : Nat) : Int) * (c : Int))) = ((a + (b - a) / 4 * c : Nat) : Int) := fun c hc => by
  have hm : (b - a) / 4 * c ≤ (b - a) / 4 * 3 := Nat.mul_le_mul_left _ hc
  have e : (((b - a) / 4 : Nat) : Int) * (c : Int) = (((b - a) / 4 * c : Nat) : Int) := by simp
  rw [e, w64 (n := (((b - a) / 4 * c : Nat) : Int)) (by omega) (by omega), wA (by omega)]
 have w31 : IntKind.wrap .i64 ((a : Int) + IntKind.wrap .i64 ((((b - a) / 4 : Nat) : Int) * 1)) = ((a + (b - a) / 4 * 1 : Nat) : Int) := w3 1 (by omega)
 have w32 : IntKind.wrap .i64 ((a : Int) + IntKind.wrap .i64 ((((b - a) / 4 : Nat) : Int) * 2)) = ((a + (b - a) / 4 * 2 : Nat) : Int) := w3 2 (by omega)
 have w33 : IntKind.wrap .i64 ((a : Int) + IntKind.wrap .i64 ((((b - a) / 4 : Nat) : Int) * 3)) = ((a + (b - a) / 4 * 3 : Nat) : Int) := w3 3 (by omega)
 have e1 : decide (((b - a : Nat) : Int) ≥ 8) = true := by apply decide_eq_true; omega
 have fin : ∀ (p : Nat) (c : Int), a ≤ p → p < b → ∃ p' : Nat, ∃ h : Int, (cond (decide (c = 0)) (some (((p : Int), (1 : Int), ()), (l, ()))) (cond (decide (c = 12)) (some (((p : Int), (2 : Int), ()), (l, ()))) (some (((p : Int), (0 : Int), ()), (l, ()))))) = some (((p' : Int), h, ()), (l, ())) ∧ a ≤ p' ∧ p' < b := fun p c h1 h2 => by
  by_cases c0 : c = 0
  ·exact ⟨p, 1, by simp [c0], h1, h2⟩
  ·by_cases c12 : c = 12
   ·exact ⟨p, 2, by simp [c12], h1, h2⟩
   ·exact ⟨p, 0, by simp [c0, c12], h1, h2⟩
 unfold G_choosePivot
 simp only [w1, w2, w31, w32, w33, e1, cond_true]
 by_cases h50 : b - a ≥ 50
 ·have e2 : decide (((b - a : Nat) : Int) ≥ 50) = true := by apply decide_eq_true; omega
  obtain ⟨m1, s1, q1, r1⟩ := medianAdj_val (p := a + (b - a) / 4 * 1) (by omega) (by omega) hln hbig 0
  obtain ⟨m2, s2, q2, r2⟩ := medianAdj_val (p := a + (b - a) / 4 * 2) (by omega) (by omega) hln hbig s1
  obtain ⟨m3, s3, q3, r3⟩ := medianAdj_val (p := a + (b - a) / 4 * 3) (by omega) (by omega) hln hbig s2
  obtain ⟨m4, s4, q4, r4⟩ := median_val (p := m1) (q := m2) (r := m3) (by omega) (by omega) (by omega) hln hbig s3
  simp only [e2, q1, q2, q3, q4, cond_true, Option.bind_some]
  exact fin m4 s4 (by omega) (by omega)
 ·have e2 : decide (((b - a : Nat) : Int) ≥ 50) = false := by apply decide_eq_false; omega
  obtain ⟨m4, s4, q4, r4⟩ := median_val (p := a + (b - a) / 4 * 1) (q := a + (b - a) / 4 * 2) (r := a + (b - a) / 4 * 3) (by omega) (by omega) (by omega) hln hbig 0
  simp only [e2, q4, cond_false, Option.bind_some]
  exact fin m4 s4 (by omega) (by omega)
end Go.Ab
