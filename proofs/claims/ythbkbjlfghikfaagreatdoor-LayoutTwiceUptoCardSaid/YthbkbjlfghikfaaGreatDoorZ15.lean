/-
  READING: Read, One and the law.
-/
import Derived.Test.YthbkbjlfghikfaaGreatDoorZ14
import Derived.Test.YthbkbjlfghikfaaGreatDoorZ11
import Derived.Test.YthbkbjlfghikfaaGreatDoorZ13
import Derived.Laws.RangeAny
import Derived.Laws.RangeString
set_option linter.unusedVariables false
set_option linter.unusedSimpArgs false
set_option maxRecDepth 100000
namespace Go.Ab
open Go Go.RowKit Go.Proofs
mutual
def Fm.size : Fm → Nat
 | .mk k _ _ l => 1 + (if k = 3 then Fm.sizeL l else 0)
def Fm.sizeL : List Fm → Nat
 | [] => 0
 | f :: r => f.size + Fm.sizeL r
end
mutual
def Fm.depth : Fm → Nat
 | .mk k _ _ l => 1 + (if k = 3 then Fm.depthL l else 0)
def Fm.depthL : List Fm → Nat
 | [] => 0
 | f :: r => max f.depth (Fm.depthL r)
end
theorem sizeL_take (l : List Fm) {i : Nat} (h : i < l.length) : Fm.sizeL (l.take (i + 1)) = Fm.sizeL (l.take i) + l[i].size := by
 rw [List.take_succ_eq_append_getElem h]
 have : ∀ a b : List Fm, Fm.sizeL (a ++ b) = Fm.sizeL a + Fm.sizeL b := by
  intro a b
  induction a with
  | nil => simp [Fm.sizeL]
  | cons x r ih => simp only [List.cons_append, Fm.sizeL, ih]; omega
 rw [this]; simp [Fm.sizeL]
theorem depthL_take (l : List Fm) {i : Nat} (h : i < l.length) : Fm.depthL (l.take (i + 1)) = max (Fm.depthL (l.take i)) l[i].depth := by
 rw [List.take_succ_eq_append_getElem h]
 have : ∀ a b : List Fm, Fm.depthL (a ++ b) = max (Fm.depthL a) (Fm.depthL b) := by
  intro a b
  induction a with
  | nil => simp [Fm.depthL]
  | cons x r ih => simp only [List.cons_append, Fm.depthL, ih]; omega
 rw [this]; simp [Fm.depthL]
theorem sizeL_take_le (l : List Fm) (i : Nat) : Fm.sizeL (l.take i) ≤ Fm.sizeL l := by
 induction l generalizing i with
 | nil => simp
 | cons f r ih => cases i with
  | zero => simp [Fm.sizeL]
  | succ i => simp only [List.take_succ_cons, Fm.sizeL]; have := ih i; omega
theorem depthL_take_le (l : List Fm) (i : Nat) : Fm.depthL (l.take i) ≤ Fm.depthL l := by
 induction l generalizing i with
 | nil => simp
 | cons f r ih => cases i with
  | zero => simp [Fm.depthL]
  | succ i => simp only [List.take_succ_cons, Fm.depthL]; have := ih i; omega
theorem kids_val (f : Fm) : G_kids f = some (if f.k = 3 then f.l else []) := by
 unfold G_kids
 by_cases h : f.k = 3
 ·simp [h]
 ·simp [h]
theorem Fm.size_eq (f : Fm) : f.size = 1 + Fm.sizeL (if f.k = 3 then f.l else []) := by
 cases f; simp only [Fm.size, Fm.k, Fm.l]; split <;> simp_all [Fm.sizeL]
theorem Fm.depth_eq (f : Fm) : f.depth = 1 + Fm.depthL (if f.k = 3 then f.l else []) := by
 cases f; simp only [Fm.depth, Fm.k, Fm.l]; split <;> simp_all [Fm.depthL]
def wordS (t : List UInt8) : Bool := decide (t ≠ []) && (decide (t.length ≤ 30) && !numericS t)
def leafS (k n : Int) (t : List UInt8) (l : List Fm) : Bool :=
 if k = 0 then decide (t = []) && (decide (l = []) && (decide (-1152921504606846976 ≤ n) && decide (n ≤ 1152921504606846976)))
 else if k = 1 then (wordS t && t.all fun c => !outsideS c) && (decide (n = 0) && decide (l = []))
 else if k = 2 then decide (t.length ≤ 2000) && (!badT t && (decide (n = 0) && decide (l = [])))
 else if k = 3 then decide (t = []) && decide (n = 0)
 else false
theorem outside_byte {t : List UInt8} {i : Nat} (h : i < t.length) : outsideF (byteAt t (i : Int)) = some (outsideS t[i]) := by
 have hb := t[i].toNat_lt
 have e : byteAt t (i : Int) = (t[i].toNat : Int) := by unfold byteAt; simp [h]
 unfold outsideF
 rw [e, if_pos (by omega)]
 simp
theorem word_loop {a n : Int} {t : List UInt8} {l : List Fm} {A : Type} {v : A} (F : ((Int × Int × (List UInt8) × (List Fm) × Unit) × Bool × Unit) × (Unit) → Option A) (b0 : Bool) (ht : t.length ≤ 30)
  (hF : F ((((a, n, t, l, ()), b0 && t.all fun c => !outsideS c, ()), ())) = some v) :
  Option.bind (loopM (L := ((Int × Int × (List UInt8) × (List Fm) × Unit) × Bool × Int × Unit) × (Unit)) (R := ((Int × Int × (List UInt8) × (List Fm) × Unit) × Bool × Unit) × (Unit)) (fun d2 => (
 let v3_3 := d2.1.2.1
 let v4_4 := d2.1.2.2.1
 cond (cond (decide (v4_4 < (d2.1.1.2.2.1.length : Int))) v3_3 false) (cond (ixOK v4_4 d2.1.1.2.2.1.length) (Option.bind (α := Bool) (outsideF (byteAt d2.1.1.2.2.1 v4_4)) fun r5 => (
 some (Step.next (((d2.1.1.1, d2.1.1.2.1, d2.1.1.2.2.1, d2.1.1.2.2.2.1, ()), !r5, IntKind.wrap .i64 (v4_4 + 1), ()), ())))) none) (some (Step.done (((d2.1.1.1, d2.1.1.2.1, d2.1.1.2.2.1, d2.1.1.2.2.2.1, ()), v3_3, ()), ()))))) (((a, n, t, l, ()), b0, 0, ()), ())) F = some v := by
 have key : ∀ j i (b : Bool), i + j = t.length → F ((((a, n, t, l, ()), b && (t.drop i).all fun c => !outsideS c, ()), ())) = some v → Option.bind (loopM (L := ((Int × Int × (List UInt8) × (List Fm) × Unit) × Bool × Int × Unit) × (Unit)) (R := ((Int × Int × (List UInt8) × (List Fm) × Unit) × Bool × Unit) × (Unit)) (fun d2 => (
 let v3_3 := d2.1.2.1
 let v4_4 := d2.1.2.2.1
 cond (cond (decide (v4_4 < (d2.1.1.2.2.1.length : Int))) v3_3 false) (cond (ixOK v4_4 d2.1.1.2.2.1.length) (Option.bind (α := Bool) (outsideF (byteAt d2.1.1.2.2.1 v4_4)) fun r5 => (
 some (Step.next (((d2.1.1.1, d2.1.1.2.1, d2.1.1.2.2.1, d2.1.1.2.2.2.1, ()), !r5, IntKind.wrap .i64 (v4_4 + 1), ()), ())))) none) (some (Step.done (((d2.1.1.1, d2.1.1.2.1, d2.1.1.2.2.1, d2.1.1.2.2.2.1, ()), v3_3, ()), ()))))) (((a, n, t, l, ()), b, (i : Int), ()), ())) F = some v := by
  intro j
  induction j with
  | zero =>
   intro i b hi hv
   obtain rfl : i = t.length := by omega
   rw [loopM_done (r := (((a, n, t, l, ()), b, ()), ())) (by simp)]
   simpa using hv
  | succ j ih =>
   intro i b hi hv
   have hlt : i < t.length := by omega
   cases b with
   | false =>
    rw [loopM_done (r := (((a, n, t, l, ()), false, ()), ())) (by simp)]
    simpa using hv
   | true =>
    have e1 : decide ((i : Int) < (t.length : Int)) = true := by simp [hlt]
    have e2 : ixOK (i : Int) t.length = true := ixOK_iff.2 (by omega)
    rw [loopM_next (l' := (((a, n, t, l, ()), !outsideS t[i], ((i + 1 : Nat) : Int), ()), ())) (by
     simp only [e1, e2, cond_true, outside_byte hlt, Option.bind_some, wrapN (show i < 4611686018427387904 by omega)])]
    refine ih (i + 1) _ (by omega) ?_
    rw [List.drop_eq_getElem_cons hlt, List.all_cons, Bool.true_and] at hv
    exact hv
 exact key t.length 0 b0 (by omega) (by simpa using hF)
theorem len0 {α : Type} (l : List α) : decide ((l.length : Int) = 0) = decide (l = []) := by
 cases l with
 | nil => rfl
 | cons a r =>
  have : ¬ ((a :: r).length : Int) = 0 := by simp only [List.length_cons]; omega
  simp only [this, decide_false]; rfl
theorem leaf_val (f : Fm) : G_leaf f = some (leafS f.k f.n f.t f.l) := by
 unfold G_leaf leafS
 generalize f.k = a
 generalize f.n = n
 generalize f.t = t
 generalize f.l = l
 simp only [len0]
 by_cases h0 : a = 0
 ·subst h0
  simp only [decide_true, cond_true, if_true, Option.bind_some, ge_iff_le]
  congr 1
  apply Bool.eq_iff_iff.2
  simp [and_assoc]
 ·simp only [h0, decide_false, cond_false, if_false]
  by_cases h1 : a = 1
  ·subst h1
   simp only [decide_true, cond_true, if_true]
   by_cases hn : t = []
   ·subst hn
    simp only [decide_true, Bool.not_true, cond_false, Option.bind_some]
    rw [loopM_done (r := (((1, n, [], l, ()), false, ()), ())) (by simp)]
    simp [wordS]
   ·by_cases hl : t.length ≤ 30
    ·have e1 : decide ((t.length : Int) ≤ 30) = true := by simp; omega
     have hnum : numericF t = some (numericS t) := by unfold numericF; rw [if_pos (by omega)]
     simp only [hn, decide_false, Bool.not_false, cond_true, e1, hnum, Option.bind_some]
     rw [word_loop (v := Step.done (cond (cond ((!numericS t) && t.all fun c => !outsideS c) (decide (n = 0)) false) (decide (l = [])) false)) _ _ hl (by simp only [len0])]
     simp only [Option.bind_some]
     congr 1
     have ew : wordS t = !numericS t := by simp [wordS, hn, hl]
     rw [ew]
     apply Bool.eq_iff_iff.2
     simp [and_assoc]
    ·have e1 : decide ((t.length : Int) ≤ 30) = false := by simp; omega
     simp only [hn, decide_false, Bool.not_false, cond_true, e1, cond_false, Option.bind_some]
     rw [loopM_done (r := (((1, n, t, l, ()), false, ()), ())) (by simp)]
     simp [wordS, hl]
  ·simp only [h1, decide_false, cond_false, if_false]
   by_cases h2 : a = 2
   ·subst h2
    simp only [decide_true, cond_true, if_true]
    by_cases hl : t.length ≤ 2000
    ·have e1 : decide ((t.length : Int) ≤ 2000) = true := by simp; omega
     simp only [e1, cond_true, Option.bind_some, hl, decide_true, Bool.true_and]
     congr 1
     apply Bool.eq_iff_iff.2
     simp [and_assoc]
    ·have e1 : decide ((t.length : Int) ≤ 2000) = false := by simp; omega
     simp [e1, hl]
   ·simp only [h2, decide_false, cond_false, if_false]
    by_cases h3 : a = 3
    ·subst h3
     simp only [decide_true, cond_true, if_true, Option.bind_some]
     congr 1
     apply Bool.eq_iff_iff.2
     simp [and_assoc]
    ·simp [h3]
end Go.Ab

namespace Go.Ab
open Go Go.RowKit
mutual
def eqSh : (s : Sh) → s.den → s.den → Bool
 | .d e, x, y => eqE e x y
 | .c _, _, _ => true
 | .ref _ _, _, _ => true
 | .gs _ _, _, _ => true
 | .mref _ _, x, y => eqBl x y
 | .gv _ _, _, _ => false
 | .agg l, x, y => eqShL l x y
 | .tup l, x, y => eqShL l x y
 | .rptr l, x, y => eqShL l x y
 | .fn _ _ _, _, _ => false
 | .iface _ s, x, y => eqSh s x y
def eqShL : (l : List Sh) → Sh.denL l → Sh.denL l → Bool
 | [], _, _ => true
 | s :: l, x, y => eqSh s x.1 y.1 && eqShL l x.2 y.2
end
mutual
theorem eqSh_sound : ∀ (s : Sh) (x y : s.den), eqSh s x y = true → x = y
 | .d e, x, y, h => eqE_sound e x y h
 | .c _, x, y, h => rfl
 | .ref _ _, x, y, h => rfl
 | .gs _ _, x, y, h => rfl
 | .mref _ _, x, y, h => eqBl_sound x y h
 | .gv _ _, x, y, h => by cases h
 | .agg l, x, y, h => eqShL_sound l x y h
 | .tup l, x, y, h => eqShL_sound l x y h
 | .rptr l, x, y, h => eqShL_sound l x y h
 | .fn _ _ _, x, y, h => by cases h
 | .iface _ s, x, y, h => eqSh_sound s x y h
theorem eqShL_sound : ∀ (l : List Sh) (x y : Sh.denL l), eqShL l x y = true → x = y
 | [], x, y, h => rfl
 | s :: l, (x1, x2), (y1, y2), h => by
  have h : (eqSh s x1 y1 && eqShL l x2 y2) = true := h
  rw [Bool.and_eq_true] at h
  rw [eqSh_sound s x1 y1 h.1, eqShL_sound l x2 y2 h.2]
end
end Go.Ab

set_option maxRecDepth 100000
namespace Go.Ab
open Go Go.RowKit Go.Proofs
end Go.Ab

set_option maxRecDepth 100000
namespace Go.Ab
open Go Go.RowKit Go.Proofs
noncomputable def G_readBad (x0 : Fm) : Option (Bool) := (
 Option.bind (α := Bool) (G_rvalid (Fm.eta x0)) fun r1 => (
 some (!r1)))
def A_readBad : An := .leaf
def H_readBad : Nat → RH := fun _ => {}
noncomputable def S_readBad : Sig := .n [(.d .form)] (.d .bool) (fun x => G_readBad x.1)
theorem S_readBad_ok : SigOK CX 60 S_readBad := sigN_of (l := [(24, S_rvalid)]) ⟨S_rvalid_ok, trivial⟩ (hint := H_readBad) (an := A_readBad) (fun x => by kernel_rfl)
noncomputable def G_indexBad (x0 : List Fm) (x1 : Unit) : Option (Int) := (
 Option.bind (α := Step ((Unit) × (Unit)) (Int))
 (loopM (L := ((List Fm) × Unit × Int × Int × Unit) × (Unit)) (R := Step ((Unit) × (Unit)) (Int)) (fun d1 => (
 let v0_2 := d1.1.1
 let v7_3 := d1.1.2.2.1
 let v8_4 := d1.1.2.2.2.1
 cond (decide (v8_4 < v7_3)) (cond (ixOK v8_4 v0_2.length) (Option.bind (α := Bool) (G_readBad (Fm.eta (v0_2.getD v8_4.toNat (Fm.mk 0 0 [] [])))) fun r5 => (
 cond r5 (some (Step.done (Step.done v8_4))) (some (Step.next ((v0_2, (), v7_3, IntKind.wrap .i64 (v8_4 + 1), ()), ()))))) none) (some (Step.done (Step.next ((), ())))))) ((x0, (), (x0.length : Int), 0, ()), ())) fun qd6 => match qd6 with
 | .next d6 => (
 some (-1))
 | .done r => some r)
def A_indexBad : An := .seq (.leaf) (.join true { env := [], objs := [] } (.seq (.leaf) (.block (.loop { env := [(0, (.d (.slice .form))), (1, (.c (.fn (.func 60) [] []))), (7, (.d (.int .i64))), (8, (.d (.int .i64)))], objs := [] } (.leaf)))) (.leaf))
def H_indexBad : Nat → RH := fun _ => {}
noncomputable def S_indexBad : Sig := .n [(.d (.slice .form)), (.c (.fn (.func 60) [] []))] (.d (.int .i64)) (fun x => G_indexBad x.1 x.2.1)
theorem S_indexBad_ok : SigOK CX 88 S_indexBad := sigN_of (l := [(60, S_readBad)]) ⟨S_readBad_ok, trivial⟩ (hint := H_indexBad) (an := A_indexBad) (fun x => by kernel_rfl)
noncomputable def G_containsBad1 (x0 : List Fm) (x1 : Unit) : Option (Bool) := (
 Option.bind (α := Int) (G_indexBad x0 ()) fun r1 => (
 some (decide (r1 ≥ 0))))
def A_containsBad1 : An := .leaf
def H_containsBad1 : Nat → RH := fun _ => {}
noncomputable def S_containsBad1 : Sig := .n [(.d (.slice .form)), (.c (.fn (.func 60) [] []))] (.d .bool) (fun x => G_containsBad1 x.1 x.2.1)
theorem S_containsBad1_ok : SigOK CX 59 S_containsBad1 := sigN_of (l := [(88, S_indexBad)]) ⟨S_indexBad_ok, trivial⟩ (hint := H_containsBad1) (an := A_containsBad1) (fun x => by kernel_rfl)
noncomputable def G_requal (x0 : Fm) (x1 : Fm) : Option (Bool) := (
 Option.bind (α := Int) (L_compare (Fm.eta x0) (Fm.eta x1)) fun r1 => (
 some (decide (r1 = 0))))
def A_requal : An := .leaf
def H_requal : Nat → RH := fun _ => {}
noncomputable def S_requal : Sig := .n [(.d .form), (.d .form)] (.d .bool) (fun x => G_requal x.1 x.2.1)
theorem S_requal_ok : SigOK CX 38 S_requal := sigN_of (l := [(62, S_compare_l)]) ⟨S_compare_l_ok, trivial⟩ (hint := H_requal) (an := A_requal) (fun x => by kernel_rfl)
end Go.Ab

set_option maxRecDepth 100000
namespace Go.Ab
open Go Go.RowKit Go.Proofs
mutual
def validS : Fm → Int → Int → Bool × Int
 | .mk k n t l, p, d => if p - 1 < 0 ∨ d = 0 ∨ leafS k n t l = false then (false, p - 1) else validLS l (p - 1) (d - 1)
def validLS : List Fm → Int → Int → Bool × Int
 | [], p, _ => (true, p)
 | f :: r, p, d => if (validS f p d).1 = true then validLS r (validS f p d).2 d else (false, (validS f p d).2)
end
def validF (f : Fm) : Bool := (validS f 20000 100).1
theorem validLS_drop {l : List Fm} {i : Nat} (h : i < l.length) (p d : Int) : validLS (l.drop i) p d = if (validS l[i] p d).1 = true then validLS (l.drop (i + 1)) (validS l[i] p d).2 d else (false, (validS l[i] p d).2) := by
 rw [List.drop_eq_getElem_cons h]; simp only [validLS]
theorem validLS_ok : ∀ (l : List Fm), (∀ f ∈ l, ∀ p d : Int, 0 ≤ p → (validS f p d).1 = true → 0 ≤ (validS f p d).2 ∧ (validS f p d).2 ≤ p) → ∀ p d : Int, 0 ≤ p → (validLS l p d).1 = true → 0 ≤ (validLS l p d).2 ∧ (validLS l p d).2 ≤ p
 | [], _, p, d, hp, _ => ⟨hp, Int.le_refl _⟩
 | f :: r, h, p, d, hp, ht => by
  simp only [validLS] at ht ⊢
  split at ht
  ·rename_i hf
   rw [if_pos hf]
   obtain ⟨h1, h2⟩ := h f (by simp) p d hp hf
   obtain ⟨h3, h4⟩ := validLS_ok r (fun g hg => h g (by simp [hg])) _ d h1 ht
   exact ⟨h3, by omega⟩
  ·cases ht
theorem validS_ok : ∀ f : Fm, ∀ p d : Int, 0 ≤ p → (validS f p d).1 = true → 0 ≤ (validS f p d).2 ∧ (validS f p d).2 ≤ p := Fm.ind fun k n t l ih p d hp ht => by
 simp only [validS] at ht ⊢
 split at ht
 ·cases ht
 ·rename_i hc
  rw [if_neg hc]
  obtain ⟨h1, h2⟩ := validLS_ok l ih (p - 1) (d - 1) (by have := fun h => hc (.inl h); omega) ht
  exact ⟨h1, by omega⟩
def cI (l : List Fm) (p d : Int) : Nat → Int
 | 0 => p
 | i + 1 => match l[i]? with
  | some f => if (validS f (cI l p d i) d).1 = true then (validS f (cI l p d i) d).2 else cI l p d i
  | none => cI l p d i
theorem cI_ok (l : List Fm) (p d : Int) (hp : 0 ≤ p) : ∀ i, 0 ≤ cI l p d i ∧ cI l p d i ≤ p
 | 0 => ⟨hp, Int.le_refl _⟩
 | i + 1 => by
  obtain ⟨h1, h2⟩ := cI_ok l p d hp i
  simp only [cI]
  split
  ·rename_i f hf
   split
   ·rename_i hv
    obtain ⟨h3, h4⟩ := validS_ok f _ d h1 hv
    exact ⟨h3, by omega⟩
   ·exact ⟨h1, h2⟩
  ·exact ⟨h1, h2⟩
theorem validS_eq (f : Fm) (p d : Int) : validS f p d = if p - 1 < 0 ∨ d = 0 ∨ leafS f.k f.n f.t f.l = false then (false, p - 1) else validLS f.l (p - 1) (d - 1) := by
 cases f; simp only [validS]; rfl
theorem valid_up : ∀ k, ∀ (f : Fm) (p d : Int), f.big ≤ 4611686018427387000 → 0 ≤ p → p ≤ 4611686018427387000 → 0 ≤ d → d ≤ 4611686018427387000 → Up (k < f.big) (G_valid k f d (p, ())) ((validS f p d).1, (((validS f p d).2, ()), ()))
 | 0 => fun f p d hb _ _ _ _ => .inr ⟨by unfold G_valid; rfl, by have := big_pos f; omega⟩
 | k + 1 => fun f p d hb hp0 hp1 hd0 hd1 => by
  have hkb := big_kids f
  have hln := length_le_big f.l
  have hmem : ∀ g ∈ f.l, g.big < f.big := fun g hg => by have := big_mem hg; omega
  rw [validS_eq]
  unfold G_valid
  simp only [Fm.eta_eq, leaf_val]
  rw [show IntKind.wrap .i64 (p - 1) = p - 1 from w64 (by omega) (by omega)]
  generalize leafS f.k f.n f.t f.l = b
  generalize f.l = l at hkb hln hmem
  by_cases h1 : p - 1 < 0
  ·simp only [h1, decide_true, cond_true, Bool.not_true, cond_false, Option.bind_some, true_or, if_true]; exact .of rfl
  ·by_cases h2 : d = 0
   ·simp only [h1, h2, decide_false, decide_true, cond_true, cond_false, Bool.not_true, Option.bind_some, true_or, or_true, if_true]; exact .of rfl
   ·cases b with
    | false => simp only [h1, h2, decide_false, cond_true, cond_false, Bool.not_false, Option.bind_some, or_true, if_true]; exact .of rfl
    | true =>
     simp only [h1, h2, decide_false, cond_true, cond_false, Bool.not_false, Bool.not_true, Option.bind_some, Bool.true_eq_false, or_false, if_false]
     refine loop_ix (fun i => (((), d, l, (l.length : Int), (i : Int), ()), ((cI l (p - 1) (d - 1) i, ()), ()))) (fun i => ((validLS (l.drop i) (cI l (p - 1) (d - 1) i) (d - 1)).1, (((validLS (l.drop i) (cI l (p - 1) (d - 1) i) (d - 1)).2, ()), ()))) l.length (fun i hi => ?_) ?_
     ·have e1 : decide ((i : Int) < (l.length : Int)) = true := by simp [hi]
      have e2 : ixOK (i : Int) l.length = true := ixOK_iff.2 (by omega)
      obtain ⟨c1, c2⟩ := cI_ok l (p - 1) (d - 1) (by omega) i
      have hg := hmem _ (List.getElem_mem hi)
      simp only [e1, e2, cond_true, Int.toNat_natCast, getD_in hi, Fm.eta_eq, wrapN (show i < 4611686018427387904 by omega), validLS_drop hi, w64 (show -9223372036854775808 ≤ d - 1 by omega) (by omega)]
      have hcI : cI l (p - 1) (d - 1) (i + 1) = if (validS l[i] (cI l (p - 1) (d - 1) i) (d - 1)).1 = true then (validS l[i] (cI l (p - 1) (d - 1) i) (d - 1)).2 else cI l (p - 1) (d - 1) i := by
       simp only [cI, List.getElem?_eq_getElem hi]
      rcases valid_up k l[i] (cI l (p - 1) (d - 1) i) (d - 1) (by omega) c1 (by omega) (by omega) (by omega) with h | ⟨h, hn⟩
      ·rw [h]
       simp only [Option.bind_some]
       by_cases hv : (validS l[i] (cI l (p - 1) (d - 1) i) (d - 1)).1 = true
       ·rw [if_pos hv] at hcI
        refine .inl ⟨?_, ?_⟩
        ·rw [hcI, hv]; rfl
        ·rw [if_pos hv, hcI]
       ·have hv' : (validS l[i] (cI l (p - 1) (d - 1) i) (d - 1)).1 = false := by simpa using hv
        refine .inr (.inl ⟨.done (false, (((validS l[i] (cI l (p - 1) (d - 1) i) (d - 1)).2, ()), ())), by rw [hv']; rfl, .of ?_⟩)
        rw [if_neg hv]
      ·rw [h]; exact .inr (.inr ⟨rfl, by omega⟩)
     ·refine ⟨.next ((), ((cI l (p - 1) (d - 1) l.length, ()), ())), by simp, .of ?_⟩
      simp [validLS]
theorem valid_val {f : Fm} {p d : Int} (hb : f.big ≤ 4611686018427387000) (h1 : 0 ≤ p) (h2 : p ≤ 4611686018427387000) (h3 : 0 ≤ d) (h4 : d ≤ 4611686018427387000) : L_valid f d (p, ()) = some ((validS f p d).1, (((validS f p d).2, ()), ())) := limF_up (b := f.big) fun k => valid_up k f p d hb h1 h2 h3 h4
theorem rvalid_val {f : Fm} (hb : f.big ≤ 4611686018427387000) : G_rvalid f = some (validF f) := by
 unfold G_rvalid
 rw [Fm.eta_eq, valid_val hb (by omega) (by omega) (by omega) (by omega)]
 rfl
theorem head_val (f : Fm) : G_head f = some (match (if f.k = 3 then f.l else []) with | [] => [] | g :: _ => if g.k = 1 then g.t else []) := by
 unfold G_head
 simp only [Fm.eta_eq, kids_val, Option.bind_some]
 generalize (if f.k = 3 then f.l else []) = l
 cases l with
 | nil => simp [ixOK]
 | cons g r =>
  have e : ixOK 0 (g :: r).length = true := ixOK_iff.2 (by simp only [List.length_cons]; omega)
  have e2 : decide (((g :: r).length : Int) > 0) = true := by simp only [List.length_cons]; simp
  simp only [e, e2, Bool.true_or, cond_true]
  show cond (decide (g.k = 1)) (some g.t) (some []) = _
  by_cases h : g.k = 1 <;> simp [h]
end Go.Ab

set_option maxRecDepth 100000
namespace Go.Ab
open Go Go.RowKit Go.Proofs
theorem requal_val {f g : Fm} (hb : f.big ≤ 4611686018427387000) : G_requal f g = some (decide (cmpF f g = 0)) := by
 unfold G_requal
 simp only [Fm.eta_eq, compare_val hb, Option.bind_some]
end Go.Ab

set_option maxRecDepth 100000
namespace Go.Ab
open Go Go.RowKit Go.Proofs
theorem Up.get {R : Type} {o : Option R} {v : R} (h : Up False o v) : o = some v := h.elim id fun h => h.2.elim
def badB (c : UInt8) : Bool := badR c.toNat
theorem idxR_bad (s : List UInt8) : ∀ (f pos : Nat), s.length < pos + f → (0 ≤ idxR badR s f pos ↔ (s.drop pos).any badB = true)
 | 0, pos, h => by
  rw [List.drop_eq_nil_of_le (by omega)]
  simp [idxR]
 | f + 1, pos, h => by
  unfold idxR
  by_cases hp : pos < s.length
  ·rw [if_pos hp, List.drop_eq_getElem_cons hp, List.any_cons]
   have hsz : pos < (⟨s.toArray⟩ : ByteArray).size := by show pos < s.toArray.size; simpa using hp
   have hel : ((⟨s.toArray⟩ : ByteArray)[pos]'hsz) = s[pos] := by simp [ByteArray.getElem_eq_getElem_data]
   by_cases h8 : s[pos].toNat < 128
   ·have hd := decode_ascii ⟨s.toArray⟩ pos hsz (by rw [hel]; exact h8)
    rw [hd, hel]
    show (0 ≤ (if badR ((s[pos].toNat : Nat) : Int) = true then ((pos : Nat) : Int) else _) ↔ _)
    by_cases hb : badB s[pos] = true
    ·have hb' := hb
     unfold badB at hb'
     rw [if_pos hb', hb]
     simp
    ·have hb' := hb
     unfold badB at hb'
     rw [if_neg hb', idxR_bad s f (pos + 1) (by omega)]
     simp [hb]
   ·have hd := decode_high ⟨s.toArray⟩ pos hsz (by rw [hel]; omega)
    have hb1 : badR (Utf8.decode ⟨s.toArray⟩ pos).1 = true := by
     have := hd.1
     unfold badR
     have a1 : ¬ (((Utf8.decode ⟨s.toArray⟩ pos).1 : Int) = 10) := by omega
     have a2 : (126 < ((Utf8.decode ⟨s.toArray⟩ pos).1 : Int)) := by omega
     simp only [a1, a2, decide_true, decide_false, Bool.not_false, Bool.or_true, Bool.and_true]
    have hb2 : badB s[pos] = true := by
     unfold badB badR
     have a1 : ¬ ((s[pos].toNat : Int) = 10) := by omega
     have a2 : (126 < (s[pos].toNat : Int)) := by omega
     simp only [a1, a2, decide_true, decide_false, Bool.not_false, Bool.or_true, Bool.and_true]
    rw [if_pos hb1, hb2]
    simp
  ·rw [if_neg hp, List.drop_eq_nil_of_le (by omega)]
   simp
theorem badT_any (t : List UInt8) : badT t = t.any badB := by
 unfold badT
 have := idxR_bad t (t.length + 1) 0 (by omega)
 rw [List.drop_zero] at this
 cases h : t.any badB with
 | true => exact decide_eq_true (this.2 h)
 | false => exact decide_eq_false fun hc => by have := this.1 hc; rw [h] at this; cases this
mutual
def fieldsF : Fm → Bool
 | .mk k n t l => leafS k n t l && fieldsL l
def fieldsL : List Fm → Bool
 | [] => true
 | f :: r => fieldsF f && fieldsL r
end
theorem fieldsF_eq (f : Fm) : fieldsF f = (leafS f.k f.n f.t f.l && fieldsL f.l) := by cases f; simp only [fieldsF]; rfl
theorem leafS_kids {k n : Int} {t : List UInt8} {l : List Fm} (h : leafS k n t l = true) : k = 3 ∨ l = [] := by
 unfold leafS at h
 by_cases h3 : k = 3
 ·exact .inl h3
 ·by_cases hl : l = []
  ·exact .inr hl
  ·exfalso
   revert h
   split
   ·simp [hl]
   ·split
    ·simp [hl]
    ·split
     ·simp [hl]
     ·simp [h3]
theorem validLS_iff : ∀ (l : List Fm), (∀ f ∈ l, ∀ p d : Int, 0 ≤ p → 0 ≤ d → (validS f p d).1 = (fieldsF f && (decide ((f.size : Int) ≤ p) && decide ((f.depth : Int) ≤ d))) ∧ ((validS f p d).1 = true → (validS f p d).2 = p - f.size)) →
  ∀ p d : Int, 0 ≤ p → 0 ≤ d → (validLS l p d).1 = (fieldsL l && (decide ((Fm.sizeL l : Int) ≤ p) && decide ((Fm.depthL l : Int) ≤ d))) ∧ ((validLS l p d).1 = true → (validLS l p d).2 = p - Fm.sizeL l)
 | [], _, p, d, hp, hd => by
  simp only [validLS, fieldsL, Fm.sizeL, Fm.depthL]
  refine ⟨?_, fun _ => by simp⟩
  simp [hp, hd]
 | f :: r, h, p, d, hp, hd => by
  obtain ⟨h1, h2⟩ := h f (by simp) p d hp hd
  simp only [validLS, fieldsL, Fm.sizeL, Fm.depthL]
  by_cases hv : (validS f p d).1 = true
  ·rw [if_pos hv]
   have h2' := h2 hv
   rw [hv] at h1
   have h1' := h1.symm
   simp only [Bool.and_eq_true, decide_eq_true_eq] at h1'
   obtain ⟨a1, a2, a3⟩ := h1'
   obtain ⟨b1, b2⟩ := validLS_iff r (fun g hg => h g (by simp [hg])) (validS f p d).2 d (by omega) hd
   refine ⟨?_, fun ht => by have := b2 ht; omega⟩
   rw [b1, a1, h2']
   simp only [Bool.true_and]
   congr 2
   ·apply decide_eq_decide.2; omega
   ·apply decide_eq_decide.2; omega
  ·rw [if_neg hv]
   have hv' : (validS f p d).1 = false := by simpa using hv
   rw [hv'] at h1
   refine ⟨?_, fun h => by cases h⟩
   simp only
   symm
   by_cases a1 : fieldsF f = true
   ·by_cases a2 : (f.size : Int) ≤ p
    ·have a3 : ¬ (f.depth : Int) ≤ d := fun a3 => by rw [a1, decide_eq_true a2, decide_eq_true a3] at h1; cases h1
     have : ¬ (((max f.depth (Fm.depthL r) : Nat) : Int) ≤ d) := by omega
     simp only [this, decide_false, Bool.and_false]
    ·have : ¬ (((f.size + Fm.sizeL r : Nat) : Int) ≤ p) := by omega
     simp only [this, decide_false, Bool.false_and, Bool.and_false]
   ·simp [a1]
theorem validS_iff : ∀ f : Fm, ∀ p d : Int, 0 ≤ p → 0 ≤ d → (validS f p d).1 = (fieldsF f && (decide ((f.size : Int) ≤ p) && decide ((f.depth : Int) ≤ d))) ∧ ((validS f p d).1 = true → (validS f p d).2 = p - f.size) := Fm.ind fun k n t l ih p d hp hd => by
 have eS : (Fm.mk k n t l).size = 1 + (if k = 3 then Fm.sizeL l else 0) := by simp only [Fm.size]
 have eD : (Fm.mk k n t l).depth = 1 + (if k = 3 then Fm.depthL l else 0) := by simp only [Fm.depth]
 generalize (Fm.mk k n t l).size = S at eS ⊢
 generalize (Fm.mk k n t l).depth = D at eD ⊢
 simp only [validS, fieldsF]
 by_cases h1 : p - 1 < 0
 ·rw [if_pos (.inl h1)]
  refine ⟨?_, fun h => by cases h⟩
  have : ¬ ((S : Int) ≤ p) := by omega
  simp only [this, decide_false, Bool.false_and, Bool.and_false]
 ·by_cases h2 : d = 0
  ·rw [if_pos (.inr (.inl h2))]
   refine ⟨?_, fun h => by cases h⟩
   have : ¬ ((D : Int) ≤ d) := by omega
   simp only [this, decide_false, Bool.and_false]
  ·by_cases h3 : leafS k n t l = false
   ·rw [if_pos (.inr (.inr h3)), h3]
    exact ⟨by simp, fun h => by cases h⟩
   ·rw [if_neg (fun h => h.elim h1 fun h => h.elim h2 h3)]
    have h3' : leafS k n t l = true := by simpa using h3
    obtain ⟨b1, b2⟩ := validLS_iff l ih (p - 1) (d - 1) (by omega) (by omega)
    have hs : (if k = 3 then Fm.sizeL l else 0) = Fm.sizeL l ∧ (if k = 3 then Fm.depthL l else 0) = Fm.depthL l := by
     rcases leafS_kids h3' with rfl | rfl
     ·simp
     ·simp [Fm.sizeL, Fm.depthL]
    rw [hs.1] at eS
    rw [hs.2] at eD
    rw [h3', b1]
    refine ⟨?_, fun ht => by rw [← b1] at ht; have := b2 ht; omega⟩
    simp only [Bool.true_and]
    congr 2
    ·apply decide_eq_decide.2; omega
    ·apply decide_eq_decide.2; omega
end Go.Ab

set_option maxRecDepth 100000
namespace Go.Ab
open Go Go.RowKit Go.Proofs
mutual
def wr : Fm → List UInt8
 | .mk k n t l => if k = 0 then Lib.itoa n else if k = 1 then t else if k = 2 then 34 :: (escS t ++ [34]) else 40 :: (wrL true l ++ [41])
def wrL : Bool → List Fm → List UInt8
 | _, [] => []
 | b, f :: r => (if b = true then [] else [32]) ++ (wr f ++ wrL false r)
end
theorem wr_eq (f : Fm) : wr f = if f.k = 0 then Lib.itoa f.n else if f.k = 1 then f.t else if f.k = 2 then 34 :: (escS f.t ++ [34]) else 40 :: (wrL true f.l ++ [41]) := by
 cases f; rw [wr]; rfl
theorem wrL_append : ∀ (a c : List Fm) (b : Bool), wrL b (a ++ c) = wrL b a ++ wrL (b && a.isEmpty) c
 | [], c, b => by simp [wrL]
 | f :: a, c, b => by
  simp only [List.cons_append, wrL, wrL_append a c false, List.isEmpty_cons, Bool.and_false, Bool.false_and, List.append_assoc]
theorem wrL_take (l : List Fm) {i : Nat} (h : i < l.length) : wrL true (l.take (i + 1)) = wrL true (l.take i) ++ ((if i = 0 then [] else [32]) ++ wr l[i]) := by
 rw [List.take_add_one, List.getElem?_eq_getElem h, wrL_append]
 congr 1
 simp only [Option.toList_some, wrL, List.append_nil, Bool.true_and]
 by_cases hi : i = 0
 ·subst hi; simp
 ·have : (l.take i).isEmpty = false := by
   cases hl : l.take i with
   | nil =>
    have := congrArg List.length hl
    rw [List.length_take, Nat.min_eq_left (by omega)] at this
    exact absurd this hi
   | cons a r => rfl
  rw [this]; simp [hi]
theorem nDigits_le : ∀ (k u : Nat), u < 10 ^ k → Lib.nDigits u ≤ k + 1
 | 0, u, h => by rw [Lib.nDigits_small (by simp at h; omega)]; omega
 | k + 1, u, h => by
  by_cases h10 : u < 10
  ·rw [Lib.nDigits_small h10]; omega
  ·rw [Lib.nDigits_big h10]
   have := nDigits_le k (u / 10) (by rw [Nat.pow_succ] at h; omega)
   omega
theorem itoa_len {n : Int} (h1 : -1152921504606846976 ≤ n) (h2 : n ≤ 1152921504606846976) : (Lib.itoa n).length ≤ 21 := by
 unfold Lib.itoa
 split
 ·rw [List.length_cons, Lib.decDigits_length]
  have := nDigits_le 19 n.natAbs (by omega)
  omega
 ·rw [Lib.decDigits_length]
  have := nDigits_le 19 n.toNat (by omega)
  omega
theorem escS_le (t : List UInt8) : (escS t).length ≤ 2 * t.length := by
 rw [escS_len]
 have := cntS_le t
 omega
theorem wr_len : ∀ f : Fm, fieldsF f = true → (wr f).length + 1 ≤ 4101 * f.size := Fm.ind fun k n t l ih hf => by
 rw [fieldsF_eq] at hf
 simp only [Bool.and_eq_true] at hf
 obtain ⟨h1, h2⟩ := hf
 simp only [Fm.k, Fm.n, Fm.t, Fm.l] at h1 h2
 have hs : 1 ≤ (Fm.mk k n t l).size := by rw [Fm.size_eq]; omega
 rw [wr]
 unfold leafS at h1
 by_cases c0 : k = 0
 ·rw [if_pos c0] at h1 ⊢
  simp only [Bool.and_eq_true, decide_eq_true_eq] at h1
  have := itoa_len h1.2.2.1 h1.2.2.2
  omega
 ·rw [if_neg c0] at h1 ⊢
  by_cases c1 : k = 1
  ·rw [if_pos c1] at h1 ⊢
   simp only [wordS, Bool.and_eq_true, decide_eq_true_eq] at h1
   omega
  ·rw [if_neg c1] at h1 ⊢
   by_cases c2 : k = 2
   ·rw [if_pos c2] at h1 ⊢
    simp only [Bool.and_eq_true, decide_eq_true_eq] at h1
    have := escS_le t
    simp only [List.length_cons, List.length_append, List.length_nil]
    omega
   ·rw [if_neg c2] at h1 ⊢
    by_cases c3 : k = 3
    ·have key : ∀ (l : List Fm) (b : Bool), (∀ f ∈ l, fieldsF f = true → (wr f).length + 1 ≤ 4101 * f.size) → fieldsL l = true → (wrL b l).length ≤ 4101 * Fm.sizeL l := by
      intro l
      induction l with
      | nil => intro b _ _; simp [wrL]
      | cons f r ihr =>
       intro b hi hl
       simp only [fieldsL, Bool.and_eq_true] at hl
       have e1 := hi f (by simp) hl.1
       have e2 := ihr false (fun g hg => hi g (List.mem_cons_of_mem _ hg)) hl.2
       simp only [wrL, List.length_append, Fm.sizeL]
       have : (if b = true then [] else [32] : List UInt8).length ≤ 1 := by split <;> simp
       omega
     have := key l true ih h2
     rw [Fm.size_eq]
     have e3 : (if (Fm.mk k n t l).k = 3 then (Fm.mk k n t l).l else []) = l := if_pos c3
     rw [e3]
     simp only [List.length_cons, List.length_append, List.length_nil]
     omega
    ·rw [if_neg c3] at h1; cases h1
theorem wrL_len : ∀ (l : List Fm) (b : Bool), fieldsL l = true → (wrL b l).length ≤ 4101 * Fm.sizeL l
 | [], b, _ => by simp [wrL]
 | f :: r, b, hl => by
  simp only [fieldsL, Bool.and_eq_true] at hl
  have e1 := wr_len f hl.1
  have e2 := wrL_len r false hl.2
  simp only [wrL, List.length_append, Fm.sizeL]
  have : (if b = true then [] else [32] : List UInt8).length ≤ 1 := by split <;> simp
  omega
theorem ints_append (a b : List UInt8) : intsOf a ++ intsOf b = intsOf (a ++ b) := by unfold intsOf; rw [List.map_append]
theorem bldStr_val {x : List UInt8} {b : Bool} {l : List Int} (h : l.length + x.length ≤ 140737488355328) : G_bldStr x (b, (), ()) l = some (((x.length : Int), true, ()), ((true, (), ()), l ++ intsOf x, ())) := by
 unfold G_bldStr
 simp only [Option.bind_some, List.length_map, Nat.mul_one]
 rw [decide_eq_true h]
 rfl
theorem bldByte_val {c : Int} {b : Bool} {l : List Int} (h : l.length + 1 ≤ 140737488355328) : G_bldByte c (b, (), ()) l = some (true, ((true, (), ()), l ++ [c], ())) := by
 unfold G_bldByte
 simp only [Option.bind_some, List.length_cons, List.length_nil, Nat.mul_one, Nat.zero_add]
 rw [decide_eq_true h]
 rfl
end Go.Ab

set_option maxRecDepth 100000
namespace Go.Ab
open Go Go.RowKit Go.Proofs
theorem fieldsL_memX : ∀ {l : List Fm}, fieldsL l = true → ∀ f ∈ l, fieldsF f = true
 | [], _, f, h => by cases h
 | g :: r, hl, f, h => by
  simp only [fieldsL, Bool.and_eq_true] at hl
  rcases List.mem_cons.1 h with rfl | h
  ·exact hl.1
  ·exact fieldsL_memX hl.2 f h
theorem fieldsL_of {l : List Fm} (h : ∀ f ∈ l, fieldsF f = true) : fieldsL l = true := by
 induction l with
 | nil => simp [fieldsL]
 | cons f r ih => simp only [fieldsL, Bool.and_eq_true]; exact ⟨h f (by simp), ih fun g hg => h g (List.mem_cons_of_mem _ hg)⟩
theorem fieldsL_take {l : List Fm} (h : fieldsL l = true) (i : Nat) : fieldsL (l.take i) = true := fieldsL_of fun f hf => fieldsL_memX h f (List.mem_of_mem_take hf)
theorem newRep_val : G_newRep ([[92], [92, 92], [34], [92, 34], [10], [92, 110]]) = some ((), ((0, 0, 0, (), (), ()), old6, ())) := by
 unfold G_newRep
 rfl
theorem replF_val {s : List UInt8} (h : s.length ≤ 1000000) : replF (0, 0, 0, (), (), ()) old6 s = some (escS s, ()) := by
 unfold replF
 rw [if_pos ⟨rfl, rfl, rfl, h⟩]
theorem itoaF_val {n : Int} (h1 : -1152921504606846976 ≤ n) (h2 : n ≤ 1152921504606846976) : itoaF n = some (Lib.itoa n) := by
 unfold itoaF
 rw [if_pos ⟨by omega, by omega⟩]
theorem write_up : ∀ k, ∀ (f : Fm) (b : Bool) (l : List Int), fieldsF f = true → f.big ≤ 4611686018427387000 → l.length + 4101 * f.size ≤ 100000000000 → Up (k < f.big) (G_write k f (b, (), ()) l) ((), ((true, (), ()), l ++ intsOf (wr f), ()))
 | 0 => fun f b l hf hb hl => .inr ⟨by unfold G_write; rfl, by have := big_pos f; omega⟩
 | k + 1 => fun f b l hf hb hl => by
  have hlen := wr_len f hf
  have hw := wr_eq f
  have hf' := hf
  rw [fieldsF_eq] at hf'
  simp only [Bool.and_eq_true] at hf'
  obtain ⟨h1, h2⟩ := hf'
  unfold leafS at h1
  unfold G_write
  by_cases c0 : f.k = 0
  ·rw [if_pos c0] at h1 hw
   simp only [Bool.and_eq_true, decide_eq_true_eq] at h1
   rw [decide_eq_true c0, cond_true, itoaF_val h1.2.2.1 h1.2.2.2]
   simp only [Option.bind_some]
   rw [hw] at hlen ⊢
   rw [bldStr_val (by omega)]
   exact .of rfl
  ·rw [if_neg c0] at h1 hw
   rw [decide_eq_false c0, cond_false]
   by_cases c1 : f.k = 1
   ·rw [if_pos c1] at h1 hw
    rw [decide_eq_true c1, cond_true]
    rw [hw] at hlen ⊢
    rw [bldStr_val (by omega)]
    exact .of rfl
   ·rw [if_neg c1] at h1 hw
    rw [decide_eq_false c1, cond_false]
    by_cases c2 : f.k = 2
    ·rw [if_pos c2] at h1 hw
     simp only [Bool.and_eq_true, decide_eq_true_eq] at h1
     rw [decide_eq_true c2, cond_true]
     rw [hw] at hlen ⊢
     simp only [List.length_cons, List.length_append, List.length_nil] at hlen
     rw [bldByte_val (by omega)]
     simp only [Option.bind_some, newRep_val]
     rw [replF_val (by omega)]
     simp only [Option.bind_some]
     rw [bldStr_val (by simp only [List.length_append, List.length_cons, List.length_nil]; omega)]
     simp only [Option.bind_some]
     rw [bldByte_val (by simp only [List.length_append, List.length_cons, List.length_nil, ints_len]; omega)]
     refine .of ?_
     simp only [Option.bind_some]
     have : l ++ [34] ++ intsOf (escS f.t) ++ [34] = l ++ intsOf (34 :: (escS f.t ++ [34])) := by
      have e1 : intsOf (34 :: (escS f.t ++ [34])) = [34] ++ (intsOf (escS f.t) ++ [34]) := by
       rw [show (34 :: (escS f.t ++ [34]) : List UInt8) = [34] ++ (escS f.t ++ [34]) from rfl, ← ints_append, ← ints_append]
       rfl
      rw [e1]
      simp only [List.append_assoc]
     rw [this]
    ·rw [if_neg c2] at h1 hw
     rw [decide_eq_false c2, cond_false]
     have c3 : f.k = 3 := by
      by_cases c3 : f.k = 3
      ·exact c3
      ·rw [if_neg c3] at h1; cases h1
     have hsz : f.size = 1 + Fm.sizeL f.l := by rw [Fm.size_eq, if_pos c3]
     have hbk := big_kids f
     have hll := length_le_big f.l
     rw [hw] at hlen ⊢
     simp only [List.length_cons, List.length_append, List.length_nil] at hlen
     rw [bldByte_val (by omega)]
     simp only [Option.bind_some]
     refine loop_ix (A := Unit × ((Bool × Unit × Unit) × (List Int) × Unit)) (fun i => (((), f.l, (f.l.length : Int), (i : Int), ()), ((true, (), ()), l ++ intsOf (40 :: wrL true (f.l.take i)), ()))) (fun i => ((), ((true, (), ()), l ++ intsOf (40 :: (wrL true f.l ++ [41])), ()))) f.l.length (fun i hi => ?_) ?_
     ·have e1 : decide ((i : Int) < (f.l.length : Int)) = true := by simp [hi]
      have e2 : ixOK (i : Int) f.l.length = true := ixOK_iff.2 (by omega)
      have hg := big_mem (List.getElem_mem hi)
      have hgf := fieldsL_memX h2 _ (List.getElem_mem hi)
      have hs1 := sizeL_take f.l hi
      have hs2 := sizeL_take_le f.l (i + 1)
      have hw1 := wrL_len (f.l.take i) true (fieldsL_take h2 i)
      simp only [e1, e2, cond_true, Int.toNat_natCast, getD_in hi]
      have step : ∀ (l' : List Int), l'.length + 4101 * f.l[i].size ≤ 100000000000 → l' ++ intsOf (wr f.l[i]) = l ++ intsOf (40 :: wrL true (f.l.take (i + 1))) →
        (Option.bind (α := Unit × ((Bool × Unit × Unit) × (List Int) × Unit)) (G_write k (Fm.mk f.l[i].k f.l[i].n f.l[i].t f.l[i].l) (true, (), ()) l') fun r25 =>
         some (Step.next (R := (Unit × Unit) × ((Bool × Unit × Unit) × (List Int) × Unit)) (((), f.l, (f.l.length : Int), IntKind.wrap .i64 ((i : Int) + 1), ()), ((r25.2.1.1, (), ()), r25.2.2.1, ())))) =
         some (.next (((), f.l, (f.l.length : Int), ((i + 1 : Nat) : Int), ()), ((true, (), ()), l ++ intsOf (40 :: wrL true (f.l.take (i + 1))), ()))) ∨
        (Option.bind (α := Unit × ((Bool × Unit × Unit) × (List Int) × Unit)) (G_write k (Fm.mk f.l[i].k f.l[i].n f.l[i].t f.l[i].l) (true, (), ()) l') fun r25 =>
         some (Step.next (R := (Unit × Unit) × ((Bool × Unit × Unit) × (List Int) × Unit)) (((), f.l, (f.l.length : Int), IntKind.wrap .i64 ((i : Int) + 1), ()), ((r25.2.1.1, (), ()), r25.2.2.1, ())))) = none ∧ k + 1 < f.big := by
       intro l' hl' he
       rw [show Fm.mk f.l[i].k f.l[i].n f.l[i].t f.l[i].l = f.l[i] from Fm.eta_eq _, wrapN (show i < 4611686018427387904 by omega)]
       rcases write_up k f.l[i] true l' hgf (by omega) hl' with h | ⟨h, hn⟩
       ·rw [h, he]; exact .inl rfl
       ·rw [h]; exact .inr ⟨rfl, by omega⟩
      have hcl : (l ++ intsOf (40 :: wrL true (f.l.take i))).length = l.length + 1 + (wrL true (f.l.take i)).length := by
       rw [List.length_append, ints_len, List.length_cons]; omega
      have htk := wrL_take f.l hi
      by_cases hi0 : i = 0
      ·subst hi0
       have e3 : decide (((0 : Nat) : Int) > 0) = false := rfl
       rw [e3, cond_false]
       simp only [Option.bind_some]
       rcases step (l ++ intsOf (40 :: wrL true (f.l.take 0))) (by rw [hcl]; omega) (by
        rw [List.append_assoc, ints_append]
        congr 2
        rw [htk]
        simp) with h | h
       ·rw [h]; exact .inl ⟨rfl, trivial⟩
       ·rw [h.1]; exact .inr (.inr ⟨rfl, h.2⟩)
      ·have e3 : decide ((i : Int) > 0) = true := decide_eq_true (by omega)
       rw [e3, cond_true, bldByte_val (by rw [hcl]; omega)]
       simp only [Option.bind_some]
       rcases step (l ++ intsOf (40 :: wrL true (f.l.take i)) ++ [32]) (by rw [List.length_append, hcl]; simp only [List.length_cons, List.length_nil]; omega) (by
        rw [htk, if_neg hi0]
        rw [show (40 :: (wrL true (f.l.take i) ++ ([32] ++ wr f.l[i])) : List UInt8) = (40 :: wrL true (f.l.take i)) ++ ([32] ++ wr f.l[i]) from rfl, ← ints_append, ← ints_append]
        simp only [List.append_assoc]
        rfl) with h | h
       ·rw [h]; exact .inl ⟨rfl, trivial⟩
       ·rw [h.1]; exact .inr (.inr ⟨rfl, h.2⟩)
     ·have e1 : decide ((f.l.length : Int) < (f.l.length : Int)) = false := by simp
      refine ⟨_, by simp only [e1, cond_false]; rfl, ?_⟩
      simp only [List.take_length]
      rw [bldByte_val (by rw [List.length_append, ints_len, List.length_cons]; omega)]
      refine .of ?_
      simp only [Option.bind_some]
      rw [show (40 :: (wrL true f.l ++ [41]) : List UInt8) = (40 :: wrL true f.l) ++ [41] from rfl, ← ints_append, ← List.append_assoc]
      rfl
theorem write_val {f : Fm} {b : Bool} {l : List Int} (hf : fieldsF f = true) (hb : f.big ≤ 4611686018427387000) (hl : l.length + 4101 * f.size ≤ 100000000000) : L_write f (b, (), ()) l = some ((), ((true, (), ()), l ++ intsOf (wr f), ())) := limF_up (b := f.big) fun k => write_up k f b l hf hb hl
end Go.Ab

set_option maxRecDepth 100000
namespace Go.Ab
open Go Go.RowKit Go.Proofs
end Go.Ab

set_option maxRecDepth 100000
namespace Go.Ab
open Go Go.RowKit Go.Proofs
def wrV (f : Fm) : List UInt8 := if validF f = true then wr f else []
theorem validF_iff (f : Fm) : validF f = (fieldsF f && (decide ((f.size : Int) ≤ 20000) && decide ((f.depth : Int) ≤ 100))) := (validS_iff f 20000 100 (by omega) (by omega)).1
theorem validF_of {f : Fm} (h : validF f = true) : fieldsF f = true ∧ f.size ≤ 20000 := by
 rw [validF_iff] at h
 simp only [Bool.and_eq_true, decide_eq_true_eq] at h
 exact ⟨h.1, by omega⟩
theorem rWrite_val {f : Fm} (hb : f.big ≤ 4611686018427387000) : G_rWrite f = some (wrV f) := by
 unfold G_rWrite wrV
 simp only [Fm.eta_eq, rvalid_val hb, Option.bind_some]
 by_cases hv : validF f = true
 ·obtain ⟨h1, h2⟩ := validF_of hv
  rw [hv, if_pos rfl]
  simp only [Bool.not_true, cond_false]
  rw [write_val h1 hb (by simp only [List.length_nil]; omega)]
  simp only [Option.bind_some, List.nil_append, bytes_ints, Option.map_some]
 ·rw [if_neg hv, eq_false_of_ne_true hv]
  rfl
def hdW (f : Fm) : List UInt8 := match (if f.k = 3 then f.l else []) with | [] => [] | g :: _ => if g.k = 1 then g.t else []
end Go.Ab

set_option maxRecDepth 100000
namespace Go.Ab
open Go Go.RowKit Go.Proofs
noncomputable def G_numberA (x0 : List UInt8) : Option (Int × Int × Unit) := (
 cond ((ixOK 0 (trimPrefixF (x0) ([45])).length) || !(decide (((trimPrefixF (x0) ([45])).length : Int) > 1))) (cond (cond (cond (decide (((trimPrefixF (x0) ([45])).length : Int) > 1)) (decide (byteAt (trimPrefixF (x0) ([45])) 0 = 48)) false) true (decide (x0 = [45, 48]))) (some (0, 4, ())) (Option.bind (α := Int × Bool × Unit) (atoiF (x0)) fun r1 => (
 cond (cond (cond (!r1.2.1) true (decide (r1.1 < (-1152921504606846976)))) true (decide (r1.1 > 1152921504606846976))) (some (0, 5, ())) (some (r1.1, 0, ()))))) none)
def A_numberA : An := .leaf
def H_numberA : Nat → RH := fun _ => {}
noncomputable def S_numberA : Sig := .n [(.d .str)] (.tup [(.d (.int .i64)), (.d (.int .i64))]) (fun x => G_numberA x.1)
theorem S_numberA_ok : SigOK CX 125 S_numberA := sigN_of (l := [(129, S_trimPrefix), (143, S_atoiAll)]) ⟨S_trimPrefix_ok, S_atoiAll_ok, trivial⟩ (hint := H_numberA) (an := A_numberA) (fun x => by kernel_rfl)
noncomputable def G_nextA (o0 : (List UInt8) × Int × Unit) : Option (((Int × Fm) × Bool × Int × Unit) × (((List UInt8) × Int × Unit) × Unit)) := (
 Option.bind (α := (Unit) × (((List UInt8) × Int × Unit) × Unit)) (G_skip (o0.1, o0.2.1, ())) fun r1 => (
 cond (decide (r1.2.1.2.1 = (r1.2.1.1.length : Int))) (some (((0, (Fm.mk 0 0 ([]) ([] : List Fm))), false, 0, ()), ((r1.2.1.1, r1.2.1.2.1, ()), ()))) (cond (ixOK r1.2.1.2.1 r1.2.1.1.length) (cond (cond (decide (byteAt r1.2.1.1 r1.2.1.2.1 = 40)) true (decide (byteAt r1.2.1.1 r1.2.1.2.1 = 41))) (some (((byteAt r1.2.1.1 r1.2.1.2.1, (Fm.mk 0 0 ([]) ([] : List Fm))), true, 0, ()), ((r1.2.1.1, IntKind.wrap .i64 (r1.2.1.2.1 + 1), ()), ()))) (cond (decide (byteAt r1.2.1.1 r1.2.1.2.1 = 34)) (Option.bind (α := ((List UInt8) × Int × Unit) × (((List UInt8) × Int × Unit) × Unit)) (G_text (r1.2.1.1, r1.2.1.2.1, ())) fun r2 => (
 some (((0, (Fm.mk 2 0 r2.1.1 ([] : List Fm))), true, r2.1.2.1, ()), ((r2.2.1.1, r2.2.1.2.1, ()), ())))) (Option.bind (α := Bool) (outsideF (byteAt r1.2.1.1 r1.2.1.2.1)) fun r3 => (
 cond r3 (some (((0, (Fm.mk 0 0 ([]) ([] : List Fm))), true, 4, ()), ((r1.2.1.1, r1.2.1.2.1, ()), ()))) (Option.bind (α := (Unit × Unit × Int × Unit) × (((List UInt8) × Int × Unit) × (Int × Int × Int × (List UInt8) × Unit × Unit) × Unit))
 (loopM (L := (Unit × Unit × Int × Unit) × (((List UInt8) × Int × Unit) × (Int × Int × Int × (List UInt8) × Unit × Unit) × Unit)) (R := (Unit × Unit × Int × Unit) × (((List UInt8) × Int × Unit) × (Int × Int × Int × (List UInt8) × Unit × Unit) × Unit)) (fun d4 => (
 let c5 := d4.2.1.1
 let c6 := d4.2.1.2.1
 let v8_7 := d4.1.2.2.1
 cond ((ixOK c6 c5.length) || !(decide (c6 < (c5.length : Int)))) (Option.bind (α := Bool) (cond (decide (c6 < (c5.length : Int))) (outsideF (byteAt c5 c6)) (some false)) fun r8 => (
 cond (cond (decide (c6 < (c5.length : Int))) (!r8) false) (some (Step.next (((), (), v8_7, ()), ((c5, IntKind.wrap .i64 (c6 + 1), ()), (d4.2.2.1.1, d4.2.2.1.2.1, d4.2.2.1.2.2.1, d4.2.2.1.2.2.2.1, (), ()), ())))) (some (Step.done (((), (), v8_7, ()), ((c5, c6, ()), (d4.2.2.1.1, d4.2.2.1.2.1, d4.2.2.1.2.2.1, d4.2.2.1.2.2.2.1, (), ()), ())))))) none)) (((), (), r1.2.1.2.1, ()), ((r1.2.1.1, r1.2.1.2.1, ()), (0, 0, 0, [], (), ()), ()))) fun d9 => (
 let c10 := d9.2.1.1
 let c11 := d9.2.1.2.1
 let v8_12 := d9.1.2.2.1
 cond (slOK v8_12 c11 c10.length) (Option.bind (α := Bool) (numericF ((c10.drop v8_12.toNat).take (c11.toNat - v8_12.toNat))) fun r13 => (
 cond r13 (Option.bind (α := Int × Int × Unit) (G_numberA ((c10.drop v8_12.toNat).take (c11.toNat - v8_12.toNat))) fun r14 => (
 some (((0, (Fm.mk 0 r14.1 ([]) ([] : List Fm))), true, r14.2.1, ()), ((c10, c11, ()), ())))) (cond (decide ((((c10.drop v8_12.toNat).take (c11.toNat - v8_12.toNat)).length : Int) > 30)) (some (((d9.2.2.1.1, (Fm.mk d9.2.2.1.2.1 d9.2.2.1.2.2.1 d9.2.2.1.2.2.2.1 ([] : List Fm))), true, 4, ()), ((c10, c11, ()), ()))) (some (((0, (Fm.mk 1 0 ((c10.drop v8_12.toNat).take (c11.toNat - v8_12.toNat)) ([] : List Fm))), true, 0, ()), ((c10, c11, ()), ())))))) none)))))) none)))
def A_nextA : An := .seq (.leaf) (.seq (.leaf) (.seq (.leaf) (.seq (.leaf) (.seq (.leaf) (.join false { env := [(0, (.ref 0 0)), (2, (.ref 1 0)), (8, (.d (.int .i64)))], objs := [(true, .cells 110 [(.d .str), (.d (.int .i64))]), (false, .cells 112 [(.d (.int .u8)), (.d (.int .i64)), (.d (.int .i64)), (.d .str), (.c (.base (.slice none 0 0)))])] } (.block (.loop { env := [(0, (.ref 0 0)), (2, (.ref 1 0)), (8, (.d (.int .i64)))], objs := [(true, .cells 110 [(.d .str), (.d (.int .i64))]), (false, .cells 112 [(.d (.int .u8)), (.d (.int .i64)), (.d (.int .i64)), (.d .str), (.c (.base (.slice none 0 0)))])] } (.leaf))) (.leaf))))))
def H_nextA : Nat → RH := fun r => match r with
 | 1 => { H := { ac := [13] } }
 | 9 => { H := { ac := [55] } }
 | _ => {}
noncomputable def S_nextA : Sig := .o { pre := [(false, .cells 110 [(.d .str), (.d (.int .i64))])], args := [(.ref 0 0)], post := [(true, .cells 110 [(.d .str), (.d (.int .i64))])], res := (.tup [(.d (.pr (.int .u8) .form)), (.d .bool), (.d (.int .i64))]), f := fun x => G_nextA x.2.1 }
theorem S_nextA_ok : SigOK CX 86 S_nextA := sigO_of (l := [(123, S_skip), (124, S_text), (95, S_outside), (94, S_numeric), (125, S_numberA)]) ⟨S_skip_ok, S_text_ok, S_outside_ok, S_numeric_ok, S_numberA_ok, trivial⟩ (hint := H_nextA) (an := A_nextA) (by kernel_rfl) (fun x => by kernel_rfl)
end Go.Ab

set_option maxRecDepth 100000
namespace Go.Ab
open Go Go.RowKit Go.Proofs
end Go.Ab

set_option maxRecDepth 100000
namespace Go.Ab
open Go Go.RowKit Go.Proofs
noncomputable def G_parse (x0 : List UInt8) : Option ((List Fm) × Int × Unit) := (
 loopM (L := (Unit × Unit × Unit) × (((List UInt8) × Int × Unit) × (List (List Fm)) × Unit)) (R := (List Fm) × Int × Unit) (fun d1 => (
 let c2 := d1.2.1.1
 let c3 := d1.2.1.2.1
 let l4 := d1.2.2.1
 Option.bind (α := ((Int × Fm) × Bool × Int × Unit) × (((List UInt8) × Int × Unit) × Unit)) (G_nextA (c2, c3, ())) fun r5 => (
 Option.bind (α := Step ((Unit × Unit × (Int × Int × Int × (List UInt8) × (List Fm) × Unit) × Unit) × (((List UInt8) × Int × Unit) × (List (List Fm)) × Unit)) (Step ((Unit × Unit × Unit) × (((List UInt8) × Int × Unit) × (List (List Fm)) × Unit)) ((List Fm) × Int × Unit)))
 (cond (!decide (r5.1.2.2.1 = 0)) (some (Step.done (Step.done (([] : List Fm), r5.1.2.2.1, ())))) (cond (cond (!r5.1.2.1) (decide (IntKind.wrap .i64 ((l4.length : Int) - 1) > 0)) false) (some (Step.done (Step.done (([] : List Fm), 12, ())))) (cond (!r5.1.2.1) (cond (ixOK 0 l4.length) (cond (decide ((0 : Int).toNat < l4.length)) (some (Step.done (Step.done ((l4.getD ((0 : Int).toNat) ([] : List Fm)), 0, ())))) none) none) (cond (decide (r5.1.1.1 = 40)) (cond (decide ((l4.length + 1) * 24 ≤ 140737488355328)) (some (Step.next (((), (), (r5.1.1.1, r5.1.1.2.k, r5.1.1.2.n, r5.1.1.2.t, r5.1.1.2.l, ()), ()), ((r5.2.1.1, r5.2.1.2.1, ()), l4 ++ [([] : List Fm)], ())))) none) (cond (cond (decide (r5.1.1.1 = 41)) (decide (IntKind.wrap .i64 ((l4.length : Int) - 1) = 0)) false) (some (Step.done (Step.done (([] : List Fm), 4, ())))) (cond (decide (r5.1.1.1 = 41)) (cond (ixOK (IntKind.wrap .i64 ((l4.length : Int) - 1)) l4.length) (cond (decide ((IntKind.wrap .i64 ((l4.length : Int) - 1)).toNat < l4.length)) (cond (hiOK (IntKind.wrap .i64 ((l4.length : Int) - 1)) l4.length) (mgC (cond (ixOK (IntKind.wrap .i64 (IntKind.wrap .i64 ((l4.length : Int) - 1) - 1)) ((IntKind.wrap .i64 ((l4.length : Int) - 1)).toNat)) (cond (decide ((IntKind.wrap .i64 (IntKind.wrap .i64 ((l4.length : Int) - 1) - 1)).toNat < (l4.take (IntKind.wrap .i64 ((l4.length : Int) - 1)).toNat).length)) (cond (decide ((IntKind.wrap .i64 (IntKind.wrap .i64 ((l4.length : Int) - 1) - 1)).toNat < (l4.take (IntKind.wrap .i64 ((l4.length : Int) - 1)).toNat).length) && decide ((((l4.take (IntKind.wrap .i64 ((l4.length : Int) - 1)).toNat).getD ((IntKind.wrap .i64 (IntKind.wrap .i64 ((l4.length : Int) - 1) - 1)).toNat) ([] : List Fm)).length + ([(Fm.mk 3 0 ([]) (l4.getD ((IntKind.wrap .i64 ((l4.length : Int) - 1)).toNat) ([] : List Fm)))]).length) * 56 ≤ 140737488355328)) (cond (ixOK (IntKind.wrap .i64 (IntKind.wrap .i64 ((l4.length : Int) - 1) - 1)) ((IntKind.wrap .i64 ((l4.length : Int) - 1)).toNat)) (cond (decide ((IntKind.wrap .i64 (IntKind.wrap .i64 ((l4.length : Int) - 1) - 1)).toNat = (IntKind.wrap .i64 (IntKind.wrap .i64 ((l4.length : Int) - 1) - 1)).toNat) && decide ((IntKind.wrap .i64 (IntKind.wrap .i64 ((l4.length : Int) - 1) - 1)).toNat < (l4.take (IntKind.wrap .i64 ((l4.length : Int) - 1)).toNat).length)) (some (Step.next (((), (), (r5.1.1.1, r5.1.1.2.k, r5.1.1.2.n, r5.1.1.2.t, r5.1.1.2.l, ()), ()), ((r5.2.1.1, r5.2.1.2.1, ()), (l4.take (IntKind.wrap .i64 ((l4.length : Int) - 1)).toNat).set ((IntKind.wrap .i64 (IntKind.wrap .i64 ((l4.length : Int) - 1) - 1)).toNat) (((l4.take (IntKind.wrap .i64 ((l4.length : Int) - 1)).toNat).getD ((IntKind.wrap .i64 (IntKind.wrap .i64 ((l4.length : Int) - 1) - 1)).toNat) ([] : List Fm)) ++ ([(Fm.mk 3 0 ([]) (l4.getD ((IntKind.wrap .i64 ((l4.length : Int) - 1)).toNat) ([] : List Fm)))])), ())))) none) none) none) none) none) (cond (ixOK (IntKind.wrap .i64 (IntKind.wrap .i64 ((l4.length : Int) - 1) - 1)) ((IntKind.wrap .i64 ((l4.length : Int) - 1)).toNat)) (cond (decide ((IntKind.wrap .i64 (IntKind.wrap .i64 ((l4.length : Int) - 1) - 1)).toNat < (l4.take (IntKind.wrap .i64 ((l4.length : Int) - 1)).toNat).length)) (cond (decide ((IntKind.wrap .i64 (IntKind.wrap .i64 ((l4.length : Int) - 1) - 1)).toNat < (l4.take (IntKind.wrap .i64 ((l4.length : Int) - 1)).toNat).length) && decide ((((l4.take (IntKind.wrap .i64 ((l4.length : Int) - 1)).toNat).getD ((IntKind.wrap .i64 (IntKind.wrap .i64 ((l4.length : Int) - 1) - 1)).toNat) ([] : List Fm)).length + ([(Fm.mk 0 0 ([]) ([] : List Fm))]).length) * 56 ≤ 140737488355328)) (cond (ixOK (IntKind.wrap .i64 (IntKind.wrap .i64 ((l4.length : Int) - 1) - 1)) ((IntKind.wrap .i64 ((l4.length : Int) - 1)).toNat)) (cond (decide ((IntKind.wrap .i64 (IntKind.wrap .i64 ((l4.length : Int) - 1) - 1)).toNat = (IntKind.wrap .i64 (IntKind.wrap .i64 ((l4.length : Int) - 1) - 1)).toNat) && decide ((IntKind.wrap .i64 (IntKind.wrap .i64 ((l4.length : Int) - 1) - 1)).toNat < (l4.take (IntKind.wrap .i64 ((l4.length : Int) - 1)).toNat).length)) (cond (ixOK (((l4.take (IntKind.wrap .i64 ((l4.length : Int) - 1)).toNat).getD ((IntKind.wrap .i64 (IntKind.wrap .i64 ((l4.length : Int) - 1) - 1)).toNat) ([] : List Fm)).length : Int) (((l4.take (IntKind.wrap .i64 ((l4.length : Int) - 1)).toNat).getD ((IntKind.wrap .i64 (IntKind.wrap .i64 ((l4.length : Int) - 1) - 1)).toNat) ([] : List Fm)).length + ([(Fm.mk 0 0 ([]) ([] : List Fm))]).length)) (cond ((decide (((l4.take (IntKind.wrap .i64 ((l4.length : Int) - 1)).toNat).getD ((IntKind.wrap .i64 (IntKind.wrap .i64 ((l4.length : Int) - 1) - 1)).toNat) ([] : List Fm)).length ≤ (((l4.take (IntKind.wrap .i64 ((l4.length : Int) - 1)).toNat).getD ((IntKind.wrap .i64 (IntKind.wrap .i64 ((l4.length : Int) - 1) - 1)).toNat) ([] : List Fm)).length : Int).toNat) && decide ((((l4.take (IntKind.wrap .i64 ((l4.length : Int) - 1)).toNat).getD ((IntKind.wrap .i64 (IntKind.wrap .i64 ((l4.length : Int) - 1) - 1)).toNat) ([] : List Fm)).length : Int).toNat < ((l4.take (IntKind.wrap .i64 ((l4.length : Int) - 1)).toNat).getD ((IntKind.wrap .i64 (IntKind.wrap .i64 ((l4.length : Int) - 1) - 1)).toNat) ([] : List Fm)).length + ([(Fm.mk 0 0 ([]) ([] : List Fm))]).length)) && decide ((IntKind.wrap .i64 (IntKind.wrap .i64 ((l4.length : Int) - 1) - 1)).toNat < (l4.take (IntKind.wrap .i64 ((l4.length : Int) - 1)).toNat).length)) (some (Step.next (((), (), (r5.1.1.1, r5.1.1.2.k, r5.1.1.2.n, r5.1.1.2.t, r5.1.1.2.l, ()), ()), ((r5.2.1.1, r5.2.1.2.1, ()), (l4.take (IntKind.wrap .i64 ((l4.length : Int) - 1)).toNat).set ((IntKind.wrap .i64 (IntKind.wrap .i64 ((l4.length : Int) - 1) - 1)).toNat) (((l4.take (IntKind.wrap .i64 ((l4.length : Int) - 1)).toNat).getD ((IntKind.wrap .i64 (IntKind.wrap .i64 ((l4.length : Int) - 1) - 1)).toNat) ([] : List Fm)) ++ (([(Fm.mk 0 0 ([]) ([] : List Fm))]).set ((((l4.take (IntKind.wrap .i64 ((l4.length : Int) - 1)).toNat).getD ((IntKind.wrap .i64 (IntKind.wrap .i64 ((l4.length : Int) - 1) - 1)).toNat) ([] : List Fm)).length : Int).toNat - ((l4.take (IntKind.wrap .i64 ((l4.length : Int) - 1)).toNat).getD ((IntKind.wrap .i64 (IntKind.wrap .i64 ((l4.length : Int) - 1) - 1)).toNat) ([] : List Fm)).length) (Fm.mk 3 0 ([]) (l4.getD ((IntKind.wrap .i64 ((l4.length : Int) - 1)).toNat) ([] : List Fm))))), ())))) none) none) none) none) none) none) none)) none) none) none) (cond (ixOK (IntKind.wrap .i64 ((l4.length : Int) - 1)) l4.length) (cond (decide ((IntKind.wrap .i64 ((l4.length : Int) - 1)).toNat < l4.length)) (cond (decide ((IntKind.wrap .i64 ((l4.length : Int) - 1)).toNat < l4.length) && decide (((l4.getD ((IntKind.wrap .i64 ((l4.length : Int) - 1)).toNat) ([] : List Fm)).length + ([(Fm.mk 0 0 ([]) ([] : List Fm))]).length) * 56 ≤ 140737488355328)) (cond (ixOK ((l4.getD ((IntKind.wrap .i64 ((l4.length : Int) - 1)).toNat) ([] : List Fm)).length : Int) ((l4.getD ((IntKind.wrap .i64 ((l4.length : Int) - 1)).toNat) ([] : List Fm)).length + ([(Fm.mk 0 0 ([]) ([] : List Fm))]).length)) (cond (ixOK (IntKind.wrap .i64 ((l4.length : Int) - 1)) l4.length) (mgC (cond ((decide ((l4.getD ((IntKind.wrap .i64 ((l4.length : Int) - 1)).toNat) ([] : List Fm)).length ≤ ((l4.getD ((IntKind.wrap .i64 ((l4.length : Int) - 1)).toNat) ([] : List Fm)).length : Int).toNat) && decide (((l4.getD ((IntKind.wrap .i64 ((l4.length : Int) - 1)).toNat) ([] : List Fm)).length : Int).toNat < (l4.getD ((IntKind.wrap .i64 ((l4.length : Int) - 1)).toNat) ([] : List Fm)).length + ([(Fm.mk 0 0 ([]) ([] : List Fm))]).length)) && decide ((IntKind.wrap .i64 ((l4.length : Int) - 1)).toNat < l4.length)) (cond (decide ((IntKind.wrap .i64 ((l4.length : Int) - 1)).toNat = (IntKind.wrap .i64 ((l4.length : Int) - 1)).toNat) && decide ((IntKind.wrap .i64 ((l4.length : Int) - 1)).toNat < l4.length)) (some (Step.next (((), (), (r5.1.1.1, r5.1.1.2.k, r5.1.1.2.n, r5.1.1.2.t, r5.1.1.2.l, ()), ()), ((r5.2.1.1, r5.2.1.2.1, ()), l4.set ((IntKind.wrap .i64 ((l4.length : Int) - 1)).toNat) ((l4.getD ((IntKind.wrap .i64 ((l4.length : Int) - 1)).toNat) ([] : List Fm)) ++ (([(Fm.mk 0 0 ([]) ([] : List Fm))]).set (((l4.getD ((IntKind.wrap .i64 ((l4.length : Int) - 1)).toNat) ([] : List Fm)).length : Int).toNat - (l4.getD ((IntKind.wrap .i64 ((l4.length : Int) - 1)).toNat) ([] : List Fm)).length) (Fm.eta r5.1.1.2))), ())))) none) none) (cond (decide ((IntKind.wrap .i64 ((l4.length : Int) - 1)).toNat = (IntKind.wrap .i64 ((l4.length : Int) - 1)).toNat) && decide ((IntKind.wrap .i64 ((l4.length : Int) - 1)).toNat < l4.length)) (cond ((decide ((l4.getD ((IntKind.wrap .i64 ((l4.length : Int) - 1)).toNat) ([] : List Fm)).length ≤ ((l4.getD ((IntKind.wrap .i64 ((l4.length : Int) - 1)).toNat) ([] : List Fm)).length : Int).toNat) && decide (((l4.getD ((IntKind.wrap .i64 ((l4.length : Int) - 1)).toNat) ([] : List Fm)).length : Int).toNat < (l4.getD ((IntKind.wrap .i64 ((l4.length : Int) - 1)).toNat) ([] : List Fm)).length + ([(Fm.mk 0 0 ([]) ([] : List Fm))]).length)) && decide ((IntKind.wrap .i64 ((l4.length : Int) - 1)).toNat < l4.length)) (some (Step.next (((), (), (r5.1.1.1, r5.1.1.2.k, r5.1.1.2.n, r5.1.1.2.t, r5.1.1.2.l, ()), ()), ((r5.2.1.1, r5.2.1.2.1, ()), l4.set ((IntKind.wrap .i64 ((l4.length : Int) - 1)).toNat) ((l4.getD ((IntKind.wrap .i64 ((l4.length : Int) - 1)).toNat) ([] : List Fm)) ++ (([(Fm.mk 0 0 ([]) ([] : List Fm))]).set (((l4.getD ((IntKind.wrap .i64 ((l4.length : Int) - 1)).toNat) ([] : List Fm)).length : Int).toNat - (l4.getD ((IntKind.wrap .i64 ((l4.length : Int) - 1)).toNat) ([] : List Fm)).length) (Fm.eta r5.1.1.2))), ())))) none) none)) none) none) none) none) none))))))) fun qd6 => match qd6 with
 | .next d6 => (
 let c7 := d6.2.1.1
 let c8 := d6.2.1.2.1
 let l9 := d6.2.2.1
 cond ((ixOK c8 c7.length) || !(cond (decide (d6.1.2.2.1.1 = 0)) (decide (c8 < (c7.length : Int))) false)) (Option.bind (α := Bool) (cond (cond (decide (d6.1.2.2.1.1 = 0)) (decide (c8 < (c7.length : Int))) false) (G_touches (byteAt c7 c8)) (some false)) fun r10 => (
 cond (cond (cond (decide (d6.1.2.2.1.1 = 0)) (decide (c8 < (c7.length : Int))) false) r10 false) (some (Step.done (([] : List Fm), 4, ()))) (some (Step.next (((), (), ()), ((c7, c8, ()), l9, ())))))) none)
 | .done r => some r))) (((), (), ()), ((x0, 0, ()), [([] : List Fm)], ())))
def A_parse : An := .seq (.leaf) (.seq (.leaf) (.seq (.leaf) (.block (.loop { env := [(4, (.ref 0 0)), (5, (.gs 1 (.slice .form)))], objs := [(false, .cells 110 [(.d .str), (.d (.int .i64))]), (false, .stk .form 22)] } (.block (.seq (.leaf) (.frz [2] (.join true { env := [(4, (.ref 0 0)), (5, (.gs 1 (.slice .form))), (6, (.rptr [(.d (.int .u8)), (.d (.int .i64)), (.d (.int .i64)), (.d .str), (.d (.slice .form))]))], objs := [(false, .cells 110 [(.d .str), (.d (.int .i64))]), (false, .stk .form 22)] } (.block (.seq (.leaf) (.cond (.leaf) (.seq (.leaf) (.cond (.leaf) (.seq (.leaf) (.cond (.leaf) (.seq (.leaf) (.cond (.leaf) (.seq (.leaf) (.cond (.leaf) (.seq (.leaf) (.cond (.seq (.leaf) (.frz [4] (.leaf))) (.leaf)))))))))))))) (.leaf)))))))))
def H_parse : Nat → RH := fun r => match r with
 | 1 => { H := { mb := [13] } }
 | 2 => { H := { mb := [14], ty := [(14, (.pr (.slice .form) .un))] } }
 | 3 => { H := { ac := [17] } }
 | 5 => { H := { mb := [27], pl := [29], ty := [(27, (.pr (.slice .form) .un)), (32, (.pr (.slice .form) (.pr .un .un)))] }, pair := some ([0, 1, 2, 3, 4, 5, 6, 7, 8, 9, 11], 10, 12, []) }
 | 13 => { H := { ty := [(58, (.pr (.slice .form) .un))] } }
 | 18 => { H := { mb := [78], ty := [(78, (.pr (.slice .form) .un))] } }
 | 19 => { pair := some ([0], 1, 2, [3]) }
 | 20 => { H := { mb := [88], pl := [89], ty := [(88, (.pr (.slice .form) .un)), (92, (.pr (.slice .form) (.pr .un .un)))] } }
 | 22 => { H := { mb := [102], pl := [103], ty := [(102, (.pr (.slice .form) .un)), (105, (.pr (.slice .form) .un))] } }
 | 23 => { H := { pl := [108] } }
 | _ => {}
noncomputable def S_parse : Sig := .n [(.d .str)] (.tup [(.d (.slice .form)), (.d (.int .i64))]) (fun x => G_parse x.1)
theorem S_parse_ok : SigOK CX 58 S_parse := sigN_of (l := [(86, S_nextA), (87, S_touches)]) ⟨S_nextA_ok, S_touches_ok, trivial⟩ (hint := H_parse) (an := A_parse) (fun x => by kernel_rfl)
end Go.Ab

set_option maxRecDepth 100000
namespace Go.Ab
open Go Go.RowKit Go.Proofs
noncomputable def G_readA (x0 : List UInt8) : Option ((List Fm) × Int × Unit) := (
 cond (decide ((x0.length : Int) > 60000)) (some (([] : List Fm), 2, ())) (Option.bind (α := (List Fm) × Int × Unit) (G_parse x0) fun r1 => (
 cond (!decide (r1.2.1 = 0)) (some (([] : List Fm), r1.2.1, ())) (Option.bind (α := Bool) (G_containsBad1 r1.1 ()) fun r2 => (
 cond r2 (some (([] : List Fm), 2, ())) (some (r1.1, 0, ())))))))
def A_readA : An := .leaf
def H_readA : Nat → RH := fun _ => {}
noncomputable def S_readA : Sig := .n [(.d .str)] (.tup [(.d (.slice .form)), (.d (.int .i64))]) (fun x => G_readA x.1)
theorem S_readA_ok : SigOK CX 36 S_readA := sigN_of (l := [(58, S_parse), (59, S_containsBad1)]) ⟨S_parse_ok, S_containsBad1_ok, trivial⟩ (hint := H_readA) (an := A_readA) (fun x => by kernel_rfl)
end Go.Ab
