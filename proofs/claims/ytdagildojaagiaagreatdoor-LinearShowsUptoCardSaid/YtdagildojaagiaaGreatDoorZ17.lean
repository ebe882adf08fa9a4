/-
  LOOPS that come to one value; copies of forms.
-/
import Derived.Test.YtdagildojaagiaaGreatDoorZ16
import Derived.Test.YtdagildojaagiaaGreatDoorZ15
set_option linter.unusedVariables false
set_option linter.unusedSimpArgs false
set_option maxRecDepth 100000
namespace Go.Ab
open Go Go.RowKit Go.Proofs
theorem u64_id {n : Int} (h1 : 0 ≤ n) (h2 : n < 18446744073709551616) : IntKind.wrap .u64 n = n := by
 simp only [IntKind.wrap_u64]; omega
theorem and_le {x y : Int} (h1 : 0 ≤ y) (h2 : y < 18446744073709551616) : 0 ≤ Go.bits .and .u64 x y ∧ Go.bits .and .u64 x y ≤ y := by
 have hb : (BitVec.ofInt 64 y).toNat = y.toNat := by
  rw [BitVec.toNat_ofInt]
  omega
 have hle : (BitVec.ofInt 64 x &&& BitVec.ofInt 64 y).toNat ≤ y.toNat := by
  rw [BitVec.toNat_and, hb]; exact Nat.and_le_right
 have e : Go.bits .and .u64 x y = IntKind.wrap .u64 ((BitVec.ofInt 64 x &&& BitVec.ofInt 64 y).toNat : Int) := rfl
 rw [e, u64_id (by omega) (by omega)]
 omega
theorem nextPow_val {n : Nat} (h1 : 0 < n) (h2 : n < 256) : ∃ M : Nat, G_nextPow (n : Int) = some (M : Int) ∧ 1 ≤ M ∧ M ≤ 2 * n := by
 have key : ∀ i : Fin 256, 0 < i.val → ∃ M : Nat, G_nextPow (i.val : Int) = some (M : Int) ∧ 1 ≤ M ∧ M ≤ 2 * i.val := by
  intro i hi
  have : ∀ i : Fin 256, 0 < i.val → (match G_nextPow (i.val : Int) with
   | some m => decide (1 ≤ m) && decide (m ≤ 2 * i.val)
   | none => false) = true := by decide +kernel
  have h := this i hi
  split at h
  ·rename_i m hm
   simp only [Bool.and_eq_true, decide_eq_true_eq] at h
   exact ⟨m.toNat, by rw [hm]; congr 1; omega, by omega, by omega⟩
  ·cases h
 exact key ⟨n, h2⟩ h1
theorem breakPat_val {a b : Nat} {l : List Fm} (hab : a + 8 ≤ b) (hb : b ≤ l.length) (hln : l.length < 256) : ∃ m, G_breakPat (a : Int) (b : Int) l = some ((), (m, ())) ∧ SW a b l m := by
 obtain ⟨n, rfl⟩ : ∃ n, b = a + n := ⟨b - a, by omega⟩
 have w1 : IntKind.wrap .i64 (((a + n : Nat) : Int) - (a : Int)) = (n : Int) := by rw [w64 (by omega) (by omega)]; omega
 have w2 : IntKind.wrap .i64 (Int.tdiv (n : Int) 4) = ((n / 4 : Nat) : Int) := by
  have : Int.tdiv (n : Int) 4 = ((n / 4 : Nat) : Int) := by rw [Int.tdiv_eq_ediv_of_nonneg (by omega)]; omega
  rw [this, w64 (by omega) (by omega)]
 have w3 : IntKind.wrap .i64 ((a : Int) + IntKind.wrap .i64 (((n / 4 : Nat) : Int) * 2)) = ((a + n / 4 * 2 : Nat) : Int) := by
  have e : ((n / 4 : Nat) : Int) * 2 = ((n / 4 * 2 : Nat) : Int) := by omega
  rw [e, w64 (n := ((n / 4 * 2 : Nat) : Int)) (by omega) (by omega), wA (by omega)]
 have w4 : IntKind.wrap .i64 (((a + n / 4 * 2 : Nat) : Int) + 1) = ((a + n / 4 * 2 + 1 : Nat) : Int) := wrapN (by omega)
 have w5 : IntKind.wrap .i64 (((a + n / 4 * 2 : Nat) : Int) - 1) = ((a + n / 4 * 2 - 1 : Nat) : Int) := wrapS (by omega) (by omega)
 obtain ⟨M, hM, hM1, hM2⟩ := nextPow_val (n := n) (by omega) (by omega)
 have e1 : decide ((n : Int) ≥ 8) = true := by apply decide_eq_true; omega
 have wM1 : IntKind.wrap .u64 ((M : Int) - 1) = (M : Int) - 1 := u64_id (by omega) (by omega)
 unfold G_breakPat
 simp only [w1, w2, w3, w4, w5, hM, e1, cond_true, Option.bind_some]
 refine ret_of ?_
 refine loop_wp (fun d => ∃ (i : Nat) (c : Int) (m : List Fm), d = (((), (a : Int), (n : Int), (), (M : Int), (i : Int), ()), (m, (c, ()), ())) ∧ a + n / 4 * 2 ≤ i + 1 ∧ SW a (a + n) l m) (fun d => (a + n / 4 * 2 + 2) - d.1.2.2.2.2.2.1.toNat) _ ?_ _
  ⟨a + n / 4 * 2 - 1, _, l, rfl, by omega, .refl _⟩
 rintro d ⟨i, c, m, rfl, h1, hsw⟩
 have hlen := hsw.length
 simp only [w2, w3, w4]
 by_cases hi : i ≤ a + n / 4 * 2 + 1
 ·have e2 : decide ((i : Int) ≤ ((a + n / 4 * 2 + 1 : Nat) : Int)) = true := by apply decide_eq_true; omega
  obtain ⟨v, w, hx⟩ : ∃ v w, G_xorNext (c, ()) = some (v, ((w, ()), ())) := ⟨_, _, rfl⟩
  obtain ⟨z1, z2⟩ := and_le (x := v) (y := (M : Int) - 1) (by omega) (by omega)
  have main : ∀ o : Nat, o < n → ∃ l', (cond (ixOK (IntKind.wrap .i64 ((a : Int) + (o : Int))) m.length) (cond (decide ((IntKind.wrap .i64 ((a : Int) + (o : Int))).toNat < m.length)) (cond (ixOK (i : Int) m.length) (cond (decide (i < m.length)) (cond (ixOK (i : Int) m.length) (cond (decide (i < m.length)) (cond (ixOK (IntKind.wrap .i64 ((a : Int) + (o : Int))) m.length) (cond (decide ((IntKind.wrap .i64 ((a : Int) + (o : Int))).toNat < m.length)) (some (Step.next (((), (a : Int), (n : Int), (), (M : Int), IntKind.wrap .i64 ((i : Int) + 1), ()), ((m.set i (m.getD ((IntKind.wrap .i64 ((a : Int) + (o : Int))).toNat) (Fm.mk 0 0 [] []))).set ((IntKind.wrap .i64 ((a : Int) + (o : Int))).toNat) (m.getD i (Fm.mk 0 0 [] [])), (w, ()), ())) : Step ((Unit × Int × Int × Unit × Int × Int × Unit) × ((List Fm) × (Int × Unit) × Unit)) ((Unit) × ((List Fm) × Unit)))) none) none) none) none) none) none) none) none) = some (Step.next l') ∧ (∃ (i : Nat) (c : Int) (m : List Fm), l' = (((), (a : Int), (n : Int), (), (M : Int), (i : Int), ()), (m, (c, ()), ())) ∧ a + n / 4 * 2 ≤ i + 1 ∧ SW a (a + n) l m) ∧ (a + n / 4 * 2 + 2) - l'.1.2.2.2.2.2.1.toNat < (a + n / 4 * 2 + 2) - i := by
   intro o ho
   have i1 : ixOK ((a + o : Nat) : Int) m.length = true := ixOK_iff.2 (by omega)
   have i2 : decide (a + o < m.length) = true := by apply decide_eq_true; omega
   have i3 : ixOK (i : Int) m.length = true := ixOK_iff.2 (by omega)
   have i4 : decide (i < m.length) = true := by apply decide_eq_true; omega
   simp only [wA (show a + o < 4611686018427387904 by omega), i1, i2, i3, i4, cond_true, Int.toNat_natCast, wrapN (show i < 4611686018427387904 by omega)]
   exact ⟨_, rfl, ⟨i + 1, w, swapL m i (a + o), rfl, by omega, .swap _ _ _ _ hsw (by omega) (by omega) (by omega) (by omega)⟩, by simp only [Int.toNat_natCast]; omega⟩
  refine .inl ?_
  simp only [e2, hx, wM1, cond_true, Option.bind_some, Int.toNat_natCast, List.length_set, Fm.eta_eq]
  generalize hz : Go.bits .and .u64 v ((M : Int) - 1) = z at z1 z2
  have wz : IntKind.wrap .i64 z = z := w64 (by omega) (by omega)
  by_cases hzn : z ≥ (n : Int)
  ·have wz2 : IntKind.wrap .i64 (z - (n : Int)) = (((z - n).toNat : Nat) : Int) := by rw [w64 (by omega) (by omega)]; omega
   have e3 : decide (z ≥ (n : Int)) = true := decide_eq_true hzn
   simp only [wz, e3, wz2, cond_true, Option.bind_some]
   exact main (z - n).toNat (by omega)
  ·have e3 : decide (z ≥ (n : Int)) = false := decide_eq_false hzn
   have wz2 : z = ((z.toNat : Nat) : Int) := by omega
   simp only [wz, e3, cond_false, Option.bind_some]
   rw [wz2]
   exact main z.toNat (by omega)
 ·have e2 : decide ((i : Int) ≤ ((a + n / 4 * 2 + 1 : Nat) : Int)) = false := by apply decide_eq_false; omega
  exact .inr ⟨_, by simp only [e2, cond_false], m, rfl, hsw⟩
end Go.Ab

set_option maxRecDepth 100000
namespace Go.Ab
open Go Go.RowKit Go.Proofs
def Wp {R : Type} (o : Option R) (Q : R → Prop) : Prop := ∃ r, o = some r ∧ Q r
theorem Wp.ret {R : Type} {r : R} {Q : R → Prop} (h : Q r) : Wp (some r) Q := ⟨r, rfl, h⟩
theorem Wp.bind {R S : Type} {o : Option R} {F : R → Option S} {P : R → Prop} {Q : S → Prop} (h : Wp o P) (k : ∀ r, P r → Wp (F r) Q) : Wp (Option.bind o F) Q := by
 obtain ⟨r, rfl, hr⟩ := h
 exact k r hr
def StepQ {L R : Type} (I : L → Prop) (μ : L → Nat) (Q : R → Prop) (l : L) : Step L R → Prop
 | .next l' => I l' ∧ μ l' < μ l
 | .done r => Q r
theorem Wp.loop {L R : Type} {b : L → Option (Step L R)} {l0 : L} {Q : R → Prop} (I : L → Prop) (μ : L → Nat) (h : ∀ l, I l → Wp (b l) (StepQ I μ Q l)) (h0 : I l0) : Wp (loopM b l0) Q := by
 refine loop_wp I μ Q (fun l hl => ?_) l0 h0
 obtain ⟨s, hs, hq⟩ := h l hl
 cases s with
 | next l' => exact .inl ⟨l', hs, hq.1, hq.2⟩
 | done r => exact .inr ⟨r, hs, hq⟩
abbrev PSt := (Unit × Int × Unit × Int × Int × Unit) × ((List Fm) × Unit)
def pst (a i j : Nat) (m : List Fm) : PSt := (((), (a : Int), (), (i : Int), (j : Int), ()), (m, ()))
theorem part1 {a b i j : Nat} {m : List Fm} (hi : a + 1 ≤ i) (hij : i ≤ j + 1) (hj : j < b) (hb : b ≤ m.length) (hln : m.length < 1000000000000) (hbig : bigAll m) :
  Wp (loopM (L := (Unit × Int × Unit × Int × Int × Unit) × ((List Fm) × Unit)) (R := (Unit × Int × Unit × Int × Int × Unit) × ((List Fm) × Unit)) (fun d1 => (
 let l2 := d1.2.1
 let v1_3 := d1.1.2.1
 let v12_4 := d1.1.2.2.2.1
 let v13_5 := d1.1.2.2.2.2.1
 cond ((ixOK v12_4 l2.length) || !(decide (v12_4 ≤ v13_5))) (cond ((decide (v12_4.toNat < l2.length)) || !(decide (v12_4 ≤ v13_5))) (cond ((ixOK v1_3 l2.length) || !(decide (v12_4 ≤ v13_5))) (cond ((decide (v1_3.toNat < l2.length)) || !(decide (v12_4 ≤ v13_5))) (Option.bind (α := Int) (cond (decide (v12_4 ≤ v13_5)) (L_compare (Fm.eta (l2.getD v12_4.toNat (Fm.mk 0 0 [] []))) (Fm.eta (l2.getD v1_3.toNat (Fm.mk 0 0 [] [])))) (some (0 : Int))) fun r6 => (
 cond (cond (decide (v12_4 ≤ v13_5)) (decide (r6 < 0)) false) (some (Step.next (((), v1_3, (), IntKind.wrap .i64 (v12_4 + 1), v13_5, ()), (l2, ())))) (some (Step.done (((), v1_3, (), v12_4, v13_5, ()), (l2, ())))))) none) none) none) none)) (pst a i j m))
  (fun r => ∃ i' : Nat, r = pst a i' j m ∧ i ≤ i' ∧ i' ≤ j + 1 ∧ (∀ p, i ≤ p → p < i' → cmpF (atF' m p) (atF' m a) < 0) ∧ (j < i' ∨ ¬ cmpF (atF' m i') (atF' m a) < 0)) := by
 refine Wp.loop (fun d => ∃ i' : Nat, d = pst a i' j m ∧ i ≤ i' ∧ i' ≤ j + 1 ∧ (∀ p, i ≤ p → p < i' → cmpF (atF' m p) (atF' m a) < 0)) (fun d => j + 1 - d.1.2.2.2.1.toNat) ?_ ⟨i, rfl, Nat.le_refl _, hij, fun p h1 h2 => by omega⟩
 rintro d ⟨x, rfl, h1, h2, h3⟩
 unfold pst
 have i3 : ixOK (a : Int) m.length = true := ixOK_iff.2 (by omega)
 have i4 : decide (a < m.length) = true := by apply decide_eq_true; omega
 by_cases hx : x ≤ j
 ·have e1 : decide ((x : Int) ≤ (j : Int)) = true := by apply decide_eq_true; omega
  have i1 : ixOK (x : Int) m.length = true := ixOK_iff.2 (by omega)
  have i2 : decide (x < m.length) = true := by apply decide_eq_true; omega
  have hcmp : L_compare (m.getD x (Fm.mk 0 0 [] [])) (m.getD a (Fm.mk 0 0 [] [])) = some (cmpF (atF' m x) (atF' m a)) := compare_val (bigAll_at hbig (by omega))
  simp only [e1, i1, i2, i3, i4, hcmp, cond_true, Bool.true_or, Int.toNat_natCast, Fm.eta_eq, Option.bind_some, wrapN (show x < 4611686018427387904 by omega)]
  by_cases hc : cmpF (atF' m x) (atF' m a) < 0
  ·simp only [hc, decide_true, cond_true]
   refine .ret ⟨⟨x + 1, rfl, by omega, by omega, fun p q1 q2 => ?_⟩, by simp only [Int.toNat_natCast]; omega⟩
   by_cases hp : p = x
   ·subst hp; exact hc
   ·exact h3 p q1 (by omega)
  ·simp only [hc, decide_false, cond_false]
   exact .ret ⟨x, rfl, h1, h2, h3, .inr hc⟩
 ·have e1 : decide ((x : Int) ≤ (j : Int)) = false := by apply decide_eq_false; omega
  simp only [e1, Bool.not_false, Bool.or_true, cond_true, cond_false, Option.bind_some]
  exact .ret ⟨x, rfl, h1, h2, h3, .inl (by omega)⟩
theorem part2 {a b i j : Nat} {m : List Fm} (hi : a + 1 ≤ i) (hij : i ≤ j + 1) (hj : j < b) (hb : b ≤ m.length) (hln : m.length < 1000000000000) (hbig : bigAll m) :
  Wp (loopM (L := (Unit × Int × Unit × Int × Int × Unit) × ((List Fm) × Unit)) (R := (Unit × Int × Unit × Int × Int × Unit) × ((List Fm) × Unit)) (fun d12 => (
 let l13 := d12.2.1
 let v1_14 := d12.1.2.1
 let v12_15 := d12.1.2.2.2.1
 let v13_16 := d12.1.2.2.2.2.1
 cond ((ixOK v13_16 l13.length) || !(decide (v12_15 ≤ v13_16))) (cond ((decide (v13_16.toNat < l13.length)) || !(decide (v12_15 ≤ v13_16))) (cond ((ixOK v1_14 l13.length) || !(decide (v12_15 ≤ v13_16))) (cond ((decide (v1_14.toNat < l13.length)) || !(decide (v12_15 ≤ v13_16))) (Option.bind (α := Int) (cond (decide (v12_15 ≤ v13_16)) (L_compare (Fm.eta (l13.getD v13_16.toNat (Fm.mk 0 0 [] []))) (Fm.eta (l13.getD v1_14.toNat (Fm.mk 0 0 [] [])))) (some (0 : Int))) fun r17 => (
 cond (cond (decide (v12_15 ≤ v13_16)) (!(decide (r17 < 0))) false) (some (Step.next (((), v1_14, (), v12_15, IntKind.wrap .i64 (v13_16 - 1), ()), (l13, ())))) (some (Step.done (((), v1_14, (), v12_15, v13_16, ()), (l13, ())))))) none) none) none) none)) (pst a i j m))
  (fun r => ∃ j' : Nat, r = pst a i j' m ∧ i ≤ j' + 1 ∧ j' ≤ j ∧ (∀ p, j' < p → p ≤ j → ¬ cmpF (atF' m p) (atF' m a) < 0) ∧ (j' < i ∨ cmpF (atF' m j') (atF' m a) < 0)) := by
 refine Wp.loop (fun d => ∃ j' : Nat, d = pst a i j' m ∧ i ≤ j' + 1 ∧ j' ≤ j ∧ (∀ p, j' < p → p ≤ j → ¬ cmpF (atF' m p) (atF' m a) < 0)) (fun d => d.1.2.2.2.2.1.toNat) ?_ ⟨j, rfl, hij, Nat.le_refl _, fun p h1 h2 => by omega⟩
 rintro d ⟨x, rfl, h1, h2, h3⟩
 unfold pst
 have i3 : ixOK (a : Int) m.length = true := ixOK_iff.2 (by omega)
 have i4 : decide (a < m.length) = true := by apply decide_eq_true; omega
 by_cases hx : i ≤ x
 ·have e1 : decide ((i : Int) ≤ (x : Int)) = true := by apply decide_eq_true; omega
  have i1 : ixOK (x : Int) m.length = true := ixOK_iff.2 (by omega)
  have i2 : decide (x < m.length) = true := by apply decide_eq_true; omega
  have hcmp : L_compare (m.getD x (Fm.mk 0 0 [] [])) (m.getD a (Fm.mk 0 0 [] [])) = some (cmpF (atF' m x) (atF' m a)) := compare_val (bigAll_at hbig (by omega))
  simp only [e1, i1, i2, i3, i4, hcmp, cond_true, Bool.true_or, Int.toNat_natCast, Fm.eta_eq, Option.bind_some, wrapS (show x < 4611686018427387904 by omega) (show 0 < x by omega)]
  by_cases hc : cmpF (atF' m x) (atF' m a) < 0
  ·simp only [hc, decide_true, Bool.not_true, cond_false]
   exact .ret ⟨x, rfl, h1, h2, h3, .inr hc⟩
  ·simp only [hc, decide_false, Bool.not_false, cond_true]
   refine .ret ⟨⟨x - 1, rfl, by omega, by omega, fun p q1 q2 => ?_⟩, by simp only [Int.toNat_natCast]; omega⟩
   by_cases hp : p = x
   ·subst hp; exact hc
   ·exact h3 p (by omega) q2
 ·have e1 : decide ((i : Int) ≤ (x : Int)) = false := by apply decide_eq_false; omega
  simp only [e1, Bool.not_false, Bool.or_true, cond_true, cond_false, Option.bind_some]
  exact .ret ⟨x, rfl, h1, h2, h3, .inl (by omega)⟩
def PI (a b : Nat) (l : List Fm) (i j : Nat) (m : List Fm) : Prop := a + 1 ≤ i ∧ i ≤ j + 1 ∧ j < b ∧ SW a b l m ∧ (∀ p, a + 1 ≤ p → p < i → cmpF (atF' m p) (atF' m a) < 0) ∧ (∀ p, j < p → p < b → ¬ cmpF (atF' m p) (atF' m a) < 0)
def Parted (a b : Nat) (l : List Fm) (mid : Nat) (m : List Fm) : Prop := a ≤ mid ∧ mid < b ∧ SW a b l m ∧ (∀ p, a ≤ p → p < mid → le (atF' m p) (atF' m mid)) ∧ (∀ p, mid < p → p < b → le (atF' m mid) (atF' m p))
theorem PI.fin {a b i j : Nat} {l m : List Fm} (hb : b ≤ l.length) (h : PI a b l i j m) (hij : j < i) : Parted a b l j (swapL m j a) := by
 obtain ⟨h1, h2, h3, h4, h5, h6⟩ := h
 have hlen := h4.length
 have at1 : ∀ p, atF' (swapL m j a) p = if p = a then atF' m j else if p = j then atF' m a else atF' m p := swapL_at m (by omega) (by omega)
 refine ⟨by omega, h3, .swap _ _ _ _ h4 (by omega) h3 (Nat.le_refl _) (by omega), fun p q1 q2 => ?_, fun p q1 q2 => ?_⟩
 ·rw [at1, at1]
  have hja : ¬ j = a := by omega
  rw [if_neg hja, if_pos rfl]
  by_cases hp : p = a
  ·rw [if_pos hp]; exact le_of_lt' (h5 j (by omega) (by omega))
  ·rw [if_neg hp, if_neg (by omega)]; exact le_of_lt' (h5 p (by omega) (by omega))
 ·rw [at1, at1, if_neg (show ¬ p = a by omega), if_neg (show ¬ p = j by omega)]
  by_cases hja : j = a
  ·rw [if_pos hja, hja]; exact le_of_not_lt (h6 p q1 q2)
  ·rw [if_neg hja, if_pos rfl]; exact le_of_not_lt (h6 p q1 q2)
theorem PI.sides {a b i j i' j' : Nat} {l m : List Fm} (h : PI a b l i j m) (h1 : i ≤ i') (h2 : i' ≤ j + 1) (h3 : ∀ p, i ≤ p → p < i' → cmpF (atF' m p) (atF' m a) < 0) (q1 : i' ≤ j' + 1) (q2 : j' ≤ j) (q3 : ∀ p, j' < p → p ≤ j → ¬ cmpF (atF' m p) (atF' m a) < 0) : PI a b l i' j' m := by
 obtain ⟨k1, k2, k3, k4, k5, k6⟩ := h
 refine ⟨by omega, q1, by omega, k4, fun p r1 r2 => ?_, fun p r1 r2 => ?_⟩
 ·by_cases hp : p < i
  ·exact k5 p r1 hp
  ·exact h3 p (by omega) r2
 ·by_cases hp : j < p
  ·exact k6 p hp r2
  ·exact q3 p r1 (by omega)
theorem PI.swap {a b i j : Nat} {l m : List Fm} (hb : b ≤ l.length) (h : PI a b l i j m) (hij : i ≤ j) (hi : ¬ cmpF (atF' m i) (atF' m a) < 0) (hj : cmpF (atF' m j) (atF' m a) < 0) : PI a b l (i + 1) (j - 1) (swapL m i j) := by
 obtain ⟨k1, k2, k3, k4, k5, k6⟩ := h
 have hlen := k4.length
 have hne : ¬ i = j := fun e => by subst e; exact hi hj
 have at1 : ∀ p, atF' (swapL m i j) p = if p = j then atF' m i else if p = i then atF' m j else atF' m p := swapL_at m (by omega) (by omega)
 have ha : atF' (swapL m i j) a = atF' m a := by rw [at1, if_neg (by omega), if_neg (by omega)]
 refine ⟨by omega, by omega, by omega, .swap _ _ _ _ k4 (by omega) (by omega) (by omega) (by omega), fun p r1 r2 => ?_, fun p r1 r2 => ?_⟩
 ·rw [ha, at1, if_neg (by omega)]
  by_cases hp : p = i
  ·rw [if_pos hp]; exact hj
  ·rw [if_neg hp]; exact k5 p r1 (by omega)
 ·rw [ha, at1]
  by_cases hp : p = j
  ·rw [if_pos hp]; exact hi
  ·rw [if_neg hp, if_neg (by omega)]; exact k6 p (by omega) r2
theorem partition_val {a b pv : Nat} {l : List Fm} (hp1 : a ≤ pv) (hp2 : pv < b) (hab : a + 2 ≤ b) (hb : b ≤ l.length) (hln : l.length < 1000000000000) (hbig : bigAll l) :
  Wp (G_partition (a : Int) (b : Int) (pv : Int) l) (fun r => ∃ (mid : Nat) (t : Bool) (m : List Fm), r = (((mid : Int), t, ()), (m, ())) ∧ Parted a b l mid m) := by
 have i1 : ixOK (a : Int) l.length = true := ixOK_iff.2 (by omega)
 have i2 : decide (a < l.length) = true := by apply decide_eq_true; omega
 have i3 : ixOK (pv : Int) l.length = true := ixOK_iff.2 (by omega)
 have i4 : decide (pv < l.length) = true := by apply decide_eq_true; omega
 have hsw0 : SW a b l (swapL l a pv) := .swap _ _ _ _ (.refl _) (Nat.le_refl _) (by omega) hp1 hp2
 have inner : ∀ {i j : Nat} {m : List Fm} {S : Type} {F : PSt → Option S} {Q : S → Prop}, PI a b l i j m →
   (∀ i' j', PI a b l i' j' m → (j' < i' ∨ (i' ≤ j' ∧ ¬ cmpF (atF' m i') (atF' m a) < 0 ∧ cmpF (atF' m j') (atF' m a) < 0)) → Wp (F (pst a i' j' m)) Q) → True := fun _ _ => trivial
 unfold G_partition
 simp only [i1, i2, i3, i4, cond_true, Int.toNat_natCast, Fm.eta_eq, List.length_set, wrapN (show a < 4611686018427387904 by omega), wrapS (show b < 4611686018427387904 by omega) (show 0 < b by omega)]
 have hPI0 : PI a b l (a + 1) (b - 1) (swapL l a pv) := ⟨Nat.le_refl _, by omega, by omega, hsw0, fun p h1 h2 => by omega, fun p h1 h2 => by omega⟩
 have hl0 := hsw0.length
 refine Wp.bind (P := fun r => ∃ i', r = pst a i' (b - 1) (swapL l a pv) ∧ _) (by
  have := part1 (a := a) (b := b) (i := a + 1) (j := b - 1) (m := swapL l a pv) (Nat.le_refl _) (by omega) (by omega) (by omega) (by omega) (hsw0.big hb hbig)
  simp only [Fm.eta_eq] at this
  exact this) ?_
 rintro _ ⟨i, rfl, a1, a2, a3, a4⟩
 refine Wp.bind (P := fun r => ∃ j', r = pst a i j' (swapL l a pv) ∧ _) (by
  have := part2 (a := a) (b := b) (i := i) (j := b - 1) (m := swapL l a pv) (by omega) (by omega) (by omega) (by omega) (by omega) (hsw0.big hb hbig)
  simp only [Fm.eta_eq] at this
  exact this) ?_
 rintro _ ⟨j, rfl, b1, b2, b3, b4⟩
 have hPI1 := hPI0.sides a1 a2 a3 b1 b2 b3
 generalize swapL l a pv = m at *
 have finish : ∀ {i j : Nat} {m : List Fm} (t : Bool), PI a b l i j m → j < i → Wp (cond (ixOK (a : Int) m.length) (cond (decide (a < m.length)) (cond (ixOK (j : Int) m.length) (cond (decide (j < m.length)) (cond (ixOK (j : Int) m.length) (cond (decide (j < m.length)) (cond (ixOK (a : Int) m.length) (cond (decide (a < m.length)) (some (((j : Int), t, ()), ((m.set j (m.getD a (Fm.mk 0 0 [] []))).set a (m.getD j (Fm.mk 0 0 [] [])), ()))) none) none) none) none) none) none) none) none) (fun r => ∃ (mid : Nat) (t : Bool) (m : List Fm), r = (((mid : Int), t, ()), (m, ())) ∧ Parted a b l mid m) := by
  intro i j m t hPI hij
  have hlen := hPI.2.2.2.1.length
  have hjb := hPI.2.2.1
  have k1 : ixOK (a : Int) m.length = true := ixOK_iff.2 (by omega)
  have k2 : decide (a < m.length) = true := by apply decide_eq_true; omega
  have k3 : ixOK (j : Int) m.length = true := ixOK_iff.2 (by omega)
  have k4 : decide (j < m.length) = true := by apply decide_eq_true; omega
  simp only [k1, k2, k3, k4, cond_true]
  exact .ret ⟨j, t, swapL m j a, rfl, hPI.fin hb hij⟩
 unfold pst
 by_cases hij : j < i
 ·have e1 : decide ((i : Int) > (j : Int)) = true := by apply decide_eq_true; omega
  simp only [e1, cond_true, Int.toNat_natCast, Fm.eta_eq, List.length_set]
  exact finish true hPI1 hij
 ·have e1 : decide ((i : Int) > (j : Int)) = false := by apply decide_eq_false; omega
  have hjb := hPI1.2.2.1
  have hai := hPI1.1
  have k1 : ixOK (i : Int) m.length = true := ixOK_iff.2 (by omega)
  have k2 : decide (i < m.length) = true := by apply decide_eq_true; omega
  have k3 : ixOK (j : Int) m.length = true := ixOK_iff.2 (by omega)
  have k4 : decide (j < m.length) = true := by apply decide_eq_true; omega
  have hPI2 := hPI1.swap hb (by omega) (a4.resolve_left (by omega)) (b4.resolve_left (by omega))
  simp only [e1, k1, k2, k3, k4, cond_true, cond_false, Int.toNat_natCast, Fm.eta_eq, List.length_set, wrapN (show i < 4611686018427387904 by omega), wrapS (show j < 4611686018427387904 by omega) (show 0 < j by omega)]
  refine Wp.bind (P := fun r => ∃ (i j : Nat) (m : List Fm), r = (((), (a : Int), (j : Int), ()), (m, ())) ∧ PI a b l i j m ∧ j < i) ?_ ?_
  ·refine Wp.loop (fun d => ∃ (i j : Nat) (m : List Fm), d = pst a i j m ∧ PI a b l i j m) (fun d => d.1.2.2.2.2.1.toNat + 1 - d.1.2.2.2.1.toNat) ?_ ⟨i + 1, j - 1, swapL m i j, rfl, hPI2⟩
   rintro d ⟨x, y, n, rfl, hPI⟩
   obtain ⟨c1, c2, c3, c4, -, -⟩ := id hPI
   have hln' := c4.length
   have hbn := c4.big hb hbig
   refine Wp.bind (P := fun r => ∃ i', r = pst a i' y n ∧ _) (by
    have := part1 (a := a) (b := b) (i := x) (j := y) (m := n) c1 c2 c3 (by omega) (by omega) hbn
    simp only [Fm.eta_eq] at this
    exact this) ?_
   rintro _ ⟨x', rfl, a1, a2, a3, a4⟩
   refine Wp.bind (P := fun r => ∃ j', r = pst a x' j' n ∧ _) (by
    have := part2 (a := a) (b := b) (i := x') (j := y) (m := n) (by omega) (by omega) (by omega) (by omega) (by omega) hbn
    simp only [Fm.eta_eq] at this
    exact this) ?_
   rintro _ ⟨y', rfl, b1, b2, b3, b4⟩
   have hPI3 := hPI.sides a1 a2 a3 b1 b2 b3
   unfold pst
   by_cases hxy : y' < x'
   ·have e1 : decide ((x' : Int) > (y' : Int)) = true := by apply decide_eq_true; omega
    simp only [e1, cond_true]
    exact .ret ⟨x', y', n, rfl, hPI3, hxy⟩
   ·have e1 : decide ((x' : Int) > (y' : Int)) = false := by apply decide_eq_false; omega
    have k1 : ixOK (x' : Int) n.length = true := ixOK_iff.2 (by omega)
    have k2 : decide (x' < n.length) = true := by apply decide_eq_true; omega
    have k3 : ixOK (y' : Int) n.length = true := ixOK_iff.2 (by omega)
    have k4 : decide (y' < n.length) = true := by apply decide_eq_true; omega
    simp only [e1, k1, k2, k3, k4, cond_true, cond_false, Int.toNat_natCast, List.length_set, wrapN (show x' < 4611686018427387904 by omega), wrapS (show y' < 4611686018427387904 by omega) (show 0 < y' by omega)]
    exact .ret ⟨⟨x' + 1, y' - 1, swapL n x' y', rfl, hPI3.swap hb (by omega) (a4.resolve_left (by omega)) (b4.resolve_left (by omega))⟩, by simp only [pst, Int.toNat_natCast]; omega⟩
  ·rintro _ ⟨x, y, n, rfl, hPI, hxy⟩
   simp only [Int.toNat_natCast, List.length_set]
   exact finish false hPI hxy
end Go.Ab

set_option maxRecDepth 100000
namespace Go.Ab
open Go Go.RowKit Go.Proofs
theorem part1e {a b i j : Nat} {m : List Fm} (hi : a + 1 ≤ i) (hij : i ≤ j + 1) (hj : j < b) (hb : b ≤ m.length) (hln : m.length < 1000000000000) (hbig : bigAll m) :
  Wp (loopM (L := (Unit × Int × Unit × Int × Int × Unit) × ((List Fm) × Unit)) (R := (Unit × Int × Unit × Int × Int × Unit) × ((List Fm) × Unit)) (fun d6 => (
 let l7 := d6.2.1
 let v1_8 := d6.1.2.1
 let v11_9 := d6.1.2.2.2.1
 let v12_10 := d6.1.2.2.2.2.1
 cond ((ixOK v1_8 l7.length) || !(decide (v11_9 ≤ v12_10))) (cond ((decide (v1_8.toNat < l7.length)) || !(decide (v11_9 ≤ v12_10))) (cond ((ixOK v11_9 l7.length) || !(decide (v11_9 ≤ v12_10))) (cond ((decide (v11_9.toNat < l7.length)) || !(decide (v11_9 ≤ v12_10))) (Option.bind (α := Int) (cond (decide (v11_9 ≤ v12_10)) (L_compare (Fm.eta (l7.getD v1_8.toNat (Fm.mk 0 0 [] []))) (Fm.eta (l7.getD v11_9.toNat (Fm.mk 0 0 [] [])))) (some (0 : Int))) fun r11 => (
 cond (cond (decide (v11_9 ≤ v12_10)) (!(decide (r11 < 0))) false) (some (Step.next (((), v1_8, (), IntKind.wrap .i64 (v11_9 + 1), v12_10, ()), (l7, ())))) (some (Step.done (((), v1_8, (), v11_9, v12_10, ()), (l7, ())))))) none) none) none) none)) (pst a i j m))
  (fun r => ∃ i' : Nat, r = pst a i' j m ∧ i ≤ i' ∧ i' ≤ j + 1 ∧ (∀ p, i ≤ p → p < i' → ¬ cmpF (atF' m a) (atF' m p) < 0) ∧ (j < i' ∨ cmpF (atF' m a) (atF' m i') < 0)) := by
 refine Wp.loop (fun d => ∃ i' : Nat, d = pst a i' j m ∧ i ≤ i' ∧ i' ≤ j + 1 ∧ (∀ p, i ≤ p → p < i' → ¬ cmpF (atF' m a) (atF' m p) < 0)) (fun d => j + 1 - d.1.2.2.2.1.toNat) ?_ ⟨i, rfl, Nat.le_refl _, hij, fun p h1 h2 => by omega⟩
 rintro d ⟨x, rfl, h1, h2, h3⟩
 unfold pst
 have i3 : ixOK (a : Int) m.length = true := ixOK_iff.2 (by omega)
 have i4 : decide (a < m.length) = true := by apply decide_eq_true; omega
 by_cases hx : x ≤ j
 ·have e1 : decide ((x : Int) ≤ (j : Int)) = true := by apply decide_eq_true; omega
  have i1 : ixOK (x : Int) m.length = true := ixOK_iff.2 (by omega)
  have i2 : decide (x < m.length) = true := by apply decide_eq_true; omega
  have hcmp : L_compare (m.getD a (Fm.mk 0 0 [] [])) (m.getD x (Fm.mk 0 0 [] [])) = some (cmpF (atF' m a) (atF' m x)) := compare_val (bigAll_at hbig (by omega))
  simp only [e1, i1, i2, i3, i4, hcmp, cond_true, Bool.true_or, Int.toNat_natCast, Fm.eta_eq, Option.bind_some, wrapN (show x < 4611686018427387904 by omega)]
  by_cases hc : cmpF (atF' m a) (atF' m x) < 0
  ·simp only [hc, decide_true, Bool.not_true, cond_false]
   exact .ret ⟨x, rfl, h1, h2, h3, .inr hc⟩
  ·simp only [hc, decide_false, Bool.not_false, cond_true]
   refine .ret ⟨⟨x + 1, rfl, by omega, by omega, fun p q1 q2 => ?_⟩, by simp only [Int.toNat_natCast]; omega⟩
   by_cases hp : p = x
   ·subst hp; exact hc
   ·exact h3 p q1 (by omega)
 ·have e1 : decide ((x : Int) ≤ (j : Int)) = false := by apply decide_eq_false; omega
  simp only [e1, Bool.not_false, Bool.or_true, cond_true, cond_false, Option.bind_some]
  exact .ret ⟨x, rfl, h1, h2, h3, .inl (by omega)⟩
theorem part2e {a b i j : Nat} {m : List Fm} (hi : a + 1 ≤ i) (hij : i ≤ j + 1) (hj : j < b) (hb : b ≤ m.length) (hln : m.length < 1000000000000) (hbig : bigAll m) :
  Wp (loopM (L := (Unit × Int × Unit × Int × Int × Unit) × ((List Fm) × Unit)) (R := (Unit × Int × Unit × Int × Int × Unit) × ((List Fm) × Unit)) (fun d17 => (
 let l18 := d17.2.1
 let v1_19 := d17.1.2.1
 let v11_20 := d17.1.2.2.2.1
 let v12_21 := d17.1.2.2.2.2.1
 cond ((ixOK v1_19 l18.length) || !(decide (v11_20 ≤ v12_21))) (cond ((decide (v1_19.toNat < l18.length)) || !(decide (v11_20 ≤ v12_21))) (cond ((ixOK v12_21 l18.length) || !(decide (v11_20 ≤ v12_21))) (cond ((decide (v12_21.toNat < l18.length)) || !(decide (v11_20 ≤ v12_21))) (Option.bind (α := Int) (cond (decide (v11_20 ≤ v12_21)) (L_compare (Fm.eta (l18.getD v1_19.toNat (Fm.mk 0 0 [] []))) (Fm.eta (l18.getD v12_21.toNat (Fm.mk 0 0 [] [])))) (some (0 : Int))) fun r22 => (
 cond (cond (decide (v11_20 ≤ v12_21)) (decide (r22 < 0)) false) (some (Step.next (((), v1_19, (), v11_20, IntKind.wrap .i64 (v12_21 - 1), ()), (l18, ())))) (some (Step.done (((), v1_19, (), v11_20, v12_21, ()), (l18, ())))))) none) none) none) none)) (pst a i j m))
  (fun r => ∃ j' : Nat, r = pst a i j' m ∧ i ≤ j' + 1 ∧ j' ≤ j ∧ (∀ p, j' < p → p ≤ j → cmpF (atF' m a) (atF' m p) < 0) ∧ (j' < i ∨ ¬ cmpF (atF' m a) (atF' m j') < 0)) := by
 refine Wp.loop (fun d => ∃ j' : Nat, d = pst a i j' m ∧ i ≤ j' + 1 ∧ j' ≤ j ∧ (∀ p, j' < p → p ≤ j → cmpF (atF' m a) (atF' m p) < 0)) (fun d => d.1.2.2.2.2.1.toNat) ?_ ⟨j, rfl, hij, Nat.le_refl _, fun p h1 h2 => by omega⟩
 rintro d ⟨x, rfl, h1, h2, h3⟩
 unfold pst
 have i3 : ixOK (a : Int) m.length = true := ixOK_iff.2 (by omega)
 have i4 : decide (a < m.length) = true := by apply decide_eq_true; omega
 by_cases hx : i ≤ x
 ·have e1 : decide ((i : Int) ≤ (x : Int)) = true := by apply decide_eq_true; omega
  have i1 : ixOK (x : Int) m.length = true := ixOK_iff.2 (by omega)
  have i2 : decide (x < m.length) = true := by apply decide_eq_true; omega
  have hcmp : L_compare (m.getD a (Fm.mk 0 0 [] [])) (m.getD x (Fm.mk 0 0 [] [])) = some (cmpF (atF' m a) (atF' m x)) := compare_val (bigAll_at hbig (by omega))
  simp only [e1, i1, i2, i3, i4, hcmp, cond_true, Bool.true_or, Int.toNat_natCast, Fm.eta_eq, Option.bind_some, wrapS (show x < 4611686018427387904 by omega) (show 0 < x by omega)]
  by_cases hc : cmpF (atF' m a) (atF' m x) < 0
  ·simp only [hc, decide_true, cond_true]
   refine .ret ⟨⟨x - 1, rfl, by omega, by omega, fun p q1 q2 => ?_⟩, by simp only [Int.toNat_natCast]; omega⟩
   by_cases hp : p = x
   ·subst hp; exact hc
   ·exact h3 p (by omega) q2
  ·simp only [hc, decide_false, cond_false]
   exact .ret ⟨x, rfl, h1, h2, h3, .inr hc⟩
 ·have e1 : decide ((i : Int) ≤ (x : Int)) = false := by apply decide_eq_false; omega
  simp only [e1, Bool.not_false, Bool.or_true, cond_true, cond_false, Option.bind_some]
  exact .ret ⟨x, rfl, h1, h2, h3, .inl (by omega)⟩
def PIe (a b : Nat) (l : List Fm) (i j : Nat) (m : List Fm) : Prop := a + 1 ≤ i ∧ i ≤ j + 1 ∧ j < b ∧ SW a b l m ∧ (∀ p, a + 1 ≤ p → p < i → ¬ cmpF (atF' m a) (atF' m p) < 0) ∧ (∀ p, j < p → p < b → cmpF (atF' m a) (atF' m p) < 0)
theorem PIe.sides {a b i j i' j' : Nat} {l m : List Fm} (h : PIe a b l i j m) (h1 : i ≤ i') (h2 : i' ≤ j + 1) (h3 : ∀ p, i ≤ p → p < i' → ¬ cmpF (atF' m a) (atF' m p) < 0) (q1 : i' ≤ j' + 1) (q2 : j' ≤ j) (q3 : ∀ p, j' < p → p ≤ j → cmpF (atF' m a) (atF' m p) < 0) : PIe a b l i' j' m := by
 obtain ⟨k1, k2, k3, k4, k5, k6⟩ := h
 refine ⟨by omega, q1, by omega, k4, fun p r1 r2 => ?_, fun p r1 r2 => ?_⟩
 ·by_cases hp : p < i
  ·exact k5 p r1 hp
  ·exact h3 p (by omega) r2
 ·by_cases hp : j < p
  ·exact k6 p hp r2
  ·exact q3 p r1 (by omega)
theorem PIe.swap {a b i j : Nat} {l m : List Fm} (hb : b ≤ l.length) (h : PIe a b l i j m) (hij : i ≤ j) (hi : cmpF (atF' m a) (atF' m i) < 0) (hj : ¬ cmpF (atF' m a) (atF' m j) < 0) : PIe a b l (i + 1) (j - 1) (swapL m i j) := by
 obtain ⟨k1, k2, k3, k4, k5, k6⟩ := h
 have hlen := k4.length
 have hne : ¬ i = j := fun e => by subst e; exact hj hi
 have at1 : ∀ p, atF' (swapL m i j) p = if p = j then atF' m i else if p = i then atF' m j else atF' m p := swapL_at m (by omega) (by omega)
 have ha : atF' (swapL m i j) a = atF' m a := by rw [at1, if_neg (by omega), if_neg (by omega)]
 refine ⟨by omega, by omega, by omega, .swap _ _ _ _ k4 (by omega) (by omega) (by omega) (by omega), fun p r1 r2 => ?_, fun p r1 r2 => ?_⟩
 ·rw [ha, at1, if_neg (by omega)]
  by_cases hp : p = i
  ·rw [if_pos hp]; exact hj
  ·rw [if_neg hp]; exact k5 p r1 (by omega)
 ·rw [ha, at1]
  by_cases hp : p = j
  ·rw [if_pos hp]; exact hi
  ·rw [if_neg hp, if_neg (by omega)]; exact k6 p (by omega) r2
theorem partEq_val {a b pv : Nat} {l : List Fm} (hp1 : a ≤ pv) (hp2 : pv < b) (hab : a + 2 ≤ b) (hb : b ≤ l.length) (hln : l.length < 1000000000000) (hbig : bigAll l) :
  Wp (G_partEq (a : Int) (b : Int) (pv : Int) l) (fun r => ∃ (mid : Nat) (m : List Fm), r = ((mid : Int), (m, ())) ∧ a < mid ∧ mid ≤ b ∧ SW a b l m ∧ (∀ p, a ≤ p → p < mid → le (atF' m p) (atF' l pv)) ∧ (∀ p, mid ≤ p → p < b → cmpF (atF' l pv) (atF' m p) < 0)) := by
 have i1 : ixOK (a : Int) l.length = true := ixOK_iff.2 (by omega)
 have i2 : decide (a < l.length) = true := by apply decide_eq_true; omega
 have i3 : ixOK (pv : Int) l.length = true := ixOK_iff.2 (by omega)
 have i4 : decide (pv < l.length) = true := by apply decide_eq_true; omega
 have hsw0 : SW a b l (swapL l a pv) := .swap _ _ _ _ (.refl _) (Nat.le_refl _) (by omega) hp1 hp2
 have hpa : atF' (swapL l a pv) a = atF' l pv := by
  rw [swapL_at l (by omega) (by omega)]
  by_cases h : a = pv
  ·subst h; simp
  ·rw [if_neg h, if_pos rfl]
 unfold G_partEq
 simp only [i1, i2, i3, i4, cond_true, Int.toNat_natCast, Fm.eta_eq, List.length_set, wrapN (show a < 4611686018427387904 by omega), wrapS (show b < 4611686018427387904 by omega) (show 0 < b by omega)]
 have hPI0 : PIe a b l (a + 1) (b - 1) (swapL l a pv) := ⟨Nat.le_refl _, by omega, by omega, hsw0, fun p h1 h2 => by omega, fun p h1 h2 => by omega⟩
 refine Wp.bind (P := fun r => ∃ (i j : Nat) (m : List Fm), r = (((i : Int), ()), (m, ())) ∧ PIe a b l i j m ∧ j < i ∧ atF' m a = atF' l pv) ?_ ?_
 ·refine Wp.loop (fun d => ∃ (i j : Nat) (m : List Fm), d = pst a i j m ∧ PIe a b l i j m ∧ atF' m a = atF' l pv) (fun d => d.1.2.2.2.2.1.toNat + 1 - d.1.2.2.2.1.toNat) ?_ ⟨a + 1, b - 1, swapL l a pv, rfl, hPI0, hpa⟩
  rintro d ⟨x, y, n, rfl, hPI, hna⟩
  obtain ⟨c1, c2, c3, c4, -, -⟩ := id hPI
  have hln' := c4.length
  have hbn := c4.big hb hbig
  refine Wp.bind (P := fun r => ∃ i', r = pst a i' y n ∧ _) (by
   have := part1e (a := a) (b := b) (i := x) (j := y) (m := n) c1 c2 c3 (by omega) (by omega) hbn
   simp only [Fm.eta_eq] at this
   exact this) ?_
  rintro _ ⟨x', rfl, a1, a2, a3, a4⟩
  refine Wp.bind (P := fun r => ∃ j', r = pst a x' j' n ∧ _) (by
   have := part2e (a := a) (b := b) (i := x') (j := y) (m := n) (by omega) (by omega) (by omega) (by omega) (by omega) hbn
   simp only [Fm.eta_eq] at this
   exact this) ?_
  rintro _ ⟨y', rfl, b1, b2, b3, b4⟩
  have hPI3 := hPI.sides a1 a2 a3 b1 b2 b3
  unfold pst
  by_cases hxy : y' < x'
  ·have e1 : decide ((x' : Int) > (y' : Int)) = true := by apply decide_eq_true; omega
   simp only [e1, cond_true]
   exact .ret ⟨x', y', n, rfl, hPI3, hxy, hna⟩
  ·have e1 : decide ((x' : Int) > (y' : Int)) = false := by apply decide_eq_false; omega
   have k1 : ixOK (x' : Int) n.length = true := ixOK_iff.2 (by omega)
   have k2 : decide (x' < n.length) = true := by apply decide_eq_true; omega
   have k3 : ixOK (y' : Int) n.length = true := ixOK_iff.2 (by omega)
   have k4 : decide (y' < n.length) = true := by apply decide_eq_true; omega
   have hna' : atF' (swapL n x' y') a = atF' l pv := by
    rw [swapL_at n (by omega) (by omega), if_neg (by omega), if_neg (by omega), hna]
   simp only [e1, k1, k2, k3, k4, cond_true, cond_false, Int.toNat_natCast, List.length_set, wrapN (show x' < 4611686018427387904 by omega), wrapS (show y' < 4611686018427387904 by omega) (show 0 < y' by omega)]
   exact .ret ⟨⟨x' + 1, y' - 1, swapL n x' y', rfl, hPI3.swap hb (by omega) (a4.resolve_left (by omega)) (b4.resolve_left (by omega)), hna'⟩, by simp only [pst, Int.toNat_natCast]; omega⟩
 ·rintro _ ⟨i, j, m, rfl, hPI, hji, hma⟩
  obtain ⟨c1, c2, c3, c4, c5, c6⟩ := hPI
  refine .ret ⟨i, m, rfl, by omega, by omega, c4, fun p q1 q2 => ?_, fun p q1 q2 => ?_⟩
  ·rw [← hma]
   by_cases hp : p = a
   ·subst hp; exact le_refl' _
   ·exact le_of_not_lt (c5 p (by omega) q2)
  ·rw [← hma]
   exact c6 p (by omega) q2
end Go.Ab

set_option maxRecDepth 100000
namespace Go.Ab
open Go Go.RowKit Go.Proofs
theorem Srt.cong {a b : Nat} {l m : List Fm} (h : Srt a b l) (e : ∀ p, a ≤ p → p < b → atF' m p = atF' l p) : Srt a b m := fun p q h1 h2 h3 => by
 rw [e p h1 (by omega), e q (by omega) h3]; exact h p q h1 h2 h3
def LB (a b : Nat) (l : List Fm) : Prop := a = 0 ∨ ∀ p, a ≤ p → p < b → le (atF' l (a - 1)) (atF' l p)
theorem LB.sw {a b : Nat} {l m : List Fm} (h : LB a b l) (hb : b ≤ l.length) (hs : SW a b l m) : LB a b m := by
 rcases h with h | h
 ·exact .inl h
 ·by_cases h0 : a = 0
  ·exact .inl h0
  ·refine .inr fun p q1 q2 => ?_
   rw [hs.out hb (p := a - 1) (.inl (by omega))]
   exact hs.all hb (P := fun x => le (atF' l (a - 1)) x) h p q1 q2
theorem partIns_val {a b : Nat} {l : List Fm} (hab : a + 2 ≤ b) (hb : b ≤ l.length) (hln : l.length < 1000000000000) (hbig : bigAll l) (hlb : LB a b l) :
  Wp (G_partIns (a : Int) (b : Int) l) (fun r => ∃ (t : Bool) (m : List Fm), r = (t, (m, ())) ∧ SW a b l m ∧ (t = true → Srt a b m)) := by
 unfold G_partIns
 rw [show IntKind.wrap .i64 ((a : Int) + 1) = ((a + 1 : Nat) : Int) from wrapN (by omega)]
 refine Wp.bind (P := fun r => (∃ m, r = .next ((), (m, ())) ∧ SW a b l m) ∨ (∃ t m, r = .done (t, (m, ())) ∧ SW a b l m ∧ (t = true → Srt a b m))) ?_ ?_
 ·refine Wp.loop (fun d => ∃ (i c : Nat) (m : List Fm), d = (((), (a : Int), (b : Int), (), (i : Int), (c : Int), ()), (m, ())) ∧ a < i ∧ i ≤ b ∧ c ≤ 5 ∧ SW a b l m ∧ Srt a i m) (fun d => 5 - d.1.2.2.2.2.2.1.toNat) ?_ ⟨a + 1, 0, l, rfl, by omega, by omega, by omega, .refl _, fun p q _ _ _ => by omega⟩
  rintro d ⟨i, c, m, rfl, h1, h2, h3, hsw, hso⟩
  by_cases hc : c < 5
  ·have e0 : decide ((c : Int) < 5) = true := by apply decide_eq_true; omega
   have hlen := hsw.length
   have hbm := hsw.big hb hbig
   simp only [e0, cond_true]
   refine Wp.bind (P := fun r => (∃ (i : Nat) (m : List Fm), r = .next (((), (a : Int), (b : Int), (), (i : Int), (c : Int), ()), (m, ())) ∧ a < i ∧ i ≤ b ∧ SW a b l m ∧ Srt a i m) ∨ (∃ t m, r = .done (.done (.done (t, (m, ())))) ∧ SW a b l m ∧ (t = true → Srt a b m))) ?_ ?_
   ·refine Wp.bind (P := fun r => ∃ (i : Nat), r = (((), (a : Int), (b : Int), (), (i : Int), (c : Int), ()), (m, ())) ∧ a < i ∧ i ≤ b ∧ Srt a i m) ?_ ?_
    ·refine Wp.loop (fun d => ∃ (i : Nat), d = (((), (a : Int), (b : Int), (), (i : Int), (c : Int), ()), (m, ())) ∧ a < i ∧ i ≤ b ∧ Srt a i m) (fun d => b - d.1.2.2.2.2.1.toNat) ?_ ⟨i, rfl, h1, h2, hso⟩
     rintro d ⟨x, rfl, x1, x2, xs⟩
     by_cases hx : x < b
     ·have e1 : decide ((x : Int) < (b : Int)) = true := by apply decide_eq_true; omega
      have i1 : ixOK (x : Int) m.length = true := ixOK_iff.2 (by omega)
      have i2 : decide (x < m.length) = true := by apply decide_eq_true; omega
      have i3 : ixOK ((x - 1 : Nat) : Int) m.length = true := ixOK_iff.2 (by omega)
      have i4 : decide (x - 1 < m.length) = true := by apply decide_eq_true; omega
      have hcmp : L_compare (m.getD x (Fm.mk 0 0 [] [])) (m.getD (x - 1) (Fm.mk 0 0 [] [])) = some (cmpF (atF' m x) (atF' m (x - 1))) := compare_val (bigAll_at hbm (by omega))
      simp only [e1, wrapS (show x < 4611686018427387904 by omega) (show 0 < x by omega), wrapN (show x < 4611686018427387904 by omega), i1, i2, i3, i4, hcmp, cond_true, Bool.true_or, Int.toNat_natCast, Fm.eta_eq, Option.bind_some]
      by_cases hlt : cmpF (atF' m x) (atF' m (x - 1)) < 0
      ·simp only [hlt, decide_true, Bool.not_true, cond_false]
       exact .ret ⟨x, rfl, x1, x2, xs⟩
      ·simp only [hlt, decide_false, Bool.not_false, cond_true]
       refine .ret ⟨⟨x + 1, rfl, by omega, by omega, fun p q q1 q2 q3 => ?_⟩, by simp only [Int.toNat_natCast]; omega⟩
       by_cases hq : q = x
       ·subst hq
        have h0 := le_of_not_lt hlt
        by_cases hp : p = q - 1
        ·subst hp; exact h0
        ·exact le_trans' (xs p (q - 1) q1 (by omega) (by omega)) h0
       ·exact xs p q q1 q2 (by omega)
     ·have e1 : decide ((x : Int) < (b : Int)) = false := by apply decide_eq_false; omega
      simp only [e1, Bool.not_false, Bool.or_true, cond_true, cond_false, Option.bind_some]
      exact .ret ⟨x, rfl, x1, x2, xs⟩
    ·rintro _ ⟨x, rfl, x1, x2, xs⟩
     by_cases hxb : x = b
     ·subst hxb
      simp only [decide_true, cond_true]
      exact .ret (.inr ⟨true, m, rfl, hsw, fun _ => xs⟩)
     ·have e1 : decide ((x : Int) = (b : Int)) = false := by apply decide_eq_false; omega
      have w1 : IntKind.wrap .i64 ((b : Int) - (a : Int)) = ((b - a : Nat) : Int) := by rw [w64 (by omega) (by omega)]; omega
      simp only [e1, w1, cond_false]
      by_cases h50 : ((b - a : Nat) : Int) < 50
      ·simp only [h50, decide_true, cond_true]
       exact .ret (.inr ⟨false, m, rfl, hsw, fun h => by cases h⟩)
      ·have i1 : ixOK (x : Int) m.length = true := ixOK_iff.2 (by omega)
       have i2 : decide (x < m.length) = true := by apply decide_eq_true; omega
       have i3 : ixOK ((x - 1 : Nat) : Int) m.length = true := ixOK_iff.2 (by omega)
       have i4 : decide (x - 1 < m.length) = true := by apply decide_eq_true; omega
       have w2 : IntKind.wrap .i64 ((x : Int) - (a : Int)) = ((x - a : Nat) : Int) := by rw [w64 (by omega) (by omega)]; omega
       have w3 : IntKind.wrap .i64 ((b : Int) - (x : Int)) = ((b - x : Nat) : Int) := by rw [w64 (by omega) (by omega)]; omega
       have w4 := wrapS (show x < 4611686018427387904 by omega) (show 0 < x by omega)
       have w5 := wrapN (show x < 4611686018427387904 by omega)
       have hsw' : SW a b l (swapL m x (x - 1)) := .swap _ _ _ _ hsw (by omega) (by omega) (by omega) (by omega)
       have at1 : ∀ p, atF' (swapL m x (x - 1)) p = if p = x - 1 then atF' m x else if p = x then atF' m (x - 1) else atF' m p := swapL_at m (by omega) (by omega)
       simp only [h50, i1, i2, i3, i4, w4, cond_true, cond_false, decide_false, Int.toNat_natCast, List.length_set, Fm.eta_eq]
       refine Wp.bind (P := fun r => ∃ (n : List Fm), r = (((), (a : Int), (b : Int), (), (x : Int), (c : Int), ()), (n, ())) ∧ SW a b l n ∧ Srt a x n) ?_ ?_
       ·simp only [w2]
        by_cases hx2 : ((x - a : Nat) : Int) ≥ 2
        ·simp only [hx2, decide_true, cond_true]
         refine Wp.loop (fun d => ∃ (j : Nat) (n : List Fm), d = (((), (a : Int), (b : Int), (), (x : Int), (c : Int), (j : Int), ()), (n, ())) ∧ a ≤ j ∧ j < x ∧ SW a b l n ∧ ∀ p q, a ≤ p → p < q → q < x → q ≠ j → le (atF' n p) (atF' n q)) (fun d => d.1.2.2.2.2.2.2.1.toNat) ?_
          ⟨x - 1, swapL m x (x - 1), rfl, by omega, by omega, hsw', fun p q q1 q2 q3 q4 => by
           rw [at1, at1, if_neg (by omega), if_neg (by omega), if_neg (by omega), if_neg (by omega)]
           exact xs p q q1 q2 q3⟩
         rintro d ⟨j, n, rfl, y1, y2, ysw, yso⟩
         have hln' := ysw.length
         have hbn := ysw.big hb hbig
         by_cases hj1 : (j : Int) ≥ 1
         ·have k1 : ixOK (j : Int) n.length = true := ixOK_iff.2 (by omega)
          have k2 : decide (j < n.length) = true := by apply decide_eq_true; omega
          have k3 : ixOK ((j - 1 : Nat) : Int) n.length = true := ixOK_iff.2 (by omega)
          have k4 : decide (j - 1 < n.length) = true := by apply decide_eq_true; omega
          have hcmp : L_compare (n.getD j (Fm.mk 0 0 [] [])) (n.getD (j - 1) (Fm.mk 0 0 [] [])) = some (cmpF (atF' n j) (atF' n (j - 1))) := compare_val (bigAll_at hbn (by omega))
          simp only [hj1, decide_true, wrapS (show j < 4611686018427387904 by omega) (show 0 < j by omega), k1, k2, k3, k4, hcmp, cond_true, Int.toNat_natCast, List.length_set, Option.bind_some]
          by_cases hlt : cmpF (atF' n j) (atF' n (j - 1)) < 0
          ·have hja : a < j := by
            refine Nat.lt_of_le_of_ne y1 fun e => ?_
            subst e
            rcases (hlb.sw hb ysw) with h | h
            ·omega
            ·have := h a (Nat.le_refl _) (by omega)
             unfold le at this
             rw [cmpF_neg (atF' n a) (atF' n (a - 1))] at this
             omega
           simp only [hlt, decide_true, Bool.not_true, cond_false]
           refine .ret ⟨⟨j - 1, swapL n j (j - 1), rfl, by omega, by omega, .swap _ _ _ _ ysw (by omega) (by omega) (by omega) (by omega), fun p q q1 q2 q3 q4 => ?_⟩, by simp only [Int.toNat_natCast]; omega⟩
           rw [swapL_at n (by omega) (by omega), swapL_at n (by omega) (by omega), if_neg q4]
           by_cases c1 : q = j
           ·subst c1
            rw [if_pos rfl]
            by_cases c2 : p = q - 1
            ·rw [if_pos c2]; exact le_of_lt' hlt
            ·rw [if_neg c2, if_neg (by omega)]; exact yso p (q - 1) q1 (by omega) (by omega) (by omega)
           ·rw [if_neg c1]
            by_cases c2 : p = j - 1
            ·rw [if_pos c2]; exact yso j q (by omega) (by omega) q3 c1
            ·rw [if_neg c2]
             by_cases c3 : p = j
             ·subst c3; rw [if_pos rfl]; exact yso (p - 1) q (by omega) (by omega) q3 c1
             ·rw [if_neg c3]; exact yso p q q1 q2 q3 c1
          ·simp only [hlt, decide_false, Bool.not_false, cond_true]
           refine .ret ⟨n, rfl, ysw, fun p q q1 q2 q3 => ?_⟩
           by_cases c1 : q = j
           ·subst c1
            have h0 := le_of_not_lt hlt
            by_cases c2 : p = q - 1
            ·subst c2; exact h0
            ·exact le_trans' (yso p (q - 1) q1 (by omega) (by omega) (by omega)) h0
           ·exact yso p q q1 q2 q3 c1
         ·simp only [hj1, decide_false, cond_false]
          exact .ret ⟨n, rfl, ysw, fun p q q1 q2 q3 => yso p q q1 q2 q3 (by omega)⟩
        ·simp only [hx2, decide_false, cond_false]
         exact .ret ⟨swapL m x (x - 1), rfl, hsw', fun p q q1 q2 q3 => by omega⟩
       ·rintro _ ⟨n, rfl, ysw, yso⟩
        have hln' := ysw.length
        simp only [w3, w5]
        by_cases hx3 : ((b - x : Nat) : Int) ≥ 2
        ·simp only [hx3, decide_true, cond_true]
         refine Wp.loop (fun d => ∃ (j : Nat) (o : List Fm), d = (((), (a : Int), (b : Int), (), (x : Int), (c : Int), (j : Int), ()), (o, ())) ∧ x < j ∧ j ≤ b ∧ SW x b n o) (fun d => b - d.1.2.2.2.2.2.2.1.toNat) ?_ ⟨x + 1, n, rfl, by omega, by omega, .refl _⟩
         rintro d ⟨j, o, rfl, z1, z2, zsw⟩
         have hlo := zsw.length
         have hbo := zsw.big (by omega) (ysw.big hb hbig)
         have fin : StepQ (fun d => ∃ (j : Nat) (o : List Fm), d = (((), (a : Int), (b : Int), (), (x : Int), (c : Int), (j : Int), ()), (o, ())) ∧ x < j ∧ j ≤ b ∧ SW x b n o) (fun d => b - d.1.2.2.2.2.2.2.1.toNat) (fun r => (∃ (i : Nat) (m : List Fm), r = .next (((), (a : Int), (b : Int), (), (i : Int), (c : Int), ()), (m, ())) ∧ a < i ∧ i ≤ b ∧ SW a b l m ∧ Srt a i m) ∨ (∃ t m, r = .done (.done (.done (t, (m, ())))) ∧ SW a b l m ∧ (t = true → Srt a b m)) : Step ((Unit × Int × Int × Unit × Int × Int × Unit) × ((List Fm) × Unit)) (Step ((Unit × Int × Int × Unit × Int × Int × Unit) × ((List Fm) × Unit)) (Step ((Unit) × ((List Fm) × Unit)) ((Bool) × ((List Fm) × Unit)))) → Prop) (((), (a : Int), (b : Int), (), (x : Int), (c : Int), (j : Int), ()), (o, ())) (.done (.next (((), (a : Int), (b : Int), (), (x : Int), (c : Int), ()), (o, ())))) :=
          .inl ⟨x, o, rfl, x1, x2, ysw.trans (zsw.mono (by omega) (Nat.le_refl _)), yso.cong fun p q1 q2 => zsw.out (by omega) (.inl q2)⟩
         by_cases hjb : (j : Int) < (b : Int)
         ·have k1 : ixOK (j : Int) o.length = true := ixOK_iff.2 (by omega)
          have k2 : decide (j < o.length) = true := by apply decide_eq_true; omega
          have k3 : ixOK ((j - 1 : Nat) : Int) o.length = true := ixOK_iff.2 (by omega)
          have k4 : decide (j - 1 < o.length) = true := by apply decide_eq_true; omega
          have hcmp : L_compare (o.getD j (Fm.mk 0 0 [] [])) (o.getD (j - 1) (Fm.mk 0 0 [] [])) = some (cmpF (atF' o j) (atF' o (j - 1))) := compare_val (bigAll_at hbo (by omega))
          simp only [hjb, decide_true, wrapS (show j < 4611686018427387904 by omega) (show 0 < j by omega), wrapN (show j < 4611686018427387904 by omega), k1, k2, k3, k4, hcmp, cond_true, Int.toNat_natCast, List.length_set, Option.bind_some]
          by_cases hlt : cmpF (atF' o j) (atF' o (j - 1)) < 0
          ·simp only [hlt, decide_true, Bool.not_true, cond_false]
           exact .ret ⟨⟨j + 1, swapL o j (j - 1), rfl, by omega, by omega, .swap _ _ _ _ zsw (by omega) (by omega) (by omega) (by omega)⟩, by simp only [Int.toNat_natCast]; omega⟩
          ·simp only [hlt, decide_false, Bool.not_false, cond_true]
           exact .ret fin
         ·simp only [hjb, decide_false, cond_false]
          exact .ret fin
        ·simp only [hx3, decide_false, cond_false]
         exact .ret (.inl ⟨x, n, rfl, x1, x2, ysw, yso⟩)
   ·rintro r (⟨x, n, rfl, x1, x2, ysw, yso⟩ | ⟨t, n, rfl, ysw, yso⟩)
    ·refine .ret ⟨⟨x, c + 1, n, ?_, x1, x2, by omega, ysw, yso⟩, by simp only [wrapN (show c < 4611686018427387904 by omega), Int.toNat_natCast]; omega⟩
     simp only [wrapN (show c < 4611686018427387904 by omega)]
    ·exact .ret (.inr ⟨t, n, rfl, ysw, yso⟩)
  ·have e0 : decide ((c : Int) < 5) = false := by apply decide_eq_false; omega
   simp only [e0, cond_false]
   exact .ret (.inl ⟨m, rfl, hsw⟩)
 ·rintro r (⟨m, rfl, hsw⟩ | ⟨t, m, rfl, hsw, hso⟩)
  ·exact .ret ⟨false, m, rfl, hsw, fun h => by cases h⟩
  ·exact .ret ⟨t, m, rfl, hsw, hso⟩
end Go.Ab

set_option maxRecDepth 100000
namespace Go.Ab
open Go Go.RowKit Go.Proofs
def UW {R : Type} (N : Prop) (o : Option R) (Q : R → Prop) : Prop := Wp o Q ∨ (o = none ∧ N)
theorem UW.mono {R : Type} {N N' : Prop} {o : Option R} {Q : R → Prop} (h : UW N o Q) (k : N → N') : UW N' o Q := h.imp id fun h => ⟨h.1, k h.2⟩
theorem UW.bind {R S : Type} {N : Prop} {o : Option R} {F : R → Option S} {P : R → Prop} {Q : S → Prop} (h : UW N o P) (k : ∀ r, P r → UW N (F r) Q) : UW N (Option.bind o F) Q := by
 rcases h with ⟨r, rfl, hr⟩ | ⟨rfl, hn⟩
 ·exact k r hr
 ·exact .inr ⟨rfl, hn⟩
theorem UW.loop {L R : Type} {N : Prop} {b : L → Option (Step L R)} {l0 : L} {Q : R → Prop} (I : L → Prop) (μ : L → Nat) (h : ∀ l, I l → UW N (b l) (StepQ I μ Q l)) (h0 : I l0) : UW N (loopM b l0) Q := by
 have key : ∀ n l, μ l ≤ n → I l → UW N (loopM b l) Q := by
  intro n
  induction n with
  | zero =>
   intro l hn hl
   rcases h l hl with ⟨s, hs, hq⟩ | ⟨hs, hN⟩
   ·cases s with
    | next l' => have := hq.2; omega
    | done r => rw [loopM_done hs]; exact .inl ⟨r, rfl, hq⟩
   ·exact .inr ⟨loopM_none hs, hN⟩
  | succ n ih =>
   intro l hn hl
   rcases h l hl with ⟨s, hs, hq⟩ | ⟨hs, hN⟩
   ·cases s with
    | next l' => rw [loopM_next hs]; exact ih l' (by have := hq.2; omega) hq.1
    | done r => rw [loopM_done hs]; exact .inl ⟨r, rfl, hq⟩
   ·exact .inr ⟨loopM_none hs, hN⟩
 exact key _ _ (Nat.le_refl _) h0
def Ok (a0 b0 a b : Nat) (m : List Fm) : Prop := ∀ p q, a0 ≤ p → p < q → q < b0 → ¬ (a ≤ p ∧ q < b) → le (atF' m p) (atF' m q)
theorem Ok.sw {a0 b0 a b : Nat} {m n : List Fm} (h : Ok a0 b0 a b m) (h1 : a0 ≤ a) (h2 : b ≤ b0) (hb : b0 ≤ m.length) (hs : SW a b m n) : Ok a0 b0 a b n := by
 intro p q q1 q2 q3 q4
 have hbl : b ≤ m.length := by omega
 by_cases hp : a ≤ p ∧ p < b
 ·have hq : b ≤ q := by omega
  rw [hs.out hbl (p := q) (.inr hq)]
  exact hs.all hbl (P := fun x => le x (atF' m q)) (fun p' r1 r2 => h p' q (by omega) (by omega) q3 (by omega)) p hp.1 hp.2
 ·rw [hs.out hbl (p := p) (by omega)]
  by_cases hq : a ≤ q ∧ q < b
  ·exact hs.all hbl (P := fun x => le (atF' m p) x) (fun p' r1 r2 => h p p' q1 (by omega) (by omega) (by omega)) q hq.1 hq.2
  ·rw [hs.out hbl (p := q) (by omega)]
   exact h p q q1 q2 q3 q4
theorem Ok.fin {a0 b0 a b : Nat} {m : List Fm} (h : Ok a0 b0 a b m) (hs : Srt a b m) : Srt a0 b0 m := fun p q h1 h2 h3 => by
 by_cases hc : a ≤ p ∧ q < b
 ·exact hs p q hc.1 h2 hc.2
 ·exact h p q h1 h2 h3 hc
def SPost (a b : Nat) (l : List Fm) : Unit × List Fm × Unit → Prop := fun r => ∃ m, r = ((), (m, ())) ∧ SW a b l m ∧ Srt a b m
theorem pdq_up : ∀ (k : Nat) (a0 b0 : Nat) (lim0 : Int) (l : List Fm), a0 ≤ b0 → b0 ≤ l.length → l.length < 256 → bigAll l → LB a0 b0 l → UW (k ≤ b0 - a0) (G_pdq k (a0 : Int) (b0 : Int) lim0 l) (SPost a0 b0 l)
 | 0, a0, b0, lim0, l, _, _, _, _, _ => .inr ⟨by unfold G_pdq; rfl, Nat.zero_le _⟩
 | k + 1, a0, b0, lim0, l, hab0, hb0, hln, hbig, hlb0 => by
  unfold G_pdq
  refine UW.loop (fun d => ∃ (a b : Nat) (lim : Int) (t u : Bool) (m : List Fm), d = (((), (a : Int), (b : Int), lim, (), t, u, ()), (m, ())) ∧ a0 ≤ a ∧ a ≤ b ∧ b ≤ b0 ∧ SW a0 b0 l m ∧ Ok a0 b0 a b m) (fun d => d.1.2.2.1.toNat - d.1.2.1.toNat) ?_
   ⟨a0, b0, lim0, true, true, l, rfl, Nat.le_refl _, hab0, Nat.le_refl _, .refl _, fun p q h1 h2 h3 h4 => absurd ⟨h1, h3⟩ h4⟩
  rintro d ⟨a, b, lim, t, u, m, rfl, h1, h2, h3, hsw, hok⟩
  have w1 : IntKind.wrap .i64 ((b : Int) - (a : Int)) = ((b - a : Nat) : Int) := by
   have := hsw.length
   rw [w64 (by omega) (by omega)]; omega
  simp only [w1]
  have done : ∀ n, SW a b m n → Srt a b n → SPost a0 b0 l ((), (n, ())) := fun n hn hs =>
   ⟨n, rfl, hsw.trans (hn.mono h1 h3), (hok.sw h1 h3 (by rw [hsw.length]; exact hb0) hn).fin hs⟩
  have hlen := hsw.length
  have hbm := hsw.big hb0 hbig
  by_cases h12 : ((b - a : Nat) : Int) ≤ 12
  ·simp only [h12, decide_true, cond_true]
   by_cases hlt : a < b
   ·obtain ⟨n, e, q1, q2⟩ := insSort_val hlt (show b ≤ m.length by omega) (by omega) hbm
    rw [e]
    exact .inl ⟨_, rfl, done n q1 q2⟩
   ·have hab : a = b := by omega
    subst hab
    have e : G_insSort (a : Int) (a : Int) m = some ((), (m, ())) := by
     unfold G_insSort
     rw [loopM_done (r := ((), (m, ()))) (by
      have : decide ((IntKind.wrap .i64 ((a : Int) + 1)) < (a : Int)) = false := by rw [wrapN (by omega)]; apply decide_eq_false; omega
      simp only [this, cond_false])]
    rw [e]
    exact .inl ⟨_, rfl, done m (.refl _) fun p q _ _ _ => by omega⟩
  ·simp only [h12, decide_false, cond_false]
   by_cases hz : lim = 0
   ·simp only [hz, decide_true, cond_true]
    obtain ⟨n, e, q1, q2⟩ := heapSort_val (show a < b by omega) (show b ≤ m.length by omega) (by omega) hbm
    rw [e]
    exact .inl ⟨_, rfl, done n q1 q2⟩
   ·simp only [hz, decide_false, cond_false]
    refine UW.bind (P := fun r => ∃ (lim : Int) (n : List Fm), r = (((), (a : Int), (b : Int), lim, (), t, u, ((b - a : Nat) : Int), ()), (n, ())) ∧ SW a b m n) ?_ ?_
    ·cases t with
     | true => exact .inl ⟨_, rfl, lim, m, rfl, .refl _⟩
     | false =>
      obtain ⟨n, e, q1⟩ := breakPat_val (show a + 8 ≤ b by omega) (show b ≤ m.length by omega) (by omega)
      simp only [Bool.not_false, cond_true, e, Option.bind_some]
      exact .inl ⟨_, rfl, _, n, rfl, q1⟩
    ·rintro _ ⟨lim1, n1, rfl, hs1⟩
     have hl1 := hs1.length
     have hb1 := hs1.big (by omega) hbm
     obtain ⟨pv, hint, e, p1, p2⟩ := choosePivot_val (show a + 8 ≤ b by omega) (show b ≤ n1.length by omega) (by omega) hb1
     simp only [e, Option.bind_some]
     refine UW.bind (P := fun r => ∃ (h : Int) (pv : Nat) (n : List Fm), r = (((), (a : Int), (b : Int), lim1, (), t, u, ((b - a : Nat) : Int), (pv : Int), h, ()), (n, ())) ∧ SW a b m n ∧ a ≤ pv ∧ pv < b) ?_ ?_
     ·by_cases h2' : hint = 2
      ·subst h2'
       obtain ⟨n, e, q1⟩ := revRange_val (l := n1) (show a < b by omega) (by omega) (by omega)
       have w2 : IntKind.wrap .i64 ((b : Int) - 1) = ((b - 1 : Nat) : Int) := wrapS (by omega) (by omega)
       have w3 : IntKind.wrap .i64 ((pv : Int) - (a : Int)) = ((pv - a : Nat) : Int) := by rw [w64 (by omega) (by omega)]; omega
       have w4 : IntKind.wrap .i64 (((b - 1 : Nat) : Int) - ((pv - a : Nat) : Int)) = ((b - 1 - (pv - a) : Nat) : Int) := by rw [w64 (by omega) (by omega)]; omega
       simp only [decide_true, cond_true, e, Option.bind_some, w2, w3, w4]
       exact .inl ⟨_, rfl, 1, b - 1 - (pv - a), n, rfl, hs1.trans q1, by omega, by omega⟩
      ·simp only [h2', decide_false, cond_false]
       exact .inl ⟨_, rfl, hint, pv, n1, rfl, hs1, p1, p2⟩
     ·rintro _ ⟨hint2, pv2, n2, rfl, hs2, r1, r2⟩
      have hok2 := hok.sw h1 h3 (by omega) hs2
      have hl2 := hs2.length
      have hb2 := hs2.big (by omega) hbm
      have hlbOf : ∀ {n : List Fm} {a' b' : Nat}, SW a0 b0 l n → Ok a0 b0 a' b' n → a0 ≤ a' → b' ≤ b0 → LB a' b' n := by
       intro n a' b' hsn hon ha' hb'
       by_cases h0 : a' = a0
       ·subst h0
        rcases hlb0.sw hb0 hsn with h | h
        ·exact .inl h
        ·exact .inr fun p q1 q2 => h p q1 (by omega)
       ·exact .inr fun p q1 q2 => hon (a' - 1) p (by omega) (by omega) (by omega) (by omega)
      refine UW.bind (P := fun r => (∃ (n : List Fm), r = .next (((), (a : Int), (b : Int), lim1, (), t, u, ((b - a : Nat) : Int), (pv2 : Int), ()), (n, ())) ∧ SW a b m n) ∨ (∃ (n : List Fm), r = .done (.done ((), (n, ()))) ∧ SW a b m n ∧ Srt a b n)) ?_ ?_
      ·cases hcc : (cond (cond t u false) (decide (hint2 = 1)) false) with
       | false => exact .inl ⟨_, rfl, .inl ⟨n2, rfl, hs2⟩⟩
       | true =>
        obtain ⟨_, e, tt, n3, rfl, q1, q2⟩ := partIns_val (l := n2) (show a + 2 ≤ b by omega) (by omega) (by omega) hb2 (hlbOf (hsw.trans (hs2.mono h1 h3)) hok2 h1 h3)
        simp only [cond_true, e, Option.bind_some]
        cases tt with
        | true => exact .inl ⟨_, rfl, .inr ⟨n3, rfl, hs2.trans q1, q2 rfl⟩⟩
        | false => exact .inl ⟨_, rfl, .inl ⟨n3, rfl, hs2.trans q1⟩⟩
      ·rintro r (⟨n3, rfl, hs3⟩ | ⟨n3, rfl, hs3, hsrt⟩)
       ·have hok3 := hok.sw h1 h3 (by omega) hs3
        have hl3 := hs3.length
        have hb3 := hs3.big (by omega) hbm
        have hsw3 : SW a0 b0 l n3 := hsw.trans (hs3.mono h1 h3)
        have hlb3 := hlbOf hsw3 hok3 h1 h3
        have part : UW (k + 1 ≤ b0 - a0) (Option.bind (α := (Int × Bool × Unit) × ((List Fm) × Unit)) (G_partition (a : Int) (b : Int) (pv2 : Int) n3) fun r43 => (
 cond (decide (IntKind.wrap .i64 (r43.1.1 - (a : Int)) < IntKind.wrap .i64 ((b : Int) - r43.1.1))) (Option.bind (α := (Unit) × ((List Fm) × Unit)) (G_pdq k (a : Int) r43.1.1 lim1 r43.2.1) fun r44 => (
 some (Step.next (((), IntKind.wrap .i64 (r43.1.1 + 1), (b : Int), lim1, (), decide (IntKind.wrap .i64 (r43.1.1 - (a : Int)) ≥ IntKind.wrap .i64 (Int.tdiv ((b - a : Nat) : Int) 8)), r43.1.2.1, ()), (r44.2.1, ()))))) (Option.bind (α := (Unit) × ((List Fm) × Unit)) (G_pdq k (IntKind.wrap .i64 (r43.1.1 + 1)) (b : Int) lim1 r43.2.1) fun r45 => (
 some (Step.next (((), (a : Int), r43.1.1, lim1, (), decide (IntKind.wrap .i64 ((b : Int) - r43.1.1) ≥ IntKind.wrap .i64 (Int.tdiv ((b - a : Nat) : Int) 8)), r43.1.2.1, ()), (r45.2.1, ())))))))
          (StepQ (fun d => ∃ (a b : Nat) (lim : Int) (t u : Bool) (m : List Fm), d = (((), (a : Int), (b : Int), lim, (), t, u, ()), (m, ())) ∧ a0 ≤ a ∧ a ≤ b ∧ b ≤ b0 ∧ SW a0 b0 l m ∧ Ok a0 b0 a b m) (fun d => d.1.2.2.1.toNat - d.1.2.1.toNat) (SPost a0 b0 l) (((), (a : Int), (b : Int), lim, (), t, u, ()), (m, ()))) := by
         refine UW.bind (.inl (partition_val r1 r2 (by omega) (by omega) (by omega) hb3)) ?_
         rintro _ ⟨mid, tt, n4, rfl, m1, m2, m3, m4, m5⟩
         have hl4 := m3.length
         have hb4 := m3.big (by omega) hb3
         have hok4 := hok3.sw h1 h3 (by omega) m3
         have hsw4 : SW a0 b0 l n4 := hsw3.trans (m3.mono h1 h3)
         have hlb4 := hlbOf hsw4 hok4 h1 h3
         have w5 := wrapN (show mid < 4611686018427387904 by omega)
         simp only [w5]
         cases hcc : decide (IntKind.wrap .i64 ((mid : Int) - (a : Int)) < IntKind.wrap .i64 ((b : Int) - (mid : Int))) with
         | true =>
          simp only [cond_true]
          refine UW.bind ((pdq_up k a mid lim1 n4 m1 (by omega) (by omega) hb4 (hlb4.imp id fun h p q1 q2 => h p q1 (by omega))).mono fun _ => by omega) ?_
          rintro _ ⟨n5, rfl, s1, s2⟩
          refine .inl ⟨_, rfl, ⟨mid + 1, b, lim1, _, tt, n5, rfl, by omega, by omega, h3, hsw4.trans (s1.mono h1 (by omega)), ?_⟩, by simp only [Int.toNat_natCast]; omega⟩
          have hok5 := hok4.sw h1 h3 (by omega) (s1.mono (Nat.le_refl _) (by omega))
          have ho : ∀ p, mid ≤ p → atF' n5 p = atF' n4 p := fun p hp => s1.out (by omega) (.inr hp)
          have hm : ∀ p, a ≤ p → p < mid → le (atF' n5 p) (atF' n5 mid) := fun p q1 q2 => by
           rw [ho mid (Nat.le_refl _)]
           exact s1.all (by omega) (P := fun x => le x (atF' n4 mid)) m4 p q1 q2
          have hr : ∀ q, mid < q → q < b → le (atF' n5 mid) (atF' n5 q) := fun q q1 q2 => by
           rw [ho mid (Nat.le_refl _), ho q (by omega)]; exact m5 q q1 q2
          intro p q q1 q2 q3 q4
          by_cases hin : a ≤ p ∧ q < b
          ·by_cases c1 : q < mid
           ·exact s2 p q hin.1 q2 c1
           ·by_cases c2 : q = mid
            ·subst c2; exact hm p hin.1 q2
            ·by_cases c3 : p = mid
             ·subst c3; exact hr q q2 hin.2
             ·exact le_trans' (hm p hin.1 (by omega)) (hr q (by omega) hin.2)
          ·exact hok5 p q q1 q2 q3 hin
         | false =>
          simp only [cond_false]
          refine UW.bind ((pdq_up k (mid + 1) b lim1 n4 (by omega) (by omega) (by omega) hb4 (.inr fun p q1 q2 => m5 p (by omega) q2)).mono fun _ => by omega) ?_
          rintro _ ⟨n5, rfl, s1, s2⟩
          refine .inl ⟨_, rfl, ⟨a, mid, lim1, _, tt, n5, rfl, h1, m1, by omega, hsw4.trans (s1.mono (by omega) h3), ?_⟩, by simp only [Int.toNat_natCast]; omega⟩
          have hok5 := hok4.sw h1 h3 (by omega) (s1.mono (by omega) (Nat.le_refl _))
          have ho : ∀ p, p ≤ mid → atF' n5 p = atF' n4 p := fun p hp => s1.out (by omega) (.inl (by omega))
          have hm : ∀ p, a ≤ p → p < mid → le (atF' n5 p) (atF' n5 mid) := fun p q1 q2 => by
           rw [ho mid (Nat.le_refl _), ho p (by omega)]; exact m4 p q1 q2
          have hr : ∀ q, mid < q → q < b → le (atF' n5 mid) (atF' n5 q) := fun q q1 q2 => by
           rw [ho mid (Nat.le_refl _)]
           exact s1.all (by omega) (P := fun x => le (atF' n4 mid) x) (fun p r1 r2 => m5 p (by omega) r2) q (by omega) q2
          intro p q q1 q2 q3 q4
          by_cases hin : a ≤ p ∧ q < b
          ·by_cases c1 : mid < p
           ·exact s2 p q (by omega) q2 hin.2
           ·by_cases c3 : p = mid
            ·subst c3; exact hr q q2 hin.2
            ·by_cases c2 : q = mid
             ·subst c2; exact hm p hin.1 q2
             ·exact le_trans' (hm p hin.1 (by omega)) (hr q (by omega) hin.2)
          ·exact hok5 p q q1 q2 q3 hin
        have i3 : ixOK (pv2 : Int) n3.length = true := ixOK_iff.2 (by omega)
        have i4 : decide (pv2 < n3.length) = true := by apply decide_eq_true; omega
        by_cases ha : a = 0
        ·subst ha
         have e1 : decide (((0 : Nat) : Int) > 0) = false := by simp
         simp only [e1, Bool.not_false, Bool.or_true, cond_true, cond_false, Option.bind_some]
         exact part
        ·have e1 : decide ((a : Int) > 0) = true := by apply decide_eq_true; omega
         have i1 : ixOK ((a - 1 : Nat) : Int) n3.length = true := ixOK_iff.2 (by omega)
         have i2 : decide (a - 1 < n3.length) = true := by apply decide_eq_true; omega
         have hcmp : L_compare (n3.getD (a - 1) (Fm.mk 0 0 [] [])) (n3.getD pv2 (Fm.mk 0 0 [] [])) = some (cmpF (atF' n3 (a - 1)) (atF' n3 pv2)) := compare_val (bigAll_at hb3 (by omega))
         simp only [e1, wrapS (show a < 4611686018427387904 by omega) (show 0 < a by omega), i1, i2, i3, i4, hcmp, cond_true, Bool.true_or, Int.toNat_natCast, Fm.eta_eq, Option.bind_some]
         by_cases hlt : cmpF (atF' n3 (a - 1)) (atF' n3 pv2) < 0
         ·simp only [hlt, decide_true, Bool.not_true, cond_false]
          exact part
         ·simp only [hlt, decide_false, Bool.not_false, cond_true]
          refine UW.bind (.inl (partEq_val r1 r2 (by omega) (by omega) (by omega) hb3)) ?_
          rintro _ ⟨mid, n4, rfl, m1, m2, m3, m4, m5⟩
          refine .inl ⟨_, rfl, ⟨mid, b, lim1, t, u, n4, rfl, by omega, m2, h3, hsw3.trans (m3.mono h1 h3), ?_⟩, by simp only [Int.toNat_natCast]; omega⟩
          have hok4 := hok3.sw h1 h3 (by omega) m3
          have hlb4 := (hlb3.sw (by omega) m3).resolve_left ha
          have hout : atF' n4 (a - 1) = atF' n3 (a - 1) := m3.out (by omega) (.inl (by omega))
          have hall : ∀ p q, a ≤ p → p < mid → a ≤ q → q < b → le (atF' n4 p) (atF' n4 q) := fun p q q1 q2 q3 q4 =>
           le_trans' (m4 p q1 q2) (le_trans' (hout ▸ le_of_not_lt hlt) (hlb4 q q3 q4))
          intro p q q1 q2 q3 q4
          by_cases hin : a ≤ p ∧ q < b
          ·exact hall p q hin.1 (by omega) (by omega) hin.2
          ·exact hok4 p q q1 q2 q3 hin
       ·exact .inl ⟨_, rfl, done n3 hs3 hsrt⟩
theorem pdq_val {l : List Fm} (hln : l.length < 256) (hbig : bigAll l) (lim : Int) : ∃ m, L_pdq 0 (l.length : Int) lim l = some ((), (m, ())) ∧ SW 0 l.length l m ∧ Srt 0 l.length m := by
 have h := fun k => pdq_up k 0 l.length lim l (Nat.zero_le _) (Nat.le_refl _) hln hbig (.inl rfl)
 have hex : ∃ k r, G_pdq k 0 (l.length : Int) lim l = some r := by
  rcases h (l.length + 1) with ⟨r, hr, _⟩ | ⟨_, hn⟩
  ·exact ⟨_, r, hr⟩
  ·omega
 cases hL : L_pdq 0 (l.length : Int) lim l with
 | none =>
  exfalso
  unfold L_pdq limF at hL
  split at hL
  ·cases hL
  ·rename_i h' _
   obtain ⟨k, r, hr⟩ := hex
   exact h' ⟨r, k, hr⟩
 | some r =>
  obtain ⟨k, hk⟩ := limF_ex hL
  rcases h k with ⟨r', hr', m, rfl, q1, q2⟩ | ⟨hn, _⟩
  ·have : r = ((), (m, ())) := Option.some.inj (hk.symm.trans hr')
   subst this
   exact ⟨m, rfl, q1, q2⟩
  ·rw [show G_pdq k 0 (l.length : Int) lim l = none from hn] at hk; cases hk
end Go.Ab

set_option maxRecDepth 100000
namespace Go.Ab
open Go Go.RowKit Go.Proofs
theorem blen_val {n : Nat} (h : n < 256) : ∃ r, G_blen (n : Int) = some r := by
 have : ∀ i : Fin 256, (G_blen (i.val : Int)).isSome = true := by decide +kernel
 have h1 := this ⟨n, h⟩
 exact Option.isSome_iff_exists.1 h1
theorem sortFunc_val {l : List Fm} (hln : l.length < 256) (hbig : bigAll l) : ∃ m, G_sortFunc l = some ((), (m, ())) ∧ SW 0 l.length l m ∧ Srt 0 l.length m := by
 obtain ⟨r, hr⟩ := blen_val hln
 obtain ⟨m, h1, h2, h3⟩ := pdq_val hln hbig r
 refine ⟨m, ?_, h2, h3⟩
 unfold G_sortFunc
 rw [u64_id (by omega) (by omega), hr]
 simp only [Option.bind_some, h1]
theorem sortFunc_sorted {l : List Fm} (hln : l.length < 256) (hbig : bigAll l) : ∃ m, G_sortFunc l = some ((), (m, ())) ∧ m.length = l.length ∧ (∀ f, f ∈ m ↔ f ∈ l) ∧ m.Pairwise le := by
 obtain ⟨m, h1, h2, h3⟩ := sortFunc_val hln hbig
 refine ⟨m, h1, h2.length, fun f => h2.mem (Nat.le_refl _) f, ?_⟩
 rw [List.pairwise_iff_getElem]
 intro i j hi hj hij
 have hlen := h2.length
 have := h3 i j (Nat.zero_le _) hij (by omega)
 unfold atF' at this
 rwa [getD_in hi, getD_in hj] at this
#print axioms sortFunc_sorted
end Go.Ab

namespace Go.Ab
open Go
def ltF (f g : Fm) : Prop := cmpF f g < 0
def eqF (f g : Fm) : Prop := cmpF f g = 0
theorem eqF.symm {f g : Fm} (h : eqF f g) : eqF g f := by unfold eqF at *; rw [cmpF_neg f g, h]; rfl
theorem eqF.trans {f g h : Fm} (h1 : eqF f g) (h2 : eqF g h) : eqF f h := by unfold eqF at *; rw [cmpF_eq_l h1, h2]
theorem le_antisymm' {f g : Fm} (h1 : le f g) (h2 : le g f) : eqF f g := by
 unfold le eqF at *
 rw [cmpF_neg f g] at h2
 omega
def eqAllF : List Fm → List Fm → Prop
 | [], [] => True
 | f :: x, g :: y => eqF f g ∧ eqAllF x y
 | _, _ => False
theorem strict_unique : ∀ x y : List Fm, x.Pairwise ltF → y.Pairwise ltF → (∀ f ∈ x, ∃ g ∈ y, eqF f g) → (∀ g ∈ y, ∃ f ∈ x, eqF g f) → eqAllF x y
 | [], [], _, _, _, _ => trivial
 | [], g :: y, _, _, _, h => by obtain ⟨f, hf, _⟩ := h g (by simp); cases hf
 | f :: x, [], _, _, h, _ => by obtain ⟨g, hg, _⟩ := h f (by simp); cases hg
 | f :: x, g :: y, hx, hy, h1, h2 => by
  rw [List.pairwise_cons] at hx hy
  have hfg : eqF f g := by
   have a1 : le g f := by
    obtain ⟨g', hg', e⟩ := h1 f (by simp)
    have e' : le g' f := by have := e.symm; unfold eqF at this; unfold le; omega
    rcases List.mem_cons.1 hg' with rfl | hm
    ·exact e'
    ·exact le_trans' (le_of_lt' (hy.1 g' hm)) e'
   have a2 : le f g := by
    obtain ⟨f', hf', e⟩ := h2 g (by simp)
    have e' : le f' g := by have := e.symm; unfold eqF at this; unfold le; omega
    rcases List.mem_cons.1 hf' with rfl | hm
    ·exact e'
    ·exact le_trans' (le_of_lt' (hx.1 f' hm)) e'
   exact le_antisymm' a2 a1
  refine ⟨hfg, strict_unique x y hx.2 hy.2 (fun f' hf' => ?_) (fun g' hg' => ?_)⟩
  ·obtain ⟨g', hg', e⟩ := h1 f' (by simp [hf'])
   rcases List.mem_cons.1 hg' with rfl | hm
   ·exfalso
    have h3 := hx.1 f' hf'
    have h4 := hfg.trans e.symm
    unfold ltF at h3
    unfold eqF at h4
    omega
   ·exact ⟨g', hm, e⟩
  ·obtain ⟨f', hf', e⟩ := h2 g' (by simp [hg'])
   rcases List.mem_cons.1 hf' with rfl | hm
   ·exfalso
    have h3 := hy.1 g' hg'
    have h4 := hfg.symm.trans e.symm
    unfold ltF at h3
    unfold eqF at h4
    omega
   ·exact ⟨f', hm, e⟩
end Go.Ab

set_option maxRecDepth 100000
namespace Go.Ab
open Go Go.RowKit Go.Proofs
theorem loop_val {L R A : Type} {b : L → Option (Step L R)} {F : R → Option A} {v : A} (st : Nat → L) (n : Nat)
  (hstep : ∀ i, i < n → b (st i) = some (.next (st (i + 1))) ∨ ∃ r, b (st i) = some (.done r) ∧ F r = some v)
  (hend : ∃ r, b (st n) = some (.done r) ∧ F r = some v) : Option.bind (loopM b (st 0)) F = some v := by
 refine Up.get (loop_ix (N := False) st (fun _ => v) n (fun i hi => ?_) ?_)
 ·rcases hstep i hi with h | ⟨r, h1, h2⟩
  ·exact .inl ⟨h, rfl⟩
  ·exact .inr (.inl ⟨r, h1, .of h2⟩)
 ·obtain ⟨r, h1, h2⟩ := hend
  exact ⟨r, h1, .of h2⟩
theorem loop_val0 {L R A : Type} {b : L → Option (Step L R)} {F : R → Option A} {v : A} {l0 : L} (st : Nat → L) (n : Nat) (h0 : st 0 = l0)
  (hstep : ∀ i, i < n → b (st i) = some (.next (st (i + 1))) ∨ ∃ r, b (st i) = some (.done r) ∧ F r = some v)
  (hend : ∃ r, b (st n) = some (.done r) ∧ F r = some v) : Option.bind (loopM b l0) F = some v := by
 subst h0; exact loop_val st n hstep hend
theorem bind_loop {L R A : Type} {b : L → Option (Step L R)} {l0 : L} {F : R → Option A} {v : A} (I : L → Prop) (μ : L → Nat)
  (h : ∀ l, I l → (∃ l', b l = some (.next l') ∧ I l' ∧ μ l' < μ l) ∨ ∃ r, b l = some (.done r) ∧ F r = some v) (h0 : I l0) : Option.bind (loopM b l0) F = some v := by
 obtain ⟨r, h1, h2⟩ := loop_wp I μ (fun r => F r = some v) (fun l hl => h l hl) l0 h0
 rw [h1]; exact h2
theorem rel_agg_list {kn : Kn} {m : Mp} {cs : List AV} {v : Value} (h : Rel kn m (.agg cs) v) : ∃ us, RelL kn m cs us ∧ ∀ ds, RelL kn m ds us → Rel kn m (.agg ds) v := by
 cases h with
 | agg _ vs hl hr h1 =>
  exact ⟨vs.toList, ⟨by simpa using hl, fun i x v a b => hr i x v a (by simpa using b)⟩, fun ds this => .agg ds vs (by simpa using this.1) (fun i x v a b => this.2 i x v a (by simpa using b)) h1⟩
theorem copies_val {l : List Fm} (h : ∀ f ∈ l, copyU f = some f) (hl : l.length ≤ 2000000000000) : G_copies l = some l := by
 unfold G_copies
 have e0 : decide ((0 : Int) ≤ (l.length : Int) ∧ ((l.length : Int) : Int) ≤ (l.length : Int) ∧ ((l.length : Int) : Int) * 56 ≤ 281474976710656) = true := by
  apply decide_eq_true; omega
 simp only [e0, cond_true]
 refine loop_val (fun i => (((), l, (l.length : Int), (i : Int), ()), (l.take i ++ List.replicate (l.length - i) (Fm.mk 0 0 [] []), ()))) l.length (fun i hi => ?_) ?_
 ·have e1 : decide ((i : Int) < (l.length : Int)) = true := by simp [hi]
  have e2 : ixOK (i : Int) l.length = true := ixOK_iff.2 (by omega)
  have e3 : (l.take i ++ List.replicate (l.length - i) (Fm.mk 0 0 [] [])).length = l.length := by simp; omega
  have e4 : decide (i < l.length) = true := by simp [hi]
  have e5 : (l.take i ++ List.replicate (l.length - i) (Fm.mk 0 0 [] [])).set i l[i] = l.take (i + 1) ++ List.replicate (l.length - (i + 1)) (Fm.mk 0 0 [] []) := by
   have ht : (l.take i).length = i := by simp; omega
   rw [List.set_append_right _ _ (by omega), ht, Nat.sub_self, show l.length - i = (l.length - (i + 1)) + 1 by omega, List.replicate_succ, List.set_cons_zero, List.take_succ_eq_append_getElem hi, List.append_assoc]
   rfl
  refine .inl ?_
  simp only [e1, e2, e3, e4, cond_true, Int.toNat_natCast, getD_in hi, Fm.eta_eq, h _ (List.getElem_mem hi), Option.bind_some, e5, wrapN (show i < 4611686018427387904 by omega)]
 ·exact ⟨_, by simp; rfl, by simp⟩
theorem copyNe_val {f : Fm} (hn : f.l ≠ []) (h : ∀ g ∈ f.l, copyU g = some g) (hl : f.l.length ≤ 2000000000000) : G_copyNe f = some f := by
 unfold G_copyNe
 have : f.l.isEmpty = false := by cases hx : f.l <;> simp_all
 rw [this, copies_val h hl]
 exact congrArg some (Fm.eta_eq f)
theorem copyU_val : ∀ f : Fm, f.big ≤ 2000000000000 → copyU f = some f := Fm.ind fun k n t l ih hb => by
 have hl := length_le_big l
 have hbl : Fm.bigL l ≤ 2000000000000 := by have := big_kids (.mk k n t l); simp only [Fm.l] at this; omega
 have hk : ∀ g ∈ l, copyU g = some g := fun g hg => ih g hg (by have := big_mem hg; omega)
 by_cases hn : l = []
 ·subst hn
  refine copyU_of fun kn w vs h1 h2 => ?_
  obtain ⟨v, vs1, rfl, hv, hvs⟩ := RelL.uncons h2
  have : vs1 = [] := List.eq_nil_of_length_eq_zero hvs.1.symm
  subst this
  have hv : Rel kn m0 (.agg [.int .i64 k, .int .i64 n, .str t, .tvec .form []]) v := hv
  obtain ⟨us, q1, hback⟩ := rel_agg_list hv
  obtain ⟨a, us1, rfl, r1, q2⟩ := q1.uncons
  obtain ⟨b, us2, rfl, r2, q3⟩ := q2.uncons
  obtain ⟨c, us3, rfl, r3, q4⟩ := q3.uncons
  obtain ⟨d, us4, rfl, r4, q5⟩ := q4.uncons
  have key : ∀ x : AV, Rel kn m0 x d → RelL kn m0 [.agg [.int .i64 k, .int .i64 n, .str t, x]] [v] := fun x hx =>
   .cons (hback _ (.cons r1 (.cons r2 (.cons r3 (.cons hx q5))))) (.nil _ _)
  have e1 : G_copyNil (k, n, t, (), ()) = some (.mk k n t []) := rfl
  have e2 : G_copyEmp (k, n, t, (), ()) = some (.mk k n t []) := by
   unfold G_copyEmp
   rw [copies_val (fun f hf => by cases hf) (by simp)]; rfl
  have r4 := rel_tvec.1 r4
  generalize hrows : List.map (E.row .form) ([] : List Fm) = rows at r4
  cases r4 with
  | vecNil _ a cap => exact (S_copyEmp_ok a cap) ((k, n, t, (), ()), ()) _ e2 kn w _ h1 (key _ (.base _))
  | vecNone => exact S_copyNil_ok ((k, n, t, (), ()), ()) _ e1 kn w _ h1 (key _ (.base _))
  | vec _ _ b o cap vals =>
   subst hrows
   exact (S_copyEmp_ok ⟨b, o, none⟩ cap) ((k, n, t, (), ()), ()) _ e2 kn w _ h1 (key _ (.base _))
 ·have := S_copyNe_ok (.mk k n t l, ()) (.mk k n t l) (copyNe_val (f := .mk k n t l) hn hk (by simp only [Fm.l]; omega))
  exact copyU_of this
end Go.Ab
