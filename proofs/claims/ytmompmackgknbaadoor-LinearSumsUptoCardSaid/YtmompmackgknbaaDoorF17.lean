/-
  THE REFERENCE's sums: products, and sums added.
-/
import Derived.Test.YtmompmackgknbaaDoorF16
import Derived.Test.YtmompmackgknbaaDoorF14
set_option linter.unusedVariables false
set_option linter.unusedSimpArgs false
set_option maxRecDepth 100000
namespace Go.Ab
open Go Go.RowKit Go.Proofs

/-! ### Heads -/
theorem refHead_call (f : Fm) : PCall CX 46 [f.av] (· = .ret (.str f.head)) := by
  obtain ⟨k, n, t, nl, l⟩ := f
  cases l with
  | nil =>
    have hh : Fm.head (.mk k n t nl []) = [] := by simp [Fm.head, Fm.kids, Fm.l]
    rw [hh]
    refine pcall_mk 0 25 [.tmp 2] Tryd.func46 rfl (by decide) rfl rfl rfl ?_
    simp only [go_sem]
    refine aw_sreg {} rfl rfl fun K KP hK hP => ?_
    simp only [go_sem, ↓reduceIte]
    apply hK; clear hK hP
    refine aw_seq ?_
    refine aw_sregB {} 3 18 19 (.bool (decide (True))) rfl rfl rfl (fun K KP hK hP => ?_) (fun junk1 => ?_)
    ·
      simp only [go_sem, ↓reduceIte]
      repeat' (first | (refine hK _ (by first | rfl | (simp only [go_sem, ↓reduceIte]; done) | (simp only [go_sem, ↓reduceIte, *]; done)) rfl ?_) | ((refine gsel_cases (fun h => ?_) (fun h => ?_) <;> (try simp only [Bool.not_eq_true', Bool.not_eq_false', Bool.not_not, decide_eq_true_eq, decide_eq_false_iff_not, ite_eq_left_iff, ite_eq_right_iff] at h)) <;> simp only [go_sem, ↓reduceIte, *]) | (simp only [go_sem, ↓reduceIte]))
      all_goals (
          try simp only [go_sem, ↓reduceIte]
          all_goals first | (simp_all [List.length_pos_iff]; done) | (simp_all; omega))
    ·
      refine aw_if (True) (by simp only [go_sem, ↓reduceIte]) (fun h1 => ?_) (fun h1 => ?_)
      ·
        refine aw_sreg {} rfl rfl fun K KP hK hP => ?_
        simp only [go_sem, ↓reduceIte]
        apply hK; clear hK hP
        refine aw_ret ?_
        refine athen_ret.2 ?_
        simp only [go_sem, ↓reduceIte, athen_ret]
      ·
        exact absurd trivial h1
  | cons g r =>
    obtain ⟨gk, gn, gt, gnl, gl⟩ := g
    have hh : Fm.head (.mk k n t nl (.mk gk gn gt gnl gl :: r)) = if k = 3 ∧ gk = 1 then gt else [] := by
      by_cases hk : k = 3
      · subst hk; simp [Fm.head, Fm.kids, Fm.k, Fm.l, Fm.t]; rfl
      · simp [Fm.head, Fm.kids, Fm.k, Fm.l, hk]
    rw [hh]
    refine pcall_mk 0 25 [.tmp 2] Tryd.func46 rfl (by decide) rfl rfl rfl ?_
    simp only [go_sem]
    refine aw_sreg {} rfl rfl fun K KP hK hP => ?_
    simp only [go_sem, ↓reduceIte, cells_mk, List.getD_cons_zero, List.map_cons]
    apply hK; clear hK hP
    refine aw_seq ?_
    refine aw_sregB {} 3 18 19 (.bool (decide (¬ (k = 3 ∧ gk = 1)))) rfl rfl rfl (fun K KP hK hP => ?_) (fun junk1 => ?_)
    ·
      simp only [go_sem, ↓reduceIte, cells_mk, List.getD_cons_zero, List.map_cons]
      repeat' (first | (refine hK _ (by first | rfl | (simp only [go_sem, ↓reduceIte, cells_mk, List.getD_cons_zero, List.map_cons]; done) | (simp only [go_sem, ↓reduceIte, cells_mk, List.getD_cons_zero, List.map_cons, *]; done)) rfl ?_) | ((refine gsel_cases (fun h => ?_) (fun h => ?_) <;> (try simp only [Bool.not_eq_true', Bool.not_eq_false', Bool.not_not, decide_eq_true_eq, decide_eq_false_iff_not, ite_eq_left_iff, ite_eq_right_iff] at h)) <;> simp only [go_sem, ↓reduceIte, cells_mk, List.getD_cons_zero, List.map_cons, *]) | (simp only [go_sem, ↓reduceIte, cells_mk, List.getD_cons_zero, List.map_cons]))
      all_goals (
          try simp only [go_sem, ↓reduceIte, cells_mk, List.getD_cons_zero, List.map_cons]
          all_goals first | (simp_all [List.length_pos_iff]; done) | (simp_all; omega))
    ·
      refine aw_if (¬ (k = 3 ∧ gk = 1)) (by simp only [go_sem, ↓reduceIte, cells_mk, List.getD_cons_zero, List.map_cons]) (fun h1 => ?_) (fun h1 => ?_)
      ·
        refine aw_sreg {} rfl rfl fun K KP hK hP => ?_
        simp only [go_sem, ↓reduceIte, cells_mk, List.getD_cons_zero, List.map_cons]
        apply hK; clear hK hP
        refine aw_ret ?_
        refine athen_ret.2 ?_
        simp only [go_sem, ↓reduceIte, cells_mk, List.getD_cons_zero, List.map_cons, athen_ret] <;> (
          simp [h1])
      ·
        refine aw_skip ?_
        refine athen_normal.2 ?_
        refine aw_sreg {} rfl rfl fun K KP hK hP => ?_
        simp only [go_sem, ↓reduceIte, cells_mk, List.getD_cons_zero, List.map_cons]
        apply hK; clear hK hP
        refine aw_ret ?_
        simp only [go_sem, ↓reduceIte, cells_mk, List.getD_cons_zero, List.map_cons, athen_ret] <;> (
          rw [if_pos (Classical.not_not.1 h1)])

/-! ### Numbers -/
def absR (n : Int) : Int := if n = -9223372036854775808 then 9223372036854775807 else (n.natAbs : Int)
theorem size_call (n : Int) (h : -9223372036854775808 ≤ n) (h' : n ≤ 9223372036854775807) : PCall CX 53 [.int .i64 n] (· = .ret (.int .i64 (absR n))) := by
  refine pcall_mk 0 12 [.tmp 2] Tryd.func53 rfl (by decide) rfl rfl rfl ?_
  refine aw_sreg {} rfl rfl fun K KP hK hP => ?_
  simp only [go_sem, ↓reduceIte]
  apply hK; clear hK hP
  refine aw_seq ?_
  refine aw_sreg {} rfl rfl fun K KP hK hP => ?_
  simp only [go_sem, ↓reduceIte]
  apply hK; clear hK hP
  refine aw_if (n < 0) (by simp only [go_sem, ↓reduceIte]) (fun h1 => ?_) (fun h1 => ?_)
  ·
    have hw1 : IntKind.wrap .i64 (n + 1) = n + 1 := wrap64 (by omega) (by omega)
    have hw2 : IntKind.wrap .i64 (0 - (n + 1)) = 0 - (n + 1) := wrap64 (by omega) (by omega)
    have hw3 : (if IntKind.wrap .i64 (0 - n) < 0 - (n + 1) then 0 - (n + 1) else IntKind.wrap .i64 (0 - n)) = absR n := by
      by_cases hm : n = -9223372036854775808
      · subst hm; decide
      · rw [wrap64 (by omega) (by omega)]; unfold absR; rw [if_neg hm]; split <;> omega
    refine aw_sreg {} rfl rfl fun K KP hK hP => ?_
    simp only [go_sem, ↓reduceIte, hw1, hw2]
    apply hK; clear hK hP
    refine aw_ret ?_
    refine athen_ret.2 ?_
    simp only [go_sem, ↓reduceIte, hw1, hw2, athen_ret] <;> (
      simp only [gt_iff_lt, hw3])
  ·
    refine aw_skip ?_
    refine athen_normal.2 ?_
    refine aw_sreg {} rfl rfl fun K KP hK hP => ?_
    simp only [go_sem, ↓reduceIte]
    apply hK; clear hK hP
    refine aw_ret ?_
    simp only [go_sem, ↓reduceIte, athen_ret] <;> (
      simp only [absR]; rw [if_neg (by omega)]; congr 2; omega)
theorem small34_call (n : Int) : PCall CX 48 [.int .i64 n] (· = .ret (.bool (within n))) := by
  refine pcall_mk 0 9 [.tmp 2] Tryd.func48 rfl (by decide) rfl rfl rfl ?_
  refine aw_sreg {} rfl rfl fun K KP hK hP => ?_
  simp only [go_sem, ↓reduceIte]
  apply hK; clear hK hP
  refine aw_sregB {} 3 8 2 (.bool (decide (-1152921504606846976 ≤ n ∧ n ≤ 1152921504606846976))) rfl rfl rfl (fun K KP hK hP => ?_) (fun junk1 => ?_)
  ·
    simp only [go_sem, ↓reduceIte]
    repeat' (first | (refine hK _ (by first | rfl | (simp only [go_sem, ↓reduceIte]; done) | (simp only [go_sem, ↓reduceIte, *]; done)) rfl ?_) | ((refine gsel_cases (fun h => ?_) (fun h => ?_) <;> (try simp only [Bool.not_eq_true', Bool.not_eq_false', Bool.not_not, decide_eq_true_eq, decide_eq_false_iff_not, ite_eq_left_iff, ite_eq_right_iff] at h)) <;> simp only [go_sem, ↓reduceIte, *]) | (simp only [go_sem, ↓reduceIte]))
    all_goals (
        try simp only [go_sem, ↓reduceIte]
        all_goals first | (simp_all [List.length_pos_iff]; done) | (simp_all; omega))
  ·
    refine aw_ret ?_
    simp only [go_sem, ↓reduceIte, athen_ret] <;> (
      simp [within])

theorem times_absR {a b : Int} (ha : a ≠ 0) (ha' : -1152921504606846976 ≤ a) (ha'' : a ≤ 1152921504606846976) (hb : -9223372036854775808 ≤ b) (hb' : b ≤ 9223372036854775807) : (1152921504606846976 / absR a < absR b) = (1152921504606846976 < a.natAbs * b.natAbs) := by
  have h1 : absR a = a.natAbs := by unfold absR; rw [if_neg (by omega)]
  rw [h1]
  have hp : 0 < a.natAbs := by omega
  apply propext
  have key : ∀ m : Nat, (1152921504606846976 / (a.natAbs : Int) < (m : Int)) ↔ 1152921504606846976 < a.natAbs * m := by
    intro m
    have e : (1152921504606846976 : Int) / (a.natAbs : Int) = ((1152921504606846976 / a.natAbs : Nat) : Int) := (Int.natCast_ediv 1152921504606846976 a.natAbs).symm
    rw [e]
    rw [Int.ofNat_lt, Nat.div_lt_iff_lt_mul hp, Nat.mul_comm]
  by_cases hm : b = -9223372036854775808
  · subst hm
    have h2 : absR (-9223372036854775808) = ((9223372036854775807 : Nat) : Int) := by decide
    rw [h2, key]
    have h3 : (-9223372036854775808 : Int).natAbs = 9223372036854775808 := by decide
    rw [h3]
    have := Nat.mul_le_mul_right 9223372036854775807 (show 1 ≤ a.natAbs by omega)
    have := Nat.mul_le_mul_right 9223372036854775808 (show 1 ≤ a.natAbs by omega)
    omega
  · have h2 : absR b = (b.natAbs : Int) := by unfold absR; rw [if_neg hm]
    rw [h2, key]
theorem absR_pos {a : Int} (ha : a ≠ 0) : 0 < absR a := by unfold absR; split <;> omega
theorem absR_le {a : Int} (h : -9223372036854775808 ≤ a) (h' : a ≤ 9223372036854775807) : absR a ≤ 9223372036854775807 := by unfold absR; split <;> omega
def timesR (a b : Int) : AV := .tup [.int .i64 ((timesS a b).getD 0), .bool (timesS a b).isSome]
theorem refTimes_call (a b : Int) (ha : -1152921504606846976 ≤ a) (ha' : a ≤ 1152921504606846976) (hb : -9223372036854775808 ≤ b) (hb' : b ≤ 9223372036854775807) : PCall CX 74 [.int .i64 a, .int .i64 b] (· = .ret (timesR a b)) := by
  refine pcall_mk 0 19 [.tmp 4, .tmp 5] Tryd.func74 rfl (by decide) rfl rfl rfl ?_
  refine aw_sreg {} rfl rfl fun K KP hK hP => ?_
  simp only [go_sem, ↓reduceIte]
  apply hK; clear hK hP
  refine aw_seq ?_
  refine aw_sregB {} 6 14 15 (.bool (!(timesS a b).isSome)) rfl rfl rfl (fun K KP hK hP => ?_) (fun junk1 => ?_)
  ·
    by_cases c1_0 : a = 0
    ·
      simp only [go_sem, ↓reduceIte, c1_0]
      refine hK _ (by first | rfl | (simp only [go_sem, ↓reduceIte, c1_0])) rfl ?_
      subst c1_0; simp only [go_sem, ↓reduceIte, Nat.reduceEqDiff]; simp [timesS]
    ·
      have hpos := absR_pos c1_0
      have hle := absR_le hb hb'
      have hla : absR a ≤ 9223372036854775807 := absR_le (by omega) (by omega)
      have hne : ¬ absR a = 0 := by omega
      have hq := Int.ediv_nonneg (show (0 : Int) ≤ 1152921504606846976 by decide) (show 0 ≤ absR a by omega)
      have hq2 := Int.ediv_le_self (a := 1152921504606846976) (absR a) (by decide)
      have htd : Int.tdiv 1152921504606846976 (absR a) = 1152921504606846976 / absR a := Int.tdiv_eq_ediv_of_nonneg (by decide)
      have hwq : IntKind.wrap .i64 (Int.tdiv 1152921504606846976 (absR a)) = 1152921504606846976 / absR a := by rw [htd]; exact wrap64 (by omega) (by omega)
      simp only [go_sem, ↓reduceIte, c1_0, hne, hwq]
      refine CallP.ret (size_call b hb hb') (by simp only [go_sem]) ?_
      try simp only [go_sem, ↓reduceIte, c1_0, hne, hwq]
      refine CallP.ret (size_call a (by omega) (by omega)) (by simp only [go_sem]) ?_
      try simp only [go_sem, ↓reduceIte, c1_0, hne, hwq]
      refine hK _ (by first | rfl | (simp only [go_sem, ↓reduceIte, c1_0, hne, hwq])) rfl ?_
      simp only [go_sem, ↓reduceIte, Nat.reduceEqDiff, hwq]; simp only [gt_iff_lt, times_absR c1_0 ha ha' hb hb']; unfold timesS; split <;> rename_i hq <;> simp only [hq, decide_true, decide_false, Option.isSome_none, Option.isSome_some, Bool.not_false, Bool.not_true]
  ·
    refine aw_if (timesS a b = none) (by simp only [go_sem, ↓reduceIte, Nat.reduceEqDiff]; cases timesS a b <;> simp) (fun h1 => ?_) (fun h1 => ?_)
    ·
      refine aw_sreg {} rfl rfl fun K KP hK hP => ?_
      simp only [go_sem, ↓reduceIte]
      apply hK; clear hK hP
      refine aw_ret ?_
      refine athen_ret.2 ?_
      simp only [go_sem, ↓reduceIte, athen_ret] <;> (
        simp [timesR, h1])
    ·
      obtain ⟨x, hx⟩ := Option.ne_none_iff_exists'.1 h1
      have hxb := timesS_some hx
      have hw : IntKind.wrap .i64 (a * b) = x := by rw [← hxb.1]; exact wrap64 (by omega) (by omega)
      refine aw_skip ?_
      refine athen_normal.2 ?_
      refine aw_sreg {} rfl rfl fun K KP hK hP => ?_
      simp only [go_sem, ↓reduceIte, hw]
      apply hK; clear hK hP
      refine aw_ret ?_
      simp only [go_sem, ↓reduceIte, hw, athen_ret] <;> (
        simp [timesR, hx])
end Go.Ab
