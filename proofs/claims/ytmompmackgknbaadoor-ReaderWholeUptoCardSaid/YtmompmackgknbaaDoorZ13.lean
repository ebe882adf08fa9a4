/-
  LINEAR: products of words, and numbers within bounds.
-/
import Derived.Test.YtmompmackgknbaaDoorZ12
import Derived.Laws.Bits64b
set_option linter.unusedVariables false
set_option linter.unusedSimpArgs false
set_option maxRecDepth 100000
namespace Go.Ab
open Go Go.RowKit Go.Proofs

theorem wrapU {z : Nat} (h : z < 18446744073709551616) : IntKind.wrap .u64 (z : Int) = z := by
  simp [IntKind.wrap, IntKind.bits, IntKind.signed]; omega
theorem and32 (n : Nat) (h : n < 18446744073709551616) : Go.bits .and .u64 (n : Int) 4294967295 = ((n % 4294967296 : Nat) : Int) := by
  have := bits_and_u64_nat n 4294967295 h (by decide)
  rw [show ((4294967295 : Nat) : Int) = 4294967295 from rfl] at this
  rw [this]
  congr 1
  exact Nat.and_two_pow_sub_one_eq_mod n 32
theorem shr32 (n : Nat) : (n : Int) / 2 ^ 32 = ((n / 4294967296 : Nat) : Int) := by
  have : (2 : Int) ^ 32 = ((4294967296 : Nat) : Int) := by decide
  rw [this]; rfl
theorem cast64 : ((64 : Nat) : Int) = 64 := rfl
theorem mulU {x y : Nat} (h : x * y < 18446744073709551616) : IntKind.wrap .u64 ((x : Int) * (y : Int)) = ((x * y : Nat) : Int) := by
  rw [← Int.natCast_mul]; exact wrapU h
theorem addU {x y : Nat} (h : x + y < 18446744073709551616) : IntKind.wrap .u64 ((x : Int) + (y : Int)) = ((x + y : Nat) : Int) := by
  rw [← Int.natCast_add]; exact wrapU h
theorem mulLo (x y : Nat) : IntKind.wrap .u64 ((x : Int) * (y : Int)) = ((x * y % 18446744073709551616 : Nat) : Int) := by
  rw [← Int.natCast_mul]
  simp [IntKind.wrap, IntKind.bits, IntKind.signed]
theorem low_mul {x y : Nat} (hx : x < 4294967296) (hy : y < 4294967296) : x * y ≤ 18446744065119617025 :=
  Nat.mul_le_mul (show x ≤ 4294967295 by omega) (show y ≤ 4294967295 by omega)
theorem hi_eq (a b : Nat) : a / 4294967296 * (b / 4294967296) + (a / 4294967296 * (b % 4294967296) + a % 4294967296 * (b % 4294967296) / 4294967296) / 4294967296 +
    ((a / 4294967296 * (b % 4294967296) + a % 4294967296 * (b % 4294967296) / 4294967296) % 4294967296 + a % 4294967296 * (b / 4294967296)) / 4294967296 = a * b / 18446744073709551616 := by
  have e : a * b = a / 4294967296 * (b / 4294967296) * 18446744073709551616 + (a / 4294967296 * (b % 4294967296) + a % 4294967296 * (b / 4294967296)) * 4294967296 + a % 4294967296 * (b % 4294967296) := by
    conv => lhs; rw [← Nat.div_add_mod a 4294967296, ← Nat.div_add_mod b 4294967296]
    generalize a / 4294967296 = p
    generalize a % 4294967296 = q
    generalize b / 4294967296 = r
    generalize b % 4294967296 = s
    have h1 : 4294967296 * p * (4294967296 * r) = p * r * 18446744073709551616 := by rw [Nat.mul_mul_mul_comm]; omega
    have h2 : 4294967296 * p * s = p * s * 4294967296 := by rw [Nat.mul_assoc]; omega
    have h3 : q * (4294967296 * r) = q * r * 4294967296 := by rw [Nat.mul_left_comm]; omega
    rw [Nat.add_mul, Nat.mul_add, Nat.mul_add, h1, h2, h3]
    omega
  rw [e]
  generalize a / 4294967296 * (b / 4294967296) = p
  generalize a / 4294967296 * (b % 4294967296) = q
  generalize a % 4294967296 * (b / 4294967296) = r
  generalize a % 4294967296 * (b % 4294967296) = s
  omega
theorem mul64_call (a b : Nat) (ha : a < 18446744073709551616) (hb : b < 18446744073709551616) : PCall CX 83 [.int .u64 a, .int .u64 b] (· = .ret (.tup [.int .u64 ((a * b / 18446744073709551616 : Nat) : Int), .int .u64 ((a * b % 18446744073709551616 : Nat) : Int)])) := by
  have ha0 := and32 a ha
  have hb0 := and32 b hb
  have hsa := shr32 a
  have hsb := shr32 b
  have q0 : a % 4294967296 < 4294967296 := Nat.mod_lt _ (by decide)
  have q1 : b % 4294967296 < 4294967296 := Nat.mod_lt _ (by decide)
  have q2 : a / 4294967296 < 4294967296 := by omega
  have q3 : b / 4294967296 < 4294967296 := by omega
  have m00 := low_mul q0 q1
  have m10 := low_mul q2 q1
  have m01 := low_mul q0 q3
  have m11 := low_mul q2 q3
  have w00 : IntKind.wrap .u64 (((a % 4294967296 : Nat) : Int) * ((b % 4294967296 : Nat) : Int)) = _ := mulU (by omega)
  have w10 : IntKind.wrap .u64 (((a / 4294967296 : Nat) : Int) * ((b % 4294967296 : Nat) : Int)) = _ := mulU (by omega)
  have w01 : IntKind.wrap .u64 (((a % 4294967296 : Nat) : Int) * ((b / 4294967296 : Nat) : Int)) = _ := mulU (by omega)
  have w11 : IntKind.wrap .u64 (((a / 4294967296 : Nat) : Int) * ((b / 4294967296 : Nat) : Int)) = _ := mulU (by omega)
  have s0 := shr32 (a % 4294967296 * (b % 4294967296))
  have t0 : IntKind.wrap .u64 (((a / 4294967296 * (b % 4294967296) : Nat) : Int) + ((a % 4294967296 * (b % 4294967296) / 4294967296 : Nat) : Int)) = _ := addU (by omega)
  have t1 := and32 (a / 4294967296 * (b % 4294967296) + a % 4294967296 * (b % 4294967296) / 4294967296) (by omega)
  have t2 := shr32 (a / 4294967296 * (b % 4294967296) + a % 4294967296 * (b % 4294967296) / 4294967296)
  have u0 : IntKind.wrap .u64 ((((a / 4294967296 * (b % 4294967296) + a % 4294967296 * (b % 4294967296) / 4294967296) % 4294967296 : Nat) : Int) + ((a % 4294967296 * (b / 4294967296) : Nat) : Int)) = _ := addU (by omega)
  have u1 := shr32 ((a / 4294967296 * (b % 4294967296) + a % 4294967296 * (b % 4294967296) / 4294967296) % 4294967296 + a % 4294967296 * (b / 4294967296))
  have v0 : IntKind.wrap .u64 (((a / 4294967296 * (b / 4294967296) : Nat) : Int) + (((a / 4294967296 * (b % 4294967296) + a % 4294967296 * (b % 4294967296) / 4294967296) / 4294967296 : Nat) : Int)) = _ := addU (by omega)
  have v1 : IntKind.wrap .u64 (((a / 4294967296 * (b / 4294967296) + (a / 4294967296 * (b % 4294967296) + a % 4294967296 * (b % 4294967296) / 4294967296) / 4294967296 : Nat) : Int) + ((((a / 4294967296 * (b % 4294967296) + a % 4294967296 * (b % 4294967296) / 4294967296) % 4294967296 + a % 4294967296 * (b / 4294967296)) / 4294967296 : Nat) : Int)) = _ := addU (by omega)
  have lo := mulLo a b
  have hi := hi_eq a b
  refine pcall_mk 0 51 [.tmp 4, .tmp 5] Tryd.func83 rfl (by decide) rfl rfl rfl ?_
  refine aw_sreg {} rfl rfl fun K KP hK hP => ?_
  simp only [go_sem, ↓reduceIte, ha0, hb0, hsa, hsb, w00, w10, w01, w11, s0, t0, t1, t2, u0, u1, v0, v1, lo, cast64]
  apply hK; clear hK hP
  refine aw_sreg {} rfl rfl fun K KP hK hP => ?_
  simp only [go_sem, ↓reduceIte, ha0, hb0, hsa, hsb, w00, w10, w01, w11, s0, t0, t1, t2, u0, u1, v0, v1, lo, cast64]
  apply hK; clear hK hP
  refine aw_sreg {} rfl rfl fun K KP hK hP => ?_
  simp only [go_sem, ↓reduceIte, ha0, hb0, hsa, hsb, w00, w10, w01, w11, s0, t0, t1, t2, u0, u1, v0, v1, lo, cast64]
  apply hK; clear hK hP
  refine aw_sreg {} rfl rfl fun K KP hK hP => ?_
  simp only [go_sem, ↓reduceIte, ha0, hb0, hsa, hsb, w00, w10, w01, w11, s0, t0, t1, t2, u0, u1, v0, v1, lo, cast64]
  apply hK; clear hK hP
  refine aw_sreg {} rfl rfl fun K KP hK hP => ?_
  simp only [go_sem, ↓reduceIte, ha0, hb0, hsa, hsb, w00, w10, w01, w11, s0, t0, t1, t2, u0, u1, v0, v1, lo, cast64]
  apply hK; clear hK hP
  refine aw_sreg {} rfl rfl fun K KP hK hP => ?_
  simp only [go_sem, ↓reduceIte, ha0, hb0, hsa, hsb, w00, w10, w01, w11, s0, t0, t1, t2, u0, u1, v0, v1, lo, cast64]
  apply hK; clear hK hP
  refine aw_sreg {} rfl rfl fun K KP hK hP => ?_
  simp only [go_sem, ↓reduceIte, ha0, hb0, hsa, hsb, w00, w10, w01, w11, s0, t0, t1, t2, u0, u1, v0, v1, lo, cast64]
  apply hK; clear hK hP
  refine aw_sreg {} rfl rfl fun K KP hK hP => ?_
  simp only [go_sem, ↓reduceIte, ha0, hb0, hsa, hsb, w00, w10, w01, w11, s0, t0, t1, t2, u0, u1, v0, v1, lo, cast64]
  apply hK; clear hK hP
  refine aw_sreg {} rfl rfl fun K KP hK hP => ?_
  simp only [go_sem, ↓reduceIte, ha0, hb0, hsa, hsb, w00, w10, w01, w11, s0, t0, t1, t2, u0, u1, v0, v1, lo, cast64]
  apply hK; clear hK hP
  refine aw_sreg {} rfl rfl fun K KP hK hP => ?_
  simp only [go_sem, ↓reduceIte, ha0, hb0, hsa, hsb, w00, w10, w01, w11, s0, t0, t1, t2, u0, u1, v0, v1, lo, cast64]
  apply hK; clear hK hP
  refine aw_sreg {} rfl rfl fun K KP hK hP => ?_
  simp only [go_sem, ↓reduceIte, ha0, hb0, hsa, hsb, w00, w10, w01, w11, s0, t0, t1, t2, u0, u1, v0, v1, lo, cast64]
  apply hK; clear hK hP
  refine aw_sreg {} rfl rfl fun K KP hK hP => ?_
  simp only [go_sem, ↓reduceIte, ha0, hb0, hsa, hsb, w00, w10, w01, w11, s0, t0, t1, t2, u0, u1, v0, v1, lo, cast64]
  apply hK; clear hK hP
  refine aw_ret ?_
  simp only [go_sem, ↓reduceIte, ha0, hb0, hsa, hsb, w00, w10, w01, w11, s0, t0, t1, t2, u0, u1, v0, v1, lo, cast64, athen_ret, hi]

/-! ### Numbers within bounds -/
def maxI : Int := 1152921504606846976
def within (n : Int) : Bool := decide (-1152921504606846976 ≤ n) && decide (n ≤ 1152921504606846976)
theorem within_call (n : Int) : PCall CX 66 [.int .i64 n] (· = .ret (.bool (within n))) := by
  refine pcall_mk 0 9 [.tmp 2] Tryd.func66 rfl (by decide) rfl rfl rfl ?_
  refine aw_sreg {} rfl rfl fun K KP hK hP => ?_
  simp only [go_sem, ↓reduceIte]
  apply hK; clear hK hP
  by_cases c1 : -1152921504606846976 ≤ n
  ·
    refine aw_sreg {} rfl rfl fun K KP hK hP => ?_
    simp only [go_sem, ↓reduceIte, c1]
    apply hK; clear hK hP
    refine aw_ret ?_
    simp only [go_sem, ↓reduceIte, c1, athen_ret, within]
  ·
    refine aw_sreg {} rfl rfl fun K KP hK hP => ?_
    simp only [go_sem, ↓reduceIte, c1]
    apply hK; clear hK hP
    refine aw_ret ?_
    simp only [go_sem, ↓reduceIte, c1, athen_ret, within]
/-- What is thrown where a number is beyond its bound. -/
def beyondA : AV := .iface 93 (.agg [])
def outI : Option Int → AOut
  | some n => .ret (.int .i64 n)
  | none => .pan beyondA
def wholeS (n : Int) : Option Int := if n < -1152921504606846976 ∨ 1152921504606846976 < n then none else some n
theorem whole_call (n : Int) : PCall CX 72 [.int .i64 n] (· = outI (wholeS n)) := by
  refine pcall_mk 0 12 [.tmp 2] Tryd.func72 rfl (by decide) rfl rfl rfl ?_
  refine aw_sreg {} rfl rfl fun K KP hK hP => ?_
  simp only [go_sem, ↓reduceIte]
  apply hK; clear hK hP
  refine aw_seq ?_
  by_cases c1_0 : n < -1152921504606846976
  ·
    refine aw_sreg {} rfl rfl fun K KP hK hP => ?_
    simp only [go_sem, ↓reduceIte, c1_0]
    apply hK; clear hK hP
    refine aw_if (True) (by simp only [go_sem, ↓reduceIte, c1_0]) (fun h1 => ?_) (fun h1 => ?_)
    ·
      refine aw_lreg {} rfl rfl fun K KP hK hP => ?_
      simp only [go_sem, ↓reduceIte, c1_0]
      refine ⟨_, _, rfl, hP _ _ _ fun env => ?_⟩
      simp [wholeS, outI, beyondA, go_sem, *]
    ·
      exact absurd trivial h1
  ·
    by_cases c1_1 : 1152921504606846976 < n
    ·
      refine aw_sreg {} rfl rfl fun K KP hK hP => ?_
      simp only [go_sem, ↓reduceIte, c1_0, c1_1]
      apply hK; clear hK hP
      refine aw_if (True) (by simp only [go_sem, ↓reduceIte, c1_0, c1_1]) (fun h1 => ?_) (fun h1 => ?_)
      ·
        refine aw_lreg {} rfl rfl fun K KP hK hP => ?_
        simp only [go_sem, ↓reduceIte, c1_0, c1_1]
        refine ⟨_, _, rfl, hP _ _ _ fun env => ?_⟩
        simp [wholeS, outI, beyondA, go_sem, *]
      ·
        exact absurd trivial h1
    ·
      refine aw_sreg {} rfl rfl fun K KP hK hP => ?_
      simp only [go_sem, ↓reduceIte, c1_0, c1_1]
      apply hK; clear hK hP
      refine aw_if (False) (by simp only [go_sem, ↓reduceIte, c1_0, c1_1]) (fun h1 => ?_) (fun h1 => ?_)
      ·
        exact h1.elim
      ·
        refine aw_skip ?_
        refine athen_normal.2 ?_
        refine aw_sreg {} rfl rfl fun K KP hK hP => ?_
        simp only [go_sem, ↓reduceIte, c1_0, c1_1]
        apply hK; clear hK hP
        refine aw_ret ?_
        simp only [go_sem, ↓reduceIte, c1_0, c1_1, athen_ret] <;> (
          simp [wholeS, outI, c1_0, c1_1])
def timesS (a b : Int) : Option Int := if 1152921504606846976 < a.natAbs * b.natAbs then none else some (a * b)
theorem abs_conv {a : Int} (h : -9223372036854775808 ≤ a) (h' : a ≤ 9223372036854775807) : IntKind.wrap .u64 (if IntKind.wrap .i64 (0 - a) > a then IntKind.wrap .i64 (0 - a) else a) = ((a.natAbs : Nat) : Int) := by
  by_cases hm : a = -9223372036854775808
  · subst hm; decide
  · rw [wrap64 (by omega) (by omega)]
    have : (if 0 - a > a then 0 - a else a) = ((a.natAbs : Nat) : Int) := by split <;> omega
    rw [this]
    exact wrapU (by omega)
theorem times_call (a b : Int) (ha : -9223372036854775808 ≤ a) (ha' : a ≤ 9223372036854775807) (hb : -9223372036854775808 ≤ b) (hb' : b ≤ 9223372036854775807) : PCall CX 73 [.int .i64 a, .int .i64 b] (· = outI (timesS a b)) := by
  have ea := abs_conv ha ha'
  have eb := abs_conv hb hb'
  refine pcall_mk 0 32 [.tmp 4] Tryd.func73 rfl (by decide) rfl rfl rfl ?_
  refine aw_sreg {} rfl rfl fun K KP hK hP => ?_
  simp only [go_sem, ↓reduceIte, ea, eb]
  apply hK; clear hK hP
  refine aw_sreg {} rfl rfl fun K KP hK hP => ?_
  simp only [go_sem, ↓reduceIte, ea, eb]
  refine CallP.ret (mul64_call _ _ (by omega) (by omega)) (by simp only [go_sem]) ?_
  try simp only [go_sem, ↓reduceIte, ea, eb]
  apply hK; clear hK hP
  refine aw_seq ?_
  by_cases c2_0 : 0 < ((a.natAbs * b.natAbs / 18446744073709551616 : Nat) : Int)
  ·
    refine aw_sreg {} rfl rfl fun K KP hK hP => ?_
    simp only [go_sem, ↓reduceIte, ea, eb, c2_0]
    apply hK; clear hK hP
    refine aw_if (True) (by simp only [go_sem, ↓reduceIte, ea, eb, c2_0]) (fun h2 => ?_) (fun h2 => ?_)
    ·
      refine aw_lreg {} rfl rfl fun K KP hK hP => ?_
      simp only [go_sem, ↓reduceIte, ea, eb, c2_0]
      refine ⟨_, _, rfl, hP _ _ _ fun env => ?_⟩
      have hbig : 1152921504606846976 < a.natAbs * b.natAbs := by generalize a.natAbs * b.natAbs = p at *; omega
      simp [timesS, outI, beyondA, go_sem, hbig]
    ·
      exact absurd trivial h2
  ·
    by_cases c2_1 : 1152921504606846976 < ((a.natAbs * b.natAbs % 18446744073709551616 : Nat) : Int)
    ·
      refine aw_sreg {} rfl rfl fun K KP hK hP => ?_
      simp only [go_sem, ↓reduceIte, ea, eb, c2_0, c2_1]
      apply hK; clear hK hP
      refine aw_if (True) (by simp only [go_sem, ↓reduceIte, ea, eb, c2_0, c2_1]) (fun h2 => ?_) (fun h2 => ?_)
      ·
        refine aw_lreg {} rfl rfl fun K KP hK hP => ?_
        simp only [go_sem, ↓reduceIte, ea, eb, c2_0, c2_1]
        refine ⟨_, _, rfl, hP _ _ _ fun env => ?_⟩
        have hbig : 1152921504606846976 < a.natAbs * b.natAbs := by generalize a.natAbs * b.natAbs = p at *; omega
        simp [timesS, outI, beyondA, go_sem, hbig]
      ·
        exact absurd trivial h2
    ·
      refine aw_sreg {} rfl rfl fun K KP hK hP => ?_
      simp only [go_sem, ↓reduceIte, ea, eb, c2_0, c2_1]
      apply hK; clear hK hP
      refine aw_if (False) (by simp only [go_sem, ↓reduceIte, ea, eb, c2_0, c2_1]) (fun h2 => ?_) (fun h2 => ?_)
      ·
        exact h2.elim
      ·
        have hbig : ¬ 1152921504606846976 < a.natAbs * b.natAbs := by generalize a.natAbs * b.natAbs = p at *; omega
        have hab : (a * b).natAbs ≤ 1152921504606846976 := by rw [Int.natAbs_mul]; omega
        have hw : IntKind.wrap .i64 (a * b) = a * b := wrap64 (by omega) (by omega)
        refine aw_skip ?_
        refine athen_normal.2 ?_
        refine aw_sreg {} rfl rfl fun K KP hK hP => ?_
        simp only [go_sem, ↓reduceIte, ea, eb, c2_0, c2_1, hw]
        apply hK; clear hK hP
        refine aw_ret ?_
        simp only [go_sem, ↓reduceIte, ea, eb, c2_0, c2_1, hw, athen_ret] <;> (
          simp [timesS, outI, hbig])
end Go.Ab
