/-
  READING: what the program's parse computes, at every text.
-/
import Derived.Test.YtdagildojaagiaaGreatDoorZ15
import Derived.Lib.AtoiAllCases
import Derived.Test.YtdagildojaagiaaGreatDoorZ14
import Derived.Test.YtdagildojaagiaaGreatDoorZ13
import Derived.Test.YtdagildojaagiaaGreatDoorZ12
import Derived.Laws.RangeAny
import Derived.Laws.RangeString
set_option linter.unusedVariables false
set_option linter.unusedSimpArgs false
set_option maxRecDepth 100000
namespace Go.Ab
open Go Go.RowKit Go.Proofs
def valD (acc : Nat) (r : List UInt8) : Nat := r.foldl (fun a c => 10 * a + (c.toNat - 48)) acc
theorem valD_cons (acc : Nat) (c : UInt8) (r : List UInt8) : valD acc (c :: r) = valD (10 * acc + (c.toNat - 48)) r := by unfold valD; rw [List.foldl_cons]
theorem valD_nil (acc : Nat) : valD acc [] = acc := by unfold valD; rw [List.foldl_nil]
theorem valD_ge (r : List UInt8) : ∀ acc : Nat, acc ≤ valD acc r := by
 induction r with
 | nil => intro acc; rw [valD_nil]; exact Nat.le_refl _
 | cons c r ih =>
  intro acc
  have h := ih (10 * acc + (c.toNat - 48))
  rw [valD_cons]
  exact Nat.le_trans (by omega) h
theorem digit_iff (c : UInt8) : digitB c = true ↔ 48 ≤ c.toNat ∧ c.toNat ≤ 57 := by
 have : ∀ n : Fin 256, digitB (UInt8.ofFin n) = true ↔ 48 ≤ (UInt8.ofFin n).toNat ∧ (UInt8.ofFin n).toNat ≤ 57 := by decide +kernel
 exact this c.toFin
theorem parse_digits : ∀ (r : List UInt8) (acc : Nat), r.all digitB = true → match Lib.parseUint10 acc r with
  | .ok u => u = valD acc r
  | .range => 18446744073709551616 ≤ valD acc r
  | _ => False
 | [], acc, h => by simp only [Lib.parseUint10, valD_nil]
 | c :: r, acc, h => by
  simp only [List.all_cons, Bool.and_eq_true] at h
  have hc := (digit_iff c).1 h.1
  have hge := valD_ge r (10 * acc + (c.toNat - 48))
  have ih := parse_digits r (10 * acc + (c.toNat - 48)) h.2
  rw [valD_cons]
  generalize valD (10 * acc + (c.toNat - 48)) r = v at hge ih ⊢
  simp only [Lib.parseUint10, if_pos hc]
  by_cases h1 : 1844674407370955162 ≤ acc
  ·rw [if_pos h1]
   show 18446744073709551616 ≤ v
   omega
  ·rw [if_neg h1]
   by_cases h2 : 18446744073709551616 ≤ acc * 10 + (c.toNat - 48)
   ·rw [if_pos h2]
    show 18446744073709551616 ≤ v
    omega
   ·rw [if_neg h2, Nat.mul_comm acc 10]
    exact ih
def numS (w : List UInt8) : Int × Int :=
 if (1 < (cutMinus w).length ∧ (cutMinus w).head? = some 48) ∨ w = [45, 48] then (0, 4)
 else if 1152921504606846976 < valD 0 (cutMinus w) then (0, 5)
 else (if w.head? = some 45 then - (valD 0 (cutMinus w) : Int) else (valD 0 (cutMinus w) : Int), 0)
theorem num_atoi {w : List UInt8} (h : numericS w = true) : (match Lib.atoiAll w with
   | .ok v => if v < -1152921504606846976 ∨ v > 1152921504606846976 then ((0 : Int), (5 : Int)) else (v, 0)
   | _ => (0, 5)) = if 1152921504606846976 < valD 0 (cutMinus w) then (0, 5) else (if w.head? = some 45 then - (valD 0 (cutMinus w) : Int) else (valD 0 (cutMinus w) : Int), 0) := by
 unfold numericS at h
 simp only [Bool.and_eq_true, decide_eq_true_eq] at h
 obtain ⟨hne, hd⟩ := h
 have hp := parse_digits (cutMinus w) 0 hd
 generalize hv : valD 0 (cutMinus w) = V at hp ⊢
 cases w with
 | nil => exact absurd rfl hne
 | cons c r =>
  have hc45 : (c.toNat = 45) ↔ c = 45 := by
   constructor
   ·intro e; exact UInt8.toNat_inj.1 e
   ·intro e; subst e; rfl
  by_cases h45 : c = 45
  ·have hcm : cutMinus (c :: r) = r := by unfold cutMinus; rw [if_pos (by simp [h45])]; rfl
   rw [hcm] at hne hp
   have hh : (c :: r).head? = some 45 := by simp [h45]
   have hn : c.toNat = 45 := hc45.2 h45
   simp only [hh, if_true]
   have hm : Lib.parseMag r = Lib.parseUint10 0 r := by unfold Lib.parseMag; rw [if_neg hne]
   clear hv
   simp only [Lib.atoiAll, hn, or_true, if_true, hm]
   cases hx : Lib.parseUint10 0 r with
   | ok u =>
    rw [hx] at hp
    have hp : V = u := Eq.symm hp
    subst hp
    simp only [not_true_eq_false, false_and, if_false, true_and]
    by_cases hb : 9223372036854775808 < V
    ·rw [if_pos hb, if_pos (by omega)]
    ·rw [if_neg hb]
     simp only
     by_cases hm : 1152921504606846976 < V
     ·rw [if_pos hm, if_pos (by omega)]
     ·rw [if_neg hm, if_neg (by omega)]
   | range =>
    rw [hx] at hp
    have hp : 18446744073709551616 ≤ V := hp
    simp only
    rw [if_pos (by omega)]
   | _ => rw [hx] at hp; exact hp.elim
  ·have hcm : cutMinus (c :: r) = c :: r := by unfold cutMinus; rw [if_neg (by simp [h45])]
   rw [hcm] at hne hp hd
   have hh : ¬ (c :: r).head? = some 45 := by simp [h45]
   have hdc := (digit_iff c).1 (by simp only [List.all_cons, Bool.and_eq_true] at hd; exact hd.1)
   have hn : ¬ c.toNat = 45 := by omega
   have hn3 : ¬ (c.toNat = 43 ∨ c.toNat = 45) := by omega
   simp only [hh, if_false]
   have hm : Lib.parseMag (c :: r) = Lib.parseUint10 0 (c :: r) := by unfold Lib.parseMag; rw [if_neg hne]
   clear hv
   have hn43 : ¬ c.toNat = 43 := by omega
   simp only [Lib.atoiAll, hn, hn43, or_self, if_false, hm]
   cases hx : Lib.parseUint10 0 (c :: r) with
   | ok u =>
    rw [hx] at hp
    have hp : V = u := Eq.symm hp
    subst hp
    simp only [not_false_eq_true, true_and, false_and, if_false]
    by_cases hb : 9223372036854775808 ≤ V
    ·rw [if_pos hb, if_pos (by omega)]
    ·rw [if_neg hb]
     simp only
     by_cases hm : 1152921504606846976 < V
     ·rw [if_pos hm, if_pos (by omega)]
     ·rw [if_neg hm, if_neg (by omega)]
   | range =>
    rw [hx] at hp
    have hp : 18446744073709551616 ≤ V := hp
    simp only
    rw [if_pos (by omega)]
   | _ => rw [hx] at hp; exact hp.elim
theorem num_nosyn {w : List UInt8} (h : numericS w = true) : (match Lib.atoiAll w with
  | .ok _ => True
  | .range => True
  | _ => False) := by
 unfold numericS at h
 simp only [Bool.and_eq_true, decide_eq_true_eq] at h
 obtain ⟨hne, hd⟩ := h
 have hp := parse_digits (cutMinus w) 0 hd
 cases hs : Lib.atoiAll w with
 | ok v => trivial
 | range => trivial
 | _ =>
 exfalso
 cases w with
 | nil => exact absurd rfl hne
 | cons c r =>
  by_cases h45 : c = 45
  ·have hcm : cutMinus (c :: r) = r := by unfold cutMinus; rw [if_pos (by simp [h45])]; rfl
   rw [hcm] at hne hp
   have hm : Lib.parseMag r = Lib.parseUint10 0 r := by unfold Lib.parseMag; rw [if_neg hne]
   subst h45
   have e : (45 : UInt8).toNat = 45 := rfl
   simp only [Lib.atoiAll, e, or_true, if_true, hm] at hs
   cases hx : Lib.parseUint10 0 r with
   | range => rw [hx] at hs; cases hs
   | ok u =>
    rw [hx] at hs
    simp only at hs
    split at hs
    ·cases hs
    ·split at hs <;> cases hs
   | _ => rw [hx] at hp; exact hp
  ·have hcm : cutMinus (c :: r) = c :: r := by unfold cutMinus; rw [if_neg (by simp [h45])]
   rw [hcm] at hne hp hd
   have hdc := (digit_iff c).1 (by simp only [List.all_cons, Bool.and_eq_true] at hd; exact hd.1)
   have hm : Lib.parseMag (c :: r) = Lib.parseUint10 0 (c :: r) := by unfold Lib.parseMag; rw [if_neg hne]
   have hn : ¬ c.toNat = 45 := by omega
   have hn43 : ¬ c.toNat = 43 := by omega
   simp only [Lib.atoiAll, hn, hn43, or_self, if_false, hm] at hs
   cases hx : Lib.parseUint10 0 (c :: r) with
   | range => rw [hx] at hs; cases hs
   | ok u =>
    rw [hx] at hs
    simp only at hs
    split at hs
    ·cases hs
    ·split at hs <;> cases hs
   | _ => rw [hx] at hp; exact hp
def numL : Nat → List UInt8 → Option Nat
 | acc, [] => if 1152921504606846976 < acc then none else some acc
 | acc, c :: r => if 115292150460684697 < acc then none else numL (10 * acc + (c.toNat - 48)) r
theorem numL_val (r : List UInt8) : ∀ acc : Nat, numL acc r = if 1152921504606846976 < valD acc r then none else some (valD acc r) := by
 induction r with
 | nil => intro acc; rw [valD_nil]; rfl
 | cons c r ih =>
  intro acc
  have hge := valD_ge r (10 * acc + (c.toNat - 48))
  have ih := ih (10 * acc + (c.toNat - 48))
  rw [valD_cons]
  unfold numL
  generalize valD (10 * acc + (c.toNat - 48)) r = v at hge ih ⊢
  by_cases h : 115292150460684697 < acc
  ·rw [if_pos h, if_pos (by omega)]
  ·rw [if_neg h]
   exact ih
end Go.Ab

set_option maxRecDepth 100000
namespace Go.Ab
open Go Go.RowKit Go.Proofs
theorem number_val {w : List UInt8} (hw : w.length ≤ 1000000000) (h : numericS w = true) : G_numberA w = some ((numS w).1, (numS w).2, ()) := by
 have hc : trimPrefixF w [45] = cutMinus w := cutMinus_eq w
 have hne : cutMinus w ≠ [] := by
  unfold numericS at h
  simp only [Bool.and_eq_true, decide_eq_true_eq] at h
  exact h.1
 have hpos : 0 < (cutMinus w).length := List.length_pos_iff.2 hne
 have hat := num_atoi h
 unfold G_numberA
 rw [hc]
 have x1 : ixOK 0 (cutMinus w).length = true := ixOK_iff.2 (by omega)
 refine ycond (by rw [x1]; rfl) ?_
 have hb : byteAt (cutMinus w) 0 = (((cutMinus w)[0].toNat : Nat) : Int) := ybyte (i := 0) hpos
 have hh : (cutMinus w).head? = some (cutMinus w)[0] := by rw [List.head?_eq_getElem?, List.getElem?_eq_getElem hpos]
 have q48 : decide (byteAt (cutMinus w) 0 = 48) = decide ((cutMinus w)[0] = 48) := by rw [hb]; exact ybyteD _ 48 (by decide)
 rw [q48]
 unfold numS
 rw [hh]
 by_cases hz : (1 < (cutMinus w).length ∧ some (cutMinus w)[0] = some 48) ∨ w = [45, 48]
 ·rw [if_pos hz]
  refine ycond ?_ rfl
  rcases hz with ⟨z1, z2⟩ | z
  ·have e1 : decide (((cutMinus w).length : Int) > 1) = true := decide_eq_true (by omega)
   have e2 : decide ((cutMinus w)[0] = 48) = true := decide_eq_true (Option.some.inj z2)
   rw [e1, e2]; rfl
  ·rw [decide_eq_true z]
   cases cond (decide (((cutMinus w).length : Int) > 1)) (decide ((cutMinus w)[0] = 48)) false <;> rfl
 ·rw [if_neg hz]
  have z1 : ¬ (1 < (cutMinus w).length ∧ some (cutMinus w)[0] = some 48) := fun h => hz (.inl h)
  have z2 : ¬ w = [45, 48] := fun h => hz (.inr h)
  refine ycondn ?_ ?_
  ·rw [decide_eq_false z2]
   by_cases e : ((cutMinus w).length : Int) > 1
   ·have : ¬ (cutMinus w)[0] = 48 := fun h => z1 ⟨by omega, by rw [h]⟩
    rw [decide_eq_true e, decide_eq_false this]; rfl
   ·rw [decide_eq_false e]; rfl
  ·unfold atoiF
   rw [if_pos (by omega)]
   rw [← hat]
   cases hx : Lib.atoiAll w with
   | ok v =>
    simp only [Option.bind_some, Bool.not_true, cond_false]
    by_cases c : v < -1152921504606846976 ∨ v > 1152921504606846976
    ·rw [if_pos c]
     refine ycond ?_ rfl
     rcases c with c | c
     ·rw [decide_eq_true c]; rfl
     ·rw [decide_eq_true c]; cases decide (v < -1152921504606846976) <;> rfl
    ·rw [if_neg c]
     simp only [not_or] at c
     refine ycondn ?_ rfl
     rw [decide_eq_false c.1, decide_eq_false c.2]; rfl
   | range => rfl
   | _ =>
    exfalso
    have hp := parse_digits (cutMinus w) 0 (by unfold numericS at h; simp only [Bool.and_eq_true] at h; exact h.2)
    have := num_nosyn h
    rw [hx] at this
    exact this
end Go.Ab

set_option maxRecDepth 100000
namespace Go.Ab
open Go Go.RowKit Go.Proofs
def resN (p : Int × Int) : Int × Bool × Bool × Unit := if p.2 = 4 then (0, false, true, ()) else if p.2 = 5 then (0, true, false, ()) else (p.1, true, true, ())
theorem numL_loop {d : List UInt8} (hd : d.all digitB = true) (hl : d.length ≤ 1000000000) (neg : Bool) {F : Step ((Bool × Int × Unit) × (Unit)) (Int × Bool × Bool × Unit) → Option (Int × Bool × Bool × Unit)} {v : Int × Bool × Bool × Unit}
  (h1 : numL 0 d = none → F (.done (0, true, false, ())) = some v) (h2 : ∀ n : Nat, n ≤ 1152921504606846979 → (if 1152921504606846976 < n then none else some n) = numL 0 d → F (.next ((neg, (n : Int), ()), ())) = some v) :
  Option.bind (loopM (L := ((List UInt8) × Bool × Int × Int × Unit) × (Unit)) (R := Step ((Bool × Int × Unit) × (Unit)) (Int × Bool × Bool × Unit)) (fun d4 => (
 let v5_5 := d4.1.1
 let v6_6 := d4.1.2.1
 let v7_7 := d4.1.2.2.1
 let v8_8 := d4.1.2.2.2.1
 cond (decide (v8_8 < (v5_5.length : Int))) (cond (decide (v7_7 > 115292150460684697)) (some (Step.done (Step.done (0, true, false, ())))) (cond (ixOK v8_8 v5_5.length) (some (Step.next ((v5_5, v6_6, IntKind.wrap .i64 (IntKind.wrap .i64 (10 * v7_7) + IntKind.wrap .i64 (IntKind.wrap .u8 (byteAt v5_5 v8_8 - 48))), IntKind.wrap .i64 (v8_8 + 1), ()), ()))) none)) (some (Step.done (Step.next ((v6_6, v7_7, ()), ())))))) ((d, neg, 0, 0, ()), ())) F = some v := by
 refine Exists.elim (yloop (F := F) (l0 := ((d, neg, 0, 0, ()), ())) (fun s => ∃ (i n : Nat), s = ((d, neg, (n : Int), (i : Int), ()), ()) ∧ i ≤ d.length ∧ n ≤ 1152921504606846979 ∧ numL n (d.drop i) = numL 0 d) (fun s => d.length - s.1.2.2.2.1.toNat) (fun u => u = v) (b := (fun d4 : ((List UInt8) × Bool × Int × Int × Unit) × (Unit) => (
 let v5_5 := d4.1.1
 let v6_6 := d4.1.2.1
 let v7_7 := d4.1.2.2.1
 let v8_8 := d4.1.2.2.2.1
 cond (decide (v8_8 < (v5_5.length : Int))) (cond (decide (v7_7 > 115292150460684697)) (some (Step.done (Step.done (0, true, false, ())))) (cond (ixOK v8_8 v5_5.length) (some (Step.next ((v5_5, v6_6, IntKind.wrap .i64 (IntKind.wrap .i64 (10 * v7_7) + IntKind.wrap .i64 (IntKind.wrap .u8 (byteAt v5_5 v8_8 - 48))), IntKind.wrap .i64 (v8_8 + 1), ()), ()))) none)) (some (Step.done (Step.next ((v6_6, v7_7, ()), ())))))) ) ?_ ⟨0, 0, rfl, Nat.zero_le _, by decide, rfl⟩) (fun u h => by obtain ⟨e1, rfl⟩ := h; exact e1)
 rintro s ⟨i, n, rfl, hi, hn, hk⟩
 simp only [Int.toNat_natCast]
 by_cases hi' : i < d.length
 ·have c1 : decide ((i : Int) < (d.length : Int)) = true := by apply decide_eq_true; omega
  have x1 : ixOK (i : Int) d.length = true := ixOK_iff.2 (by omega)
  have hdr := ydrop hi'
  have hdi := (digit_iff d[i]).1 (List.all_eq_true.1 hd _ (List.getElem_mem hi'))
  simp only [c1, x1, ybyte hi', cond_true, ywrap (show i < 4611686018427387904 by omega)]
  rw [hdr] at hk
  by_cases hb : 115292150460684697 < n
  ·have cb : decide ((n : Int) > 115292150460684697) = true := by apply decide_eq_true; omega
   simp only [cb, cond_true]
   refine .inr ⟨_, rfl, v, h1 ?_, rfl⟩
   rw [← hk, numL, if_pos hb]
  ·have cb : decide ((n : Int) > 115292150460684697) = false := by apply decide_eq_false; omega
   have wu : IntKind.wrap .u8 (((d[i].toNat : Nat) : Int) - 48) = ((d[i].toNat - 48 : Nat) : Int) := by
    rw [IntKind.wrap_u8]; omega
   have w1 : IntKind.wrap .i64 (10 * (n : Int)) = ((10 * n : Nat) : Int) := by rw [w64 (by omega) (by omega)]; omega
   have w2 : IntKind.wrap .i64 ((d[i].toNat - 48 : Nat) : Int) = ((d[i].toNat - 48 : Nat) : Int) := w64 (by omega) (by omega)
   have w3 : IntKind.wrap .i64 (((10 * n : Nat) : Int) + ((d[i].toNat - 48 : Nat) : Int)) = ((10 * n + (d[i].toNat - 48) : Nat) : Int) := by rw [w64 (by omega) (by omega)]; omega
   simp only [cb, cond_false, wu, w1, w2, w3]
   refine .inl ⟨_, rfl, ⟨i + 1, 10 * n + (d[i].toNat - 48), rfl, by omega, by omega, ?_⟩, by simp only [Int.toNat_natCast]; omega⟩
   rw [← hk, numL, if_neg hb]
 ·have c1 : decide ((i : Int) < (d.length : Int)) = false := by apply decide_eq_false; omega
  rw [List.drop_of_length_le (by omega)] at hk
  refine .inr ⟨_, by simp only [c1, cond_false], v, h2 n hn ?_, rfl⟩
  rw [← hk]; rfl
theorem resN4 : resN (0, 4) = (0, false, true, ()) := rfl
theorem resN5 : resN (0, 5) = (0, true, false, ()) := rfl
theorem rnum_val {w : List UInt8} (hw : w.length ≤ 1000000000) (h : numericS w = true) : G_rnumber w = some (resN (numS w)) := by
 have hcl := cutMinus_length w
 have hnum : numericS w = true := h
 unfold numericS at h
 simp only [Bool.and_eq_true, decide_eq_true_eq] at h
 obtain ⟨hne, hd⟩ := h
 have hpos : 0 < (cutMinus w).length := List.length_pos_iff.2 hne
 have first : (cond (ixOK 0 w.length) (cond (decide (byteAt w 0 = 45)) (cond (slOK 1 (w.length : Int) w.length) (some (((w.drop (1 : Int).toNat).take ((w.length : Int).toNat - (1 : Int).toNat), true, ()), ())) none) (some ((w, false, ()), ()))) none) = some ((cutMinus w, decide (w.head? = some 45), ()), ()) := by
  cases w with
  | nil => exact absurd rfl hne
  | cons c r =>
   have x0 : ixOK 0 (c :: r).length = true := ixOK_iff.2 (by simp only [List.length_cons]; omega)
   have hb : byteAt (c :: r) 0 = ((c.toNat : Nat) : Int) := rfl
   have q45 : decide (((c.toNat : Nat) : Int) = 45) = decide (c = 45) := ybyteD _ 45 (by decide)
   rw [x0, cond_true, hb, q45]
   by_cases h45 : c = 45
   ·have sl : slOK 1 ((c :: r).length : Int) (c :: r).length = true := slOK_iff.2 (by simp only [List.length_cons]; omega)
    have hcm : cutMinus (c :: r) = r := by unfold cutMinus; rw [if_pos (by simp [h45])]; rfl
    rw [decide_eq_true h45, cond_true, sl, cond_true, hcm]
    have e1 : ((c :: r).drop (1 : Int).toNat).take (((c :: r).length : Int).toNat - (1 : Int).toNat) = r := by
     show r.take _ = r
     exact List.take_of_length_le (by simp)
    rw [e1, decide_eq_true (show (c :: r).head? = some 45 by simp [h45])]
   ·have hcm : cutMinus (c :: r) = c :: r := by unfold cutMinus; rw [if_neg (by simp [h45])]
    rw [decide_eq_false h45, cond_false, hcm, decide_eq_false (show ¬ (c :: r).head? = some 45 by simp [h45])]
 unfold G_rnumber
 rw [first]
 simp only [Option.bind_some]
 have x1 : ixOK 0 (cutMinus w).length = true := ixOK_iff.2 (by omega)
 have hb : byteAt (cutMinus w) 0 = (((cutMinus w)[0].toNat : Nat) : Int) := ybyte (i := 0) hpos
 have q48 : decide (byteAt (cutMinus w) 0 = 48) = decide ((cutMinus w)[0] = 48) := by rw [hb]; exact ybyteD _ 48 (by decide)
 have hh : (cutMinus w).head? = some (cutMinus w)[0] := by rw [List.head?_eq_getElem?, List.getElem?_eq_getElem hpos]
 rw [x1, cond_true, q48]
 have zero : ((1 < (cutMinus w).length ∧ (cutMinus w).head? = some 48) ∨ w = [45, 48]) ↔ ((cutMinus w)[0] = 48 ∧ (1 < (cutMinus w).length ∨ w.head? = some 45)) := by
  rw [hh]
  constructor
  ·rintro (⟨a, b⟩ | rfl)
   ·exact ⟨Option.some.inj b, .inl a⟩
   ·exact ⟨rfl, .inr rfl⟩
  ·rintro ⟨a, b | b⟩
   ·exact .inl ⟨b, by rw [a]⟩
   ·by_cases hl : 1 < (cutMinus w).length
    ·exact .inl ⟨hl, by rw [a]⟩
    ·right
     cases w with
     | nil => exact absurd rfl hne
     | cons c r =>
      have hc : c = 45 := by simpa using b
      subst hc
      have hcm : cutMinus (45 :: r) = r := by unfold cutMinus; rw [if_pos (by simp)]; rfl
      cases r with
      | nil => rw [hcm] at hpos; simp at hpos
      | cons e q =>
       cases q with
       | nil =>
        have : (cutMinus [45, e])[0] = e := rfl
        have a' : e = 48 := a
        rw [a']
       | cons e2 q2 => rw [hcm] at hl; simp at hl
 unfold numS
 by_cases hz : (cutMinus w)[0] = 48 ∧ (1 < (cutMinus w).length ∨ w.head? = some 45)
 ·rw [if_pos (zero.2 hz), resN4]
  refine ycond ?_ rfl
  rw [decide_eq_true hz.1, cond_true]
  by_cases e : ((cutMinus w).length : Int) > 1
  ·rw [decide_eq_true e]; rfl
  ·rw [decide_eq_false e]
   exact decide_eq_true (hz.2.resolve_left (by omega))
 ·rw [if_neg (fun h => hz (zero.1 h))]
  refine ycondn ?_ ?_
  ·by_cases e : (cutMinus w)[0] = 48
   ·have hz2 : ¬ (1 < (cutMinus w).length ∨ w.head? = some 45) := fun h => hz ⟨e, h⟩
    simp only [not_or] at hz2
    rw [decide_eq_true e, decide_eq_false (show ¬ ((cutMinus w).length : Int) > 1 by omega), decide_eq_false hz2.2]; rfl
   ·rw [decide_eq_false e]; rfl
  ·have hv := numL_val (cutMinus w) 0
   refine numL_loop hd (by omega) _ (fun hn => ?_) (fun n hn hk => ?_)
   ·rw [hn] at hv
    by_cases hm : 1152921504606846976 < valD 0 (cutMinus w)
    ·rw [if_pos hm, resN5]
    ·rw [if_neg hm] at hv; cases hv
   ·rw [hv] at hk
    by_cases hm : 1152921504606846976 < n
    ·have d1 : decide ((n : Int) > 1152921504606846976) = true := by apply decide_eq_true; omega
     rw [if_pos hm] at hk
     have hm2 : 1152921504606846976 < valD 0 (cutMinus w) := by
      apply Classical.byContradiction
      intro hc; rw [if_neg hc] at hk; cases hk
     rw [if_pos hm2, resN5]
     exact ycond d1 rfl
    ·have d1 : decide ((n : Int) > 1152921504606846976) = false := by apply decide_eq_false; omega
     rw [if_neg hm] at hk
     have hm2 : ¬ 1152921504606846976 < valD 0 (cutMinus w) := by
      intro hc; rw [if_pos hc] at hk; cases hk
     rw [if_neg hm2] at hk
     have hn2 : n = valD 0 (cutMinus w) := Option.some.inj hk
     rw [if_neg hm2, ← hn2]
     refine ycondn d1 ?_
     by_cases h45 : w.head? = some 45
     ·rw [if_pos h45]
      refine ybind (v := ((- (n : Int), ()), ())) (ycond (decide_eq_true h45) ?_) rfl
      show some ((IntKind.wrap .i64 (0 - (n : Int)), ()), ()) = _
      rw [w64 (n := 0 - (n : Int)) (by omega) (by omega), Int.zero_sub]
     ·rw [if_neg h45]
      exact ybind (v := (((n : Int), ()), ())) (ycondn (decide_eq_false h45) rfl) rfl
end Go.Ab

namespace Go.Ab
open Go
theorem sign_val (x y : Bool) : G_sign x y = some (if x = true then -1 else if y = true then 1 else 0) := by
 unfold G_sign; cases x <;> cases y <;> rfl
end Go.Ab

set_option maxRecDepth 100000
namespace Go.Ab
open Go Go.RowKit Go.Proofs
theorem cmpL_end {l m : List Fm} {i : Nat} (h : i = min l.length m.length) : cmpL (l.drop i) (m.drop i) = if l.length < m.length then -1 else if m.length < l.length then 1 else 0 := by
 by_cases hlm : l.length ≤ m.length
 ·rw [Nat.min_eq_left hlm] at h
  subst h
  simp only [List.drop_length, cmpL]
  by_cases hd : m.drop l.length = []
  ·have := List.drop_eq_nil_iff.1 hd
   rw [if_pos hd, if_neg (by omega), if_neg (by omega)]
  ·have : ¬ m.length ≤ l.length := fun h => hd (List.drop_eq_nil_iff.2 h)
   rw [if_neg hd, if_pos (by omega)]
 ·have h1 : m.length < l.length := by omega
  rw [Nat.min_eq_right (by omega)] at h
  subst h
  simp only [List.drop_length]
  rw [List.drop_eq_getElem_cons h1, if_neg (by omega), if_pos h1]
  simp [cmpL]
theorem sgn_cmpI (a b : Int) : G_sign (decide (a < b)) (decide (a > b)) = some (cmpI a b) := by
 rw [sign_val]; unfold cmpI; simp only [decide_eq_true_eq, gt_iff_lt]
theorem sgn_cmpS (a b : List UInt8) : G_sign (Op.bytesLess a b) (!(Op.bytesLess a b || decide (a = b))) = some (cmpS a b) := by
 rw [sign_val]; unfold cmpS
 by_cases h : Op.bytesLess a b = true
 ·simp [h]
 ·by_cases h' : a = b
  ·subst h'; simp [bytesLess_irrefl]
  ·simp [h, h']
theorem refCompare_step (k : Nat) (hF : ∀ f g : Fm, f.big ≤ 4611686018427387000 → Up (k < f.big) (G_refCompare k f g) (cmpF f g)) (f g : Fm) (hb : f.big ≤ 4611686018427387000) : Up (k + 1 < f.big) (G_refCompare (k + 1) f g) (cmpF f g) := by
 obtain ⟨a, n, t, l⟩ := f
 obtain ⟨a', n', t', l'⟩ := g
 have hk := big_kids (.mk a n t l)
 have hl := length_le_big l
 simp only [Fm.l] at hk
 rw [cmpF_mk]
 unfold G_refCompare
 simp only [sgn_cmpI, sgn_cmpS]
 simp only [Fm.k, Fm.n, Fm.t, Fm.l, sgn_cmpI, sgn_cmpS, Option.bind_some]
 by_cases h : a = a'
 ·subst h
  simp only [decide_true, Bool.not_true, cond_false, if_true]
  by_cases h0 : a = 0
  ·subst h0; simp only [decide_true, cond_true, if_true]; exact .of rfl
  ·simp only [h0, decide_false, cond_false, if_false]
   by_cases h1 : a = 1
   ·subst h1; simp only [decide_true, cond_true, Option.bind_some, true_or, if_true]; exact .of rfl
   ·simp only [h1, decide_false, cond_false, Option.bind_some, false_or]
    by_cases h2 : a = 2
    ·subst h2; simp only [decide_true, cond_true, if_true]; exact .of rfl
    ·simp only [h2, decide_false, cond_false, if_false]
     by_cases h3 : a = 3
     ·subst h3
      simp only [decide_true, cond_true, if_true]
      refine Up.bind (v := Step.done (cmpL l l')) ?_ (.of rfl)
      refine loop_ix (fun i => (((3, n, t, l, ()), (3, n', t', l', ()), (i : Int), ()), ())) (fun i => (Step.done (cmpL (l.drop i) (l'.drop i)) : Step ((Unit) × (Unit)) (Int))) (min l.length l'.length) (fun i hi => ?_) ?_
      ·have h1 : i < l.length := by omega
       have h2 : i < l'.length := by omega
       have e1 : decide ((i : Int) < (l.length : Int)) = true := by simp [h1]
       have e3 : decide ((i : Int) < (l'.length : Int)) = true := by simp [h2]
       have e2 : ixOK (i : Int) l.length = true := ixOK_iff.2 (by omega)
       have e4 : ixOK (i : Int) l'.length = true := ixOK_iff.2 (by omega)
       simp only [e1, e2, e3, e4, cond_true, cond_false, Int.toNat_natCast, getD_in h1, getD_in h2, Fm.eta_eq, wrapN (show i < 4611686018427387904 by omega), cmpL_drop h1 h2]
       have hm := big_mem (List.getElem_mem h1)
       rcases hF l[i] l'[i] (by omega) with h | ⟨h, hn⟩
       ·rw [h]
        by_cases hc : cmpF l[i] l'[i] = 0
        ·refine .inl ⟨by simp [hc], by simp [hc]⟩
        ·refine .inr (.inl ⟨.done (.done (cmpF l[i] l'[i])), by simp [hc], .of (by simp [hc])⟩)
       ·rw [h]
        exact .inr (.inr ⟨rfl, by omega⟩)
      ·have hx : ¬ (min l.length l'.length < l.length ∧ min l.length l'.length < l'.length) := by omega
       refine ⟨.next (((3, n, t, l, ()), (3, n', t', l', ()), ()), ()), ?_, .of ?_⟩
       ·have : (cond (decide (((min l.length l'.length : Nat) : Int) < (l.length : Int))) (decide (((min l.length l'.length : Nat) : Int) < (l'.length : Int))) false) = false := by
         by_cases q : ((min l.length l'.length : Nat) : Int) < (l.length : Int)
         ·have : ¬ ((min l.length l'.length : Nat) : Int) < (l'.length : Int) := by omega
          simp only [q, this, decide_true, decide_false, cond_true]
         ·simp only [q, decide_false, cond_false]
        simp only [this, cond_false]
       ·rw [cmpL_end rfl]
        simp only [sgn_cmpI, Option.bind_some]
        unfold cmpI
        simp only [Int.ofNat_lt]
     ·simp only [h3, decide_false, cond_false, if_false]; exact .of rfl
 ·simp only [h, decide_false, Bool.not_false, cond_true, if_false]; exact .of rfl
theorem refCompare_up : ∀ k, ∀ f g : Fm, f.big ≤ 4611686018427387000 → Up (k < f.big) (G_refCompare k f g) (cmpF f g)
 | 0 => fun f g hb => .inr ⟨by unfold G_refCompare; rfl, by have := big_pos f; omega⟩
 | k + 1 => refCompare_step k (refCompare_up k)
theorem refCompare_val {f g : Fm} (hb : f.big ≤ 4611686018427387000) : L_refCompare f g = some (cmpF f g) := limF_up (b := f.big) fun k => refCompare_up k f g hb
end Go.Ab

set_option maxRecDepth 100000
namespace Go.Ab
open Go Go.RowKit Go.Proofs
mutual
def Fm.size : Fm → Nat
 | .mk k _ _ l => 1 + (if k = 3 then Fm.sizeL l else 0)
def Fm.sizeL : List Fm → Nat
 | [] => 0
 | f :: r => f.size + Fm.sizeL r
end
mutual
def Fm.depth : Fm → Nat
 | .mk k _ _ l => 1 + (if k = 3 then Fm.depthL l else 0)
def Fm.depthL : List Fm → Nat
 | [] => 0
 | f :: r => max f.depth (Fm.depthL r)
end
theorem sizeL_le : ∀ l : List Fm, (∀ f ∈ l, f.size ≤ f.big) → Fm.sizeL l ≤ Fm.bigL l
 | [], _ => by simp [Fm.sizeL, Fm.bigL]
 | f :: r, h => by
  simp only [Fm.sizeL, Fm.bigL]
  have := h f (by simp)
  have := sizeL_le r fun g hg => h g (by simp [hg])
  omega
theorem size_le : ∀ f : Fm, f.size ≤ f.big := Fm.ind fun k n t l ih => by
 have := sizeL_le l ih
 simp only [Fm.size, Fm.big]
 split <;> omega
theorem depthL_le : ∀ l : List Fm, (∀ f ∈ l, f.depth ≤ f.big) → Fm.depthL l ≤ Fm.bigL l
 | [], _ => by simp [Fm.depthL, Fm.bigL]
 | f :: r, h => by
  simp only [Fm.depthL, Fm.bigL]
  have := h f (by simp)
  have := depthL_le r fun g hg => h g (by simp [hg])
  omega
theorem depth_le : ∀ f : Fm, f.depth ≤ f.big := Fm.ind fun k n t l ih => by
 have := depthL_le l ih
 simp only [Fm.depth, Fm.big]
 split <;> omega
theorem sizeL_take (l : List Fm) {i : Nat} (h : i < l.length) : Fm.sizeL (l.take (i + 1)) = Fm.sizeL (l.take i) + l[i].size := by
 rw [List.take_succ_eq_append_getElem h]
 have : ∀ a b : List Fm, Fm.sizeL (a ++ b) = Fm.sizeL a + Fm.sizeL b := by
  intro a b
  induction a with
  | nil => simp [Fm.sizeL]
  | cons x r ih => simp only [List.cons_append, Fm.sizeL, ih]; omega
 rw [this]; simp [Fm.sizeL]
theorem depthL_take (l : List Fm) {i : Nat} (h : i < l.length) : Fm.depthL (l.take (i + 1)) = max (Fm.depthL (l.take i)) l[i].depth := by
 rw [List.take_succ_eq_append_getElem h]
 have : ∀ a b : List Fm, Fm.depthL (a ++ b) = max (Fm.depthL a) (Fm.depthL b) := by
  intro a b
  induction a with
  | nil => simp [Fm.depthL]
  | cons x r ih => simp only [List.cons_append, Fm.depthL, ih]; omega
 rw [this]; simp [Fm.depthL]
theorem sizeL_take_le (l : List Fm) (i : Nat) : Fm.sizeL (l.take i) ≤ Fm.sizeL l := by
 induction l generalizing i with
 | nil => simp
 | cons f r ih => cases i with
  | zero => simp [Fm.sizeL]
  | succ i => simp only [List.take_succ_cons, Fm.sizeL]; have := ih i; omega
theorem kids_val (f : Fm) : G_kids f = some (if f.k = 3 then f.l else []) := by
 unfold G_kids
 by_cases h : f.k = 3
 ·simp [h]
 ·simp [h]
theorem Fm.size_eq (f : Fm) : f.size = 1 + Fm.sizeL (if f.k = 3 then f.l else []) := by
 cases f; simp only [Fm.size, Fm.k, Fm.l]; split <;> simp_all [Fm.sizeL]
theorem Fm.depth_eq (f : Fm) : f.depth = 1 + Fm.depthL (if f.k = 3 then f.l else []) := by
 cases f; simp only [Fm.depth, Fm.k, Fm.l]; split <;> simp_all [Fm.depthL]
theorem kids_mem {f g : Fm} (h : g ∈ (if f.k = 3 then f.l else [])) : g.big < f.big := by
 split at h
 ·have := big_mem h; have := big_kids f; omega
 ·cases h
theorem kids_len (f : Fm) : (if f.k = 3 then f.l else []).length < f.big := by
 split
 ·have := length_le_big f.l; have := big_kids f; omega
 ·have := big_pos f; simp only [List.length_nil]; omega
theorem size_up : ∀ k, ∀ f : Fm, f.big ≤ 4611686018427387000 → Up (k < f.big) (G_size k f) (f.size : Int)
 | 0 => fun f hb => .inr ⟨by unfold G_size; rfl, by have := big_pos f; omega⟩
 | k + 1 => fun f hb => by
  have hs := size_le f
  rw [Fm.size_eq] at hs ⊢
  unfold G_size
  simp only [Fm.eta_eq, kids_val, Option.bind_some]
  have hm : ∀ g ∈ (if f.k = 3 then f.l else []), g.big < f.big := fun g hg => kids_mem hg
  have hl := kids_len f
  generalize (if f.k = 3 then f.l else []) = l at hm hl hs
  refine loop_ix (fun i => ((((1 + Fm.sizeL (l.take i) : Nat) : Int), l, (l.length : Int), (i : Int), ()), ())) (fun i => ((1 + Fm.sizeL l : Nat) : Int)) l.length (fun i hi => ?_) ?_
  ·have e1 : decide ((i : Int) < (l.length : Int)) = true := by simp [hi]
   have e2 : ixOK (i : Int) l.length = true := ixOK_iff.2 (by omega)
   have hg := hm _ (List.getElem_mem hi)
   have h2 := sizeL_take l hi
   have h3 := sizeL_take_le l (i + 1)
   simp only [e1, e2, cond_true, Int.toNat_natCast, getD_in hi, Fm.eta_eq, wrapN (show i < 4611686018427387904 by omega)]
   rcases size_up k l[i] (by omega) with h | ⟨h, hn⟩
   ·rw [h]
    refine .inl ⟨?_, trivial⟩
    simp only [Option.bind_some]
    rw [w64 (by omega) (by omega)]
    have : ((1 + Fm.sizeL (l.take i) : Nat) : Int) + (l[i].size : Int) = ((1 + Fm.sizeL (l.take (i + 1)) : Nat) : Int) := by omega
    rw [this]
   ·rw [h]; exact .inr (.inr ⟨rfl, by omega⟩)
  ·refine ⟨((((1 + Fm.sizeL (l.take l.length) : Nat) : Int), ()), ()), by simp, .of ?_⟩
   simp
theorem size_val {f : Fm} (hb : f.big ≤ 4611686018427387000) : L_size f = some (f.size : Int) := limF_up (b := f.big) fun k => size_up k f hb
theorem depth_up : ∀ k, ∀ f : Fm, f.big ≤ 4611686018427387000 → Up (k < f.big) (G_depth k f) (f.depth : Int)
 | 0 => fun f hb => .inr ⟨by unfold G_depth; rfl, by have := big_pos f; omega⟩
 | k + 1 => fun f hb => by
  have hs := depth_le f
  rw [Fm.depth_eq] at hs ⊢
  unfold G_depth
  simp only [Fm.eta_eq, kids_val, Option.bind_some]
  have hm : ∀ g ∈ (if f.k = 3 then f.l else []), g.big < f.big := fun g hg => kids_mem hg
  have hl := kids_len f
  generalize (if f.k = 3 then f.l else []) = l at hm hl hs
  refine loop_ix (fun i => (((Fm.depthL (l.take i) : Int), l, (l.length : Int), (i : Int), ()), ())) (fun i => ((1 + Fm.depthL l : Nat) : Int)) l.length (fun i hi => ?_) ?_
  ·have e1 : decide ((i : Int) < (l.length : Int)) = true := by simp [hi]
   have e2 : ixOK (i : Int) l.length = true := ixOK_iff.2 (by omega)
   have hg := hm _ (List.getElem_mem hi)
   have h2 := depthL_take l hi
   simp only [e1, e2, cond_true, Int.toNat_natCast, getD_in hi, Fm.eta_eq, wrapN (show i < 4611686018427387904 by omega)]
   rcases depth_up k l[i] (by omega) with h | ⟨h, hn⟩
   ·rw [h]
    refine .inl ⟨?_, trivial⟩
    simp only [Option.bind_some]
    have : (if (l[i].depth : Int) > (Fm.depthL (l.take i) : Int) then (l[i].depth : Int) else (Fm.depthL (l.take i) : Int)) = (Fm.depthL (l.take (i + 1)) : Int) := by
     rw [h2]; split <;> omega
    rw [this]
   ·rw [h]; exact .inr (.inr ⟨rfl, by omega⟩)
  ·refine ⟨(((Fm.depthL (l.take l.length) : Int), ()), ()), by simp, .of ?_⟩
   simp only [List.take_length]
   rw [w64 (by omega) (by omega)]
   congr 1; omega
theorem depth_val {f : Fm} (hb : f.big ≤ 4611686018427387000) : L_depth f = some (f.depth : Int) := limF_up (b := f.big) fun k => depth_up k f hb
def wordS (t : List UInt8) : Bool := decide (t ≠ []) && (decide (t.length ≤ 30) && !numericS t)
def leafS (k n : Int) (t : List UInt8) (l : List Fm) : Bool :=
 if k = 0 then decide (t = []) && (decide (l = []) && (decide (-1152921504606846976 ≤ n) && decide (n ≤ 1152921504606846976)))
 else if k = 1 then (wordS t && t.all fun c => !outsideS c) && (decide (n = 0) && decide (l = []))
 else if k = 2 then decide (t.length ≤ 2000) && (!badT t && (decide (n = 0) && decide (l = [])))
 else if k = 3 then decide (t = []) && decide (n = 0)
 else false
theorem outside_byte {t : List UInt8} {i : Nat} (h : i < t.length) : outsideF (byteAt t (i : Int)) = some (outsideS t[i]) := by
 have hb := t[i].toNat_lt
 have e : byteAt t (i : Int) = (t[i].toNat : Int) := by unfold byteAt; simp [h]
 unfold outsideF
 rw [e, if_pos (by omega)]
 simp
theorem word_loop {a n : Int} {t : List UInt8} {l : List Fm} {A : Type} {v : A} (F : ((Int × Int × (List UInt8) × (List Fm) × Unit) × Bool × Unit) × (Unit) → Option A) (b0 : Bool) (ht : t.length ≤ 30)
  (hF : F ((((a, n, t, l, ()), b0 && t.all fun c => !outsideS c, ()), ())) = some v) :
  Option.bind (loopM (L := ((Int × Int × (List UInt8) × (List Fm) × Unit) × Bool × Int × Unit) × (Unit)) (R := ((Int × Int × (List UInt8) × (List Fm) × Unit) × Bool × Unit) × (Unit)) (fun d2 => (
 let v3_3 := d2.1.2.1
 let v4_4 := d2.1.2.2.1
 cond (cond (decide (v4_4 < (d2.1.1.2.2.1.length : Int))) v3_3 false) (cond (ixOK v4_4 d2.1.1.2.2.1.length) (Option.bind (α := Bool) (outsideF (byteAt d2.1.1.2.2.1 v4_4)) fun r5 => (
 some (Step.next (((d2.1.1.1, d2.1.1.2.1, d2.1.1.2.2.1, d2.1.1.2.2.2.1, ()), !r5, IntKind.wrap .i64 (v4_4 + 1), ()), ())))) none) (some (Step.done (((d2.1.1.1, d2.1.1.2.1, d2.1.1.2.2.1, d2.1.1.2.2.2.1, ()), v3_3, ()), ()))))) (((a, n, t, l, ()), b0, 0, ()), ())) F = some v := by
 have key : ∀ j i (b : Bool), i + j = t.length → F ((((a, n, t, l, ()), b && (t.drop i).all fun c => !outsideS c, ()), ())) = some v → Option.bind (loopM (L := ((Int × Int × (List UInt8) × (List Fm) × Unit) × Bool × Int × Unit) × (Unit)) (R := ((Int × Int × (List UInt8) × (List Fm) × Unit) × Bool × Unit) × (Unit)) (fun d2 => (
 let v3_3 := d2.1.2.1
 let v4_4 := d2.1.2.2.1
 cond (cond (decide (v4_4 < (d2.1.1.2.2.1.length : Int))) v3_3 false) (cond (ixOK v4_4 d2.1.1.2.2.1.length) (Option.bind (α := Bool) (outsideF (byteAt d2.1.1.2.2.1 v4_4)) fun r5 => (
 some (Step.next (((d2.1.1.1, d2.1.1.2.1, d2.1.1.2.2.1, d2.1.1.2.2.2.1, ()), !r5, IntKind.wrap .i64 (v4_4 + 1), ()), ())))) none) (some (Step.done (((d2.1.1.1, d2.1.1.2.1, d2.1.1.2.2.1, d2.1.1.2.2.2.1, ()), v3_3, ()), ()))))) (((a, n, t, l, ()), b, (i : Int), ()), ())) F = some v := by
  intro j
  induction j with
  | zero =>
   intro i b hi hv
   obtain rfl : i = t.length := by omega
   rw [loopM_done (r := (((a, n, t, l, ()), b, ()), ())) (by simp)]
   simpa using hv
  | succ j ih =>
   intro i b hi hv
   have hlt : i < t.length := by omega
   cases b with
   | false =>
    rw [loopM_done (r := (((a, n, t, l, ()), false, ()), ())) (by simp)]
    simpa using hv
   | true =>
    have e1 : decide ((i : Int) < (t.length : Int)) = true := by simp [hlt]
    have e2 : ixOK (i : Int) t.length = true := ixOK_iff.2 (by omega)
    rw [loopM_next (l' := (((a, n, t, l, ()), !outsideS t[i], ((i + 1 : Nat) : Int), ()), ())) (by
     simp only [e1, e2, cond_true, outside_byte hlt, Option.bind_some, wrapN (show i < 4611686018427387904 by omega)])]
    refine ih (i + 1) _ (by omega) ?_
    rw [List.drop_eq_getElem_cons hlt, List.all_cons, Bool.true_and] at hv
    exact hv
 exact key t.length 0 b0 (by omega) (by simpa using hF)
theorem len0 {α : Type} (l : List α) : decide ((l.length : Int) = 0) = decide (l = []) := by
 cases l with
 | nil => rfl
 | cons a r =>
  have : ¬ ((a :: r).length : Int) = 0 := by simp only [List.length_cons]; omega
  simp only [this, decide_false]; rfl
theorem leaf_val (f : Fm) : G_leaf f = some (leafS f.k f.n f.t f.l) := by
 unfold G_leaf leafS
 generalize f.k = a
 generalize f.n = n
 generalize f.t = t
 generalize f.l = l
 simp only [len0]
 by_cases h0 : a = 0
 ·subst h0
  simp only [decide_true, cond_true, if_true, Option.bind_some, ge_iff_le]
  congr 1
  apply Bool.eq_iff_iff.2
  simp [and_assoc]
 ·simp only [h0, decide_false, cond_false, if_false]
  by_cases h1 : a = 1
  ·subst h1
   simp only [decide_true, cond_true, if_true]
   by_cases hn : t = []
   ·subst hn
    simp only [decide_true, Bool.not_true, cond_false, Option.bind_some]
    rw [loopM_done (r := (((1, n, [], l, ()), false, ()), ())) (by simp)]
    simp [wordS]
   ·by_cases hl : t.length ≤ 30
    ·have e1 : decide ((t.length : Int) ≤ 30) = true := by simp; omega
     have hnum : numericF t = some (numericS t) := by unfold numericF; rw [if_pos (by omega)]
     simp only [hn, decide_false, Bool.not_false, cond_true, e1, hnum, Option.bind_some]
     rw [word_loop (v := Step.done (cond (cond ((!numericS t) && t.all fun c => !outsideS c) (decide (n = 0)) false) (decide (l = [])) false)) _ _ hl (by simp only [len0])]
     simp only [Option.bind_some]
     congr 1
     have ew : wordS t = !numericS t := by simp [wordS, hn, hl]
     rw [ew]
     apply Bool.eq_iff_iff.2
     simp [and_assoc]
    ·have e1 : decide ((t.length : Int) ≤ 30) = false := by simp; omega
     simp only [hn, decide_false, Bool.not_false, cond_true, e1, cond_false, Option.bind_some]
     rw [loopM_done (r := (((1, n, t, l, ()), false, ()), ())) (by simp)]
     simp [wordS, hl]
  ·simp only [h1, decide_false, cond_false, if_false]
   by_cases h2 : a = 2
   ·subst h2
    simp only [decide_true, cond_true, if_true]
    by_cases hl : t.length ≤ 2000
    ·have e1 : decide ((t.length : Int) ≤ 2000) = true := by simp; omega
     simp only [e1, cond_true, Option.bind_some, hl, decide_true, Bool.true_and]
     congr 1
     apply Bool.eq_iff_iff.2
     simp [and_assoc]
    ·have e1 : decide ((t.length : Int) ≤ 2000) = false := by simp; omega
     simp [e1, hl]
   ·simp only [h2, decide_false, cond_false, if_false]
    by_cases h3 : a = 3
    ·subst h3
     simp only [decide_true, cond_true, if_true, Option.bind_some]
     congr 1
     apply Bool.eq_iff_iff.2
     simp [and_assoc]
    ·simp [h3]
end Go.Ab

set_option maxRecDepth 100000
namespace Go.Ab
open Go Go.RowKit Go.Proofs
mutual
def validS : Fm → Int → Int → Bool × Int
 | .mk k n t l, p, d => if p - 1 < 0 ∨ d = 0 ∨ leafS k n t l = false then (false, p - 1) else validLS l (p - 1) (d - 1)
def validLS : List Fm → Int → Int → Bool × Int
 | [], p, _ => (true, p)
 | f :: r, p, d => if (validS f p d).1 = true then validLS r (validS f p d).2 d else (false, (validS f p d).2)
end
def validF (f : Fm) : Bool := (validS f 20000 100).1
theorem validLS_drop {l : List Fm} {i : Nat} (h : i < l.length) (p d : Int) : validLS (l.drop i) p d = if (validS l[i] p d).1 = true then validLS (l.drop (i + 1)) (validS l[i] p d).2 d else (false, (validS l[i] p d).2) := by
 rw [List.drop_eq_getElem_cons h]; simp only [validLS]
theorem validLS_ok : ∀ (l : List Fm), (∀ f ∈ l, ∀ p d : Int, 0 ≤ p → (validS f p d).1 = true → 0 ≤ (validS f p d).2 ∧ (validS f p d).2 ≤ p) → ∀ p d : Int, 0 ≤ p → (validLS l p d).1 = true → 0 ≤ (validLS l p d).2 ∧ (validLS l p d).2 ≤ p
 | [], _, p, d, hp, _ => ⟨hp, Int.le_refl _⟩
 | f :: r, h, p, d, hp, ht => by
  simp only [validLS] at ht ⊢
  split at ht
  ·rename_i hf
   rw [if_pos hf]
   obtain ⟨h1, h2⟩ := h f (by simp) p d hp hf
   obtain ⟨h3, h4⟩ := validLS_ok r (fun g hg => h g (by simp [hg])) _ d h1 ht
   exact ⟨h3, by omega⟩
  ·cases ht
theorem validS_ok : ∀ f : Fm, ∀ p d : Int, 0 ≤ p → (validS f p d).1 = true → 0 ≤ (validS f p d).2 ∧ (validS f p d).2 ≤ p := Fm.ind fun k n t l ih p d hp ht => by
 simp only [validS] at ht ⊢
 split at ht
 ·cases ht
 ·rename_i hc
  rw [if_neg hc]
  obtain ⟨h1, h2⟩ := validLS_ok l ih (p - 1) (d - 1) (by have := fun h => hc (.inl h); omega) ht
  exact ⟨h1, by omega⟩
def cI (l : List Fm) (p d : Int) : Nat → Int
 | 0 => p
 | i + 1 => match l[i]? with
  | some f => if (validS f (cI l p d i) d).1 = true then (validS f (cI l p d i) d).2 else cI l p d i
  | none => cI l p d i
theorem cI_ok (l : List Fm) (p d : Int) (hp : 0 ≤ p) : ∀ i, 0 ≤ cI l p d i ∧ cI l p d i ≤ p
 | 0 => ⟨hp, Int.le_refl _⟩
 | i + 1 => by
  obtain ⟨h1, h2⟩ := cI_ok l p d hp i
  simp only [cI]
  split
  ·rename_i f hf
   split
   ·rename_i hv
    obtain ⟨h3, h4⟩ := validS_ok f _ d h1 hv
    exact ⟨h3, by omega⟩
   ·exact ⟨h1, h2⟩
  ·exact ⟨h1, h2⟩
theorem validS_eq (f : Fm) (p d : Int) : validS f p d = if p - 1 < 0 ∨ d = 0 ∨ leafS f.k f.n f.t f.l = false then (false, p - 1) else validLS f.l (p - 1) (d - 1) := by
 cases f; simp only [validS]; rfl
theorem valid_up : ∀ k, ∀ (f : Fm) (p d : Int), f.big ≤ 4611686018427387000 → 0 ≤ p → p ≤ 4611686018427387000 → 0 ≤ d → d ≤ 4611686018427387000 → Up (k < f.big) (G_valid k f d (p, ())) ((validS f p d).1, (((validS f p d).2, ()), ()))
 | 0 => fun f p d hb _ _ _ _ => .inr ⟨by unfold G_valid; rfl, by have := big_pos f; omega⟩
 | k + 1 => fun f p d hb hp0 hp1 hd0 hd1 => by
  have hkb := big_kids f
  have hln := length_le_big f.l
  have hmem : ∀ g ∈ f.l, g.big < f.big := fun g hg => by have := big_mem hg; omega
  rw [validS_eq]
  unfold G_valid
  simp only [Fm.eta_eq, leaf_val]
  rw [show IntKind.wrap .i64 (p - 1) = p - 1 from w64 (by omega) (by omega)]
  generalize leafS f.k f.n f.t f.l = b
  generalize f.l = l at hkb hln hmem
  by_cases h1 : p - 1 < 0
  ·simp only [h1, decide_true, cond_true, Bool.not_true, cond_false, Option.bind_some, true_or, if_true]; exact .of rfl
  ·by_cases h2 : d = 0
   ·simp only [h1, h2, decide_false, decide_true, cond_true, cond_false, Bool.not_true, Option.bind_some, true_or, or_true, if_true]; exact .of rfl
   ·cases b with
    | false => simp only [h1, h2, decide_false, cond_true, cond_false, Bool.not_false, Option.bind_some, or_true, if_true]; exact .of rfl
    | true =>
     simp only [h1, h2, decide_false, cond_true, cond_false, Bool.not_false, Bool.not_true, Option.bind_some, Bool.true_eq_false, or_false, if_false]
     refine loop_ix (fun i => (((), d, l, (l.length : Int), (i : Int), ()), ((cI l (p - 1) (d - 1) i, ()), ()))) (fun i => ((validLS (l.drop i) (cI l (p - 1) (d - 1) i) (d - 1)).1, (((validLS (l.drop i) (cI l (p - 1) (d - 1) i) (d - 1)).2, ()), ()))) l.length (fun i hi => ?_) ?_
     ·have e1 : decide ((i : Int) < (l.length : Int)) = true := by simp [hi]
      have e2 : ixOK (i : Int) l.length = true := ixOK_iff.2 (by omega)
      obtain ⟨c1, c2⟩ := cI_ok l (p - 1) (d - 1) (by omega) i
      have hg := hmem _ (List.getElem_mem hi)
      simp only [e1, e2, cond_true, Int.toNat_natCast, getD_in hi, Fm.eta_eq, wrapN (show i < 4611686018427387904 by omega), validLS_drop hi, w64 (show -9223372036854775808 ≤ d - 1 by omega) (by omega)]
      have hcI : cI l (p - 1) (d - 1) (i + 1) = if (validS l[i] (cI l (p - 1) (d - 1) i) (d - 1)).1 = true then (validS l[i] (cI l (p - 1) (d - 1) i) (d - 1)).2 else cI l (p - 1) (d - 1) i := by
       simp only [cI, List.getElem?_eq_getElem hi]
      rcases valid_up k l[i] (cI l (p - 1) (d - 1) i) (d - 1) (by omega) c1 (by omega) (by omega) (by omega) with h | ⟨h, hn⟩
      ·rw [h]
       simp only [Option.bind_some]
       by_cases hv : (validS l[i] (cI l (p - 1) (d - 1) i) (d - 1)).1 = true
       ·rw [if_pos hv] at hcI
        refine .inl ⟨?_, ?_⟩
        ·rw [hcI, hv]; rfl
        ·rw [if_pos hv, hcI]
       ·have hv' : (validS l[i] (cI l (p - 1) (d - 1) i) (d - 1)).1 = false := by simpa using hv
        refine .inr (.inl ⟨.done (false, (((validS l[i] (cI l (p - 1) (d - 1) i) (d - 1)).2, ()), ())), by rw [hv']; rfl, .of ?_⟩)
        rw [if_neg hv]
      ·rw [h]; exact .inr (.inr ⟨rfl, by omega⟩)
     ·refine ⟨.next ((), ((cI l (p - 1) (d - 1) l.length, ()), ())), by simp, .of ?_⟩
      simp [validLS]
theorem valid_val {f : Fm} {p d : Int} (hb : f.big ≤ 4611686018427387000) (h1 : 0 ≤ p) (h2 : p ≤ 4611686018427387000) (h3 : 0 ≤ d) (h4 : d ≤ 4611686018427387000) : L_valid f d (p, ()) = some ((validS f p d).1, (((validS f p d).2, ()), ())) := limF_up (b := f.big) fun k => valid_up k f p d hb h1 h2 h3 h4
theorem rvalid_val {f : Fm} (hb : f.big ≤ 4611686018427387000) : G_rvalid f = some (validF f) := by
 unfold G_rvalid
 rw [Fm.eta_eq, valid_val hb (by omega) (by omega) (by omega) (by omega)]
 rfl
theorem head_val (f : Fm) : G_head f = some (match (if f.k = 3 then f.l else []) with | [] => [] | g :: _ => if g.k = 1 then g.t else []) := by
 unfold G_head
 simp only [Fm.eta_eq, kids_val, Option.bind_some]
 generalize (if f.k = 3 then f.l else []) = l
 cases l with
 | nil => simp [ixOK]
 | cons g r =>
  have e : ixOK 0 (g :: r).length = true := ixOK_iff.2 (by simp only [List.length_cons]; omega)
  have e2 : decide (((g :: r).length : Int) > 0) = true := by simp only [List.length_cons]; simp
  simp only [e, e2, Bool.true_or, cond_true]
  show cond (decide (g.k = 1)) (some g.t) (some []) = _
  by_cases h : g.k = 1 <;> simp [h]
theorem one1_val : G_one1 text1 = some (form1, 0, ()) := by
 have hbig : form1.big ≤ 4611686018427387000 := by decide
 have hv : validF form1 = true := by kernel_rfl
 have hb : G_containsBad1 [form1] () = some false := by
  unfold G_containsBad1 G_indexBad
  rw [loopM_next (l' := (([form1], (), 1, 1, ()), ())) (by
   show (Option.bind (α := Bool) (G_readBad (Fm.eta form1)) fun r5 => _) = _
   unfold G_readBad
   rw [Fm.eta_eq, Fm.eta_eq, rvalid_val hbig, hv]
   rfl), loopM_done (r := .next ((), ())) (by rfl)]
  rfl
 unfold G_one1 G_read1
 have e1 : decide ((text1.length : Int) > 60000) = false := by decide
 have e2 : (atF [.d .str] (text1, ()) (([form1], (0 : Int), ()) : List Fm × Int × Unit) (text1, ())) = some ([form1], (0 : Int), ()) := by kernel_rfl
 rw [e1, e2]
 simp only [cond_false, Option.bind_some, decide_true, Bool.not_true, hb]
 rfl
theorem sane01_val : G_sane01 = some true := by
 have hbig : form1.big ≤ 4611686018427387000 := by decide
 unfold G_sane01
 rw [show ([40, 102, 32, 49, 32, 34, 97, 92, 110, 98, 34, 32, 40, 103, 41, 41] : List UInt8) = text1 from rfl, one1_val]
 simp only [Option.bind_some, decide_true, cond_true, Fm.eta_eq, size_val hbig, depth_val hbig, head_val]
 rfl
end Go.Ab

set_option maxRecDepth 100000
namespace Go.Ab
open Go Go.RowKit Go.Proofs
end Go.Ab

set_option maxRecDepth 100000
namespace Go.Ab
open Go Go.RowKit Go.Proofs
theorem Up.get {R : Type} {o : Option R} {v : R} (h : Up False o v) : o = some v := h.elim id fun h => h.2.elim
theorem byteAt_in {t : List UInt8} {i : Nat} (h : i < t.length) : byteAt t (i : Int) = (t[i].toNat : Int) := by
 unfold byteAt; simp [h]
theorem visible_val (c : UInt8) : G_visible (c.toNat : Int) = some (!outsideS c) := by
 have : ∀ n : Fin 256, G_visible ((UInt8.ofFin n).toNat : Int) = some (!outsideS (UInt8.ofFin n)) := by decide +kernel
 exact this c.toFin
theorem digitB_eq (c : UInt8) : digitB c = (decide (48 ≤ c.toNat) && decide (c.toNat ≤ 57)) := by
 have : ∀ n : Fin 256, digitB (UInt8.ofFin n) = (decide (48 ≤ (UInt8.ofFin n).toNat) && decide ((UInt8.ofFin n).toNat ≤ 57)) := by decide +kernel
 exact this c.toFin
theorem digits_loop (s : List UInt8) (hs : s.length ≤ 4611686018427387000) :
  Option.bind (α := Step (((List UInt8) × Unit) × (Unit)) (Bool))
 (loopM (L := ((List UInt8) × Int × Unit) × (Unit)) (R := Step (((List UInt8) × Unit) × (Unit)) (Bool)) (fun d3 => (
 let v0_4 := d3.1.1
 let v3_5 := d3.1.2.1
 cond (decide (v3_5 < (v0_4.length : Int))) (cond (ixOK v3_5 v0_4.length) (cond ((ixOK v3_5 v0_4.length) || !(!(decide (byteAt v0_4 v3_5 < 48)))) (cond (cond (decide (byteAt v0_4 v3_5 < 48)) true (decide (byteAt v0_4 v3_5 > 57))) (some (Step.done (Step.done false))) (some (Step.next ((v0_4, IntKind.wrap .i64 (v3_5 + 1), ()), ())))) none) none) (some (Step.done (Step.next ((v0_4, ()), ())))))) ((s, 0, ()), ())) (fun qd6 => match qd6 with
 | .next d6 => (
 let v0_7 := d6.1.1
 some (!decide (v0_7 = [])))
 | .done r => some r) = some (!decide (s = []) && s.all digitB) := by
 refine Up.get ?_
 have h := loop_ix (N := False) (F := fun qd6 : Step (((List UInt8) × Unit) × (Unit)) (Bool) => match qd6 with
 | .next d6 => (
 let v0_7 := d6.1.1
 some (!decide (v0_7 = [])))
 | .done r => some r) (b := (fun d3 : ((List UInt8) × Int × Unit) × (Unit) => (
 let v0_4 := d3.1.1
 let v3_5 := d3.1.2.1
 cond (decide (v3_5 < (v0_4.length : Int))) (cond (ixOK v3_5 v0_4.length) (cond ((ixOK v3_5 v0_4.length) || !(!(decide (byteAt v0_4 v3_5 < 48)))) (cond (cond (decide (byteAt v0_4 v3_5 < 48)) true (decide (byteAt v0_4 v3_5 > 57))) (some (Step.done (Step.done false))) (some (Step.next ((v0_4, IntKind.wrap .i64 (v3_5 + 1), ()), ())))) none) none) (some (Step.done (Step.next ((v0_4, ()), ()))))))) (fun i => ((s, (i : Int), ()), ())) (fun i => (!decide (s = []) && (s.drop i).all digitB)) s.length (fun i hi => ?_) ?_
 ·simpa using h
 ·have e1 : decide ((i : Int) < (s.length : Int)) = true := by simp [hi]
  have e2 : ixOK (i : Int) s.length = true := ixOK_iff.2 (by omega)
  have e3 : decide (s = []) = false := by
   apply decide_eq_false
   intro h
   simp [h] at hi
  rw [List.drop_eq_getElem_cons hi]
  simp only [e1, e2, e3, cond_true, Bool.true_or, byteAt_in hi, wrapN (show i < 4611686018427387904 by omega), List.all_cons, Bool.not_false, Bool.true_and]
  by_cases c : digitB s[i] = true
  ·have c' := c
   rw [digitB_eq] at c'
   simp only [Bool.and_eq_true, decide_eq_true_eq] at c'
   refine .inl ⟨?_, by rw [c]; simp⟩
   have a1 : ¬ ((s[i].toNat : Int) < 48) := by omega
   have a2 : ¬ ((s[i].toNat : Int) > 57) := by omega
   simp [a1, a2]
  ·refine .inr (.inl ⟨.done false, ?_, .of (by simp [c])⟩)
   rw [digitB_eq] at c
   by_cases a1 : ((s[i].toNat : Int) < 48)
   ·simp [a1]
   ·have a2 : ((s[i].toNat : Int) > 57) := by
     simp only [Bool.and_eq_true, decide_eq_true_eq] at c
     omega
    simp [a1, a2]
 ·refine ⟨.next ((s, ()), ()), by simp, .of (by simp)⟩
theorem digits_val {t : List UInt8} (ht : t.length ≤ 4611686018427387000) : G_digits t = some (numericS t) := by
 unfold G_digits
 rcases t with _ | ⟨c, _ | ⟨d, r⟩⟩
 ·simp only [List.length_nil]
  show Option.bind (some ((([] : List UInt8), ()), ())) _ = _
  simp only [Option.bind_some]
  refine (digits_loop [] (by simp)).trans ?_
  rfl
 ·have e2 : decide (([c].length : Int) > 1) = false := by simp
  simp only [e2, Bool.not_false, Bool.or_true, cond_true, cond_false, Option.bind_some]
  refine (digits_loop [c] (by simp)).trans ?_
  congr 1
  unfold numericS cutMinus
  by_cases h : c = 45
  ·subst h; simp [digitB]; decide
  ·simp [h]
 ·have e0 : ixOK 0 (c :: d :: r).length = true := ixOK_iff.2 (by simp only [List.length_cons]; omega)
  have e2 : decide (((c :: d :: r).length : Int) > 1) = true := by simp only [List.length_cons]; apply decide_eq_true; omega
  have e3 : byteAt (c :: d :: r) 0 = (c.toNat : Int) := byteAt_in (t := c :: d :: r) (i := 0) (by simp)
  simp only [List.length_cons] at ht
  simp only [e0, e2, e3, cond_true, Bool.true_or]
  by_cases h : c = 45
  ·subst h
   have e4 : slOK 1 (((45 : UInt8) :: d :: r).length : Int) ((45 : UInt8) :: d :: r).length = true := by simp [slOK]; omega
   have e5 : decide (((45 : UInt8).toNat : Int) = 45) = true := by decide
   have e6 : List.take ((((45 : UInt8) :: d :: r).length : Int).toNat - (1 : Int).toNat) (List.drop (1 : Int).toNat ((45 : UInt8) :: d :: r)) = d :: r := by
    simp only [List.length_cons, Int.toNat_one, Int.toNat_natCast, List.drop_succ_cons, List.drop_zero]
    apply List.take_of_length_le
    simp
   simp only [e4, e5, e6, cond_true, Option.bind_some]
   refine (digits_loop (d :: r) (by simp only [List.length_cons]; omega)).trans ?_
   simp [numericS, cutMinus]
  ·have e5 : decide ((c.toNat : Int) = 45) = false := by
    apply decide_eq_false
    intro hc
    exact h (UInt8.toNat_inj.1 (by simpa using (by omega : c.toNat = 45)))
   simp only [e5, cond_false, Option.bind_some]
   refine (digits_loop (c :: d :: r) (by simp only [List.length_cons]; omega)).trans ?_
   congr 1
   simp [numericS, cutMinus, h]
theorem isWord_val {t : List UInt8} (ht : t.length ≤ 4611686018427387000) : G_isWord t = some (wordS t && t.all fun c => !outsideS c) := by
 refine Up.get ?_
 unfold G_isWord
 refine loop_ix (fun i => ((t, (i : Int), ()), ())) (fun i => wordS t && (t.drop i).all fun c => !outsideS c) t.length (fun i hi => ?_) ?_
 ·have e1 : decide ((i : Int) < (t.length : Int)) = true := by simp [hi]
  have e2 : ixOK (i : Int) t.length = true := ixOK_iff.2 (by omega)
  rw [List.drop_eq_getElem_cons hi]
  simp only [e1, e2, cond_true, byteAt_in hi, visible_val, Option.bind_some, wrapN (show i < 4611686018427387904 by omega), List.all_cons]
  cases ho : outsideS t[i] with
  | false => exact .inl ⟨by simp, by simp⟩
  | true => exact .inr (.inl ⟨.done false, by simp, .of (by simp)⟩)
 ·refine ⟨.next ((t, ()), ()), by simp, .of ?_⟩
  simp only [List.drop_length, List.all_nil, Bool.and_true]
  unfold wordS
  by_cases h1 : t = []
  ·subst h1; simp
  ·have a1 : decide ((t.length : Int) ≥ 1) = true := by
    have := List.length_pos_iff.2 h1
    apply decide_eq_true; omega
   by_cases h2 : t.length ≤ 30
   ·have a2 : decide ((t.length : Int) ≤ 30) = true := by apply decide_eq_true; omega
    simp [a1, a2, h1, h2, digits_val ht]
   ·have a2 : decide ((t.length : Int) ≤ 30) = false := by apply decide_eq_false; omega
    simp [a1, a2, h1, h2]
def badB (c : UInt8) : Bool := badR c.toNat
theorem idxR_bad (s : List UInt8) : ∀ (f pos : Nat), s.length < pos + f → (0 ≤ idxR badR s f pos ↔ (s.drop pos).any badB = true)
 | 0, pos, h => by
  rw [List.drop_eq_nil_of_le (by omega)]
  simp [idxR]
 | f + 1, pos, h => by
  unfold idxR
  by_cases hp : pos < s.length
  ·rw [if_pos hp, List.drop_eq_getElem_cons hp, List.any_cons]
   have hsz : pos < (⟨s.toArray⟩ : ByteArray).size := by show pos < s.toArray.size; simpa using hp
   have hel : ((⟨s.toArray⟩ : ByteArray)[pos]'hsz) = s[pos] := by simp [ByteArray.getElem_eq_getElem_data]
   by_cases h8 : s[pos].toNat < 128
   ·have hd := decode_ascii ⟨s.toArray⟩ pos hsz (by rw [hel]; exact h8)
    rw [hd, hel]
    show (0 ≤ (if badR ((s[pos].toNat : Nat) : Int) = true then ((pos : Nat) : Int) else _) ↔ _)
    by_cases hb : badB s[pos] = true
    ·have hb' := hb
     unfold badB at hb'
     rw [if_pos hb', hb]
     simp
    ·have hb' := hb
     unfold badB at hb'
     rw [if_neg hb', idxR_bad s f (pos + 1) (by omega)]
     simp [hb]
   ·have hd := decode_high ⟨s.toArray⟩ pos hsz (by rw [hel]; omega)
    have hb1 : badR (Utf8.decode ⟨s.toArray⟩ pos).1 = true := by
     have := hd.1
     unfold badR
     have a1 : ¬ (((Utf8.decode ⟨s.toArray⟩ pos).1 : Int) = 10) := by omega
     have a2 : (126 < ((Utf8.decode ⟨s.toArray⟩ pos).1 : Int)) := by omega
     simp only [a1, a2, decide_true, decide_false, Bool.not_false, Bool.or_true, Bool.and_true]
    have hb2 : badB s[pos] = true := by
     unfold badB badR
     have a1 : ¬ ((s[pos].toNat : Int) = 10) := by omega
     have a2 : (126 < (s[pos].toNat : Int)) := by omega
     simp only [a1, a2, decide_true, decide_false, Bool.not_false, Bool.or_true, Bool.and_true]
    rw [if_pos hb1, hb2]
    simp
  ·rw [if_neg hp, List.drop_eq_nil_of_le (by omega)]
   simp
theorem badT_any (t : List UInt8) : badT t = t.any badB := by
 unfold badT
 have := idxR_bad t (t.length + 1) 0 (by omega)
 rw [List.drop_zero] at this
 cases h : t.any badB with
 | true => exact decide_eq_true (this.2 h)
 | false => exact decide_eq_false fun hc => by have := this.1 hc; rw [h] at this; cases this
theorem isText_val {t : List UInt8} (ht : t.length ≤ 4611686018427387000) : G_isText t = some (decide (t.length ≤ 2000) && !badT t) := by
 refine Up.get ?_
 rw [badT_any]
 unfold G_isText
 refine loop_ix (fun i => ((t, (i : Int), ()), ())) (fun i => decide (t.length ≤ 2000) && !(t.drop i).any badB) t.length (fun i hi => ?_) ?_
 ·have e1 : decide ((i : Int) < (t.length : Int)) = true := by simp [hi]
  have e2 : ixOK (i : Int) t.length = true := ixOK_iff.2 (by omega)
  rw [List.drop_eq_getElem_cons hi]
  simp only [e1, e2, cond_true, Bool.true_or, byteAt_in hi, wrapN (show i < 4611686018427387904 by omega), List.any_cons]
  have hb : badB t[i] = (cond (!decide ((t[i].toNat : Int) = 10)) (cond (decide ((t[i].toNat : Int) < 32)) true (decide ((t[i].toNat : Int) > 126))) false) := by
   unfold badB badR
   by_cases a1 : (t[i].toNat : Int) = 10
   ·simp only [a1, decide_true, Bool.not_true, cond_false, Bool.false_and]
   ·by_cases a2 : (t[i].toNat : Int) < 32
    ·simp only [a1, a2, decide_true, decide_false, Bool.not_false, cond_true, Bool.true_or, Bool.and_true]
    ·simp only [a1, a2, decide_false, Bool.not_false, cond_true, cond_false, Bool.false_or, Bool.true_and, gt_iff_lt]
  rw [← hb]
  cases ho : badB t[i] with
  | false => exact .inl ⟨by simp, by simp⟩
  | true => exact .inr (.inl ⟨.done false, by simp, .of (by simp)⟩)
 ·refine ⟨.next ((t, ()), ()), by simp, .of ?_⟩
  simp
  omega
mutual
def fieldsF : Fm → Bool
 | .mk k n t l => leafS k n t l && fieldsL l
def fieldsL : List Fm → Bool
 | [] => true
 | f :: r => fieldsF f && fieldsL r
end
theorem fieldsF_eq (f : Fm) : fieldsF f = (leafS f.k f.n f.t f.l && fieldsL f.l) := by cases f; simp only [fieldsF]; rfl
theorem fields_up : ∀ k, ∀ f : Fm, f.big ≤ 4611686018427387000 → Up (k < f.big) (G_fields k f) (fieldsF f)
 | 0 => fun f hb => .inr ⟨by unfold G_fields; rfl, by have := big_pos f; omega⟩
 | k + 1 => fun f hb => by
  have hkb := big_kids f
  have hl := length_le_big f.l
  have htb : f.t.length < f.big := by cases f; simp only [Fm.big, Fm.t]; omega
  unfold G_fields
  rw [fieldsF_eq]
  generalize f.k = a
  generalize f.n = n
  generalize f.t = t at htb
  generalize f.l = l at hkb hl
  by_cases h0 : a = 0
  ·subst h0
   simp only [leafS, decide_true, decide_false, Bool.not_true, Bool.not_false, cond_true, cond_false, if_true, Int.reduceEq]
   cases l with
   | cons g r =>
    have : decide ((((g :: r).length : Nat) : Int) > 0) = true := by simp only [List.length_cons]; apply decide_eq_true; omega
    simp only [this, cond_true]
    exact .of (by simp)
   | nil =>
    by_cases ht : t = []
    ·subst ht
     exact .of (by simp [fieldsL])
    ·exact .of (by simp [ht])
  ·by_cases hn : n = 0
   ·subst hn
    by_cases h3 : a = 3
    ·subst h3
     simp only [leafS, decide_true, decide_false, Bool.not_true, Bool.not_false, cond_true, cond_false, if_true, Int.reduceEq, if_false]
     by_cases ht : t = []
     ·subst ht
      simp only [decide_true, Bool.not_true, Bool.true_and, cond_false]
      refine Up.bind (v := Step.done (fieldsL l)) ?_ (.of rfl)
      refine loop_ix (fun i => (((3, 0, [], l, ()), (i : Int), ()), ())) (fun i => (Step.done (fieldsL (l.drop i)) : Step ((Unit) × (Unit)) (Bool))) l.length (fun i hi => ?_) ?_
      ·have e1 : decide ((i : Int) < (l.length : Int)) = true := by simp [hi]
       have e2 : ixOK (i : Int) l.length = true := ixOK_iff.2 (by omega)
       have hm := big_mem (List.getElem_mem hi)
       rw [List.drop_eq_getElem_cons hi]
       simp only [e1, e2, cond_true, Int.toNat_natCast, getD_in hi, Fm.eta_eq, wrapN (show i < 4611686018427387904 by omega), fieldsL]
       rcases fields_up k l[i] (by omega) with h | ⟨h, hn⟩
       ·rw [h]
        cases fieldsF l[i] with
        | true => exact .inl ⟨by simp, by simp⟩
        | false => exact .inr (.inl ⟨.done (.done false), by simp, .of (by simp)⟩)
       ·rw [h]; exact .inr (.inr ⟨rfl, by omega⟩)
      ·refine ⟨.next ((), ()), by simp, .of ?_⟩
       simp [fieldsL]
     ·exact .of (by simp [ht])
    ·cases l with
     | cons g r =>
      have : decide ((((g :: r).length : Nat) : Int) > 0) = true := by simp only [List.length_cons]; apply decide_eq_true; omega
      have hf : leafS a 0 t (g :: r) = false := by unfold leafS; simp [h0, h3]
      simp only [hf, h0, h3, this, decide_true, decide_false, Bool.not_true, Bool.not_false, cond_true, cond_false]
      exact .of (by simp)
     | nil =>
      by_cases h1 : a = 1
      ·subst h1
       refine .of ?_
       simp [isWord_val (show t.length ≤ 4611686018427387000 by omega), leafS, fieldsL]
      ·by_cases h2 : a = 2
       ·subst h2
        refine .of ?_
        simp [isText_val (show t.length ≤ 4611686018427387000 by omega), leafS, fieldsL]
       ·refine .of ?_
        have hf : leafS a 0 t [] = false := by unfold leafS; simp [h0, h1, h2, h3]
        simp only [hf, h0, h1, h2, h3, decide_true, decide_false, Bool.not_true, Bool.not_false, cond_true, cond_false, Option.bind_some, Bool.false_and]
        cases decide (t = []) <;> simp
   ·have hf : leafS a n t l = false := by unfold leafS; simp [h0, hn]
    refine .of ?_
    simp [h0, hn, hf]
theorem fields_val {f : Fm} (hb : f.big ≤ 4611686018427387000) : L_fields f = some (fieldsF f) := limF_up (b := f.big) fun k => fields_up k f hb
theorem refSize_up : ∀ k, ∀ f : Fm, f.big ≤ 4611686018427387000 → Up (k < f.big) (G_refSize k f) (f.size : Int)
 | 0 => fun f hb => .inr ⟨by unfold G_refSize; rfl, by have := big_pos f; omega⟩
 | k + 1 => fun f hb => by
  obtain ⟨a, n, t, l⟩ := f
  have hs := size_le (.mk a n t l)
  have hkb := big_kids (.mk a n t l)
  have hln := length_le_big l
  simp only [Fm.l] at hkb
  unfold G_refSize
  simp only [Fm.k, Fm.n, Fm.t, Fm.l]
  by_cases h3 : a = 3
  ·subst h3
   simp only [Fm.size, if_true] at hs ⊢
   refine loop_ix (fun i => (((3, n, t, l, ()), ((1 + Fm.sizeL (l.take i) : Nat) : Int), (i : Int), ()), ())) (fun i => ((1 + Fm.sizeL l : Nat) : Int)) l.length (fun i hi => ?_) ?_
   ·have e1 : decide ((i : Int) < (l.length : Int)) = true := by simp [hi]
    have e2 : ixOK (i : Int) l.length = true := ixOK_iff.2 (by omega)
    have hm := big_mem (List.getElem_mem hi)
    have h2 := sizeL_take l hi
    have h3 := sizeL_take_le l (i + 1)
    simp only [decide_true, e1, e2, cond_true, Int.toNat_natCast, getD_in hi, Fm.eta_eq, wrapN (show i < 4611686018427387904 by omega)]
    rcases refSize_up k l[i] (by omega) with h | ⟨h, hn⟩
    ·rw [h]
     refine .inl ⟨?_, trivial⟩
     simp only [Option.bind_some]
     rw [w64 (by omega) (by omega)]
     have : ((1 + Fm.sizeL (l.take i) : Nat) : Int) + (l[i].size : Int) = ((1 + Fm.sizeL (l.take (i + 1)) : Nat) : Int) := by omega
     rw [this]
    ·rw [h]; exact .inr (.inr ⟨rfl, by omega⟩)
   ·refine ⟨((((1 + Fm.sizeL (l.take l.length) : Nat) : Int), ()), ()), by simp, .of ?_⟩
    simp
  ·rw [loopM_done (r := ((1, ()), ())) (by simp [h3])]
   exact .of (by simp [Fm.size, h3])
theorem refSize_val {f : Fm} (hb : f.big ≤ 4611686018427387000) : L_refSize f = some (f.size : Int) := limF_up (b := f.big) fun k => refSize_up k f hb
theorem refDepth_up : ∀ k, ∀ f : Fm, f.big ≤ 4611686018427387000 → Up (k < f.big) (G_refDepth k f) (f.depth : Int)
 | 0 => fun f hb => .inr ⟨by unfold G_refDepth; rfl, by have := big_pos f; omega⟩
 | k + 1 => fun f hb => by
  obtain ⟨a, n, t, l⟩ := f
  have hs := depth_le (.mk a n t l)
  have hkb := big_kids (.mk a n t l)
  have hln := length_le_big l
  simp only [Fm.l] at hkb
  unfold G_refDepth
  simp only [Fm.k, Fm.n, Fm.t, Fm.l]
  by_cases h3 : a = 3
  ·subst h3
   simp only [Fm.depth, if_true] at hs ⊢
   refine loop_ix (fun i => (((3, n, t, l, ()), (Fm.depthL (l.take i) : Int), (i : Int), ()), ())) (fun i => ((1 + Fm.depthL l : Nat) : Int)) l.length (fun i hi => ?_) ?_
   ·have e1 : decide ((i : Int) < (l.length : Int)) = true := by simp [hi]
    have e2 : ixOK (i : Int) l.length = true := ixOK_iff.2 (by omega)
    have hm := big_mem (List.getElem_mem hi)
    have h2 := depthL_take l hi
    simp only [decide_true, e1, e2, cond_true, Int.toNat_natCast, getD_in hi, Fm.eta_eq, wrapN (show i < 4611686018427387904 by omega)]
    rcases refDepth_up k l[i] (by omega) with h | ⟨h, hn⟩
    ·rw [h]
     refine .inl ⟨?_, trivial⟩
     simp only [Option.bind_some]
     have : (if (l[i].depth : Int) > (Fm.depthL (l.take i) : Int) then (l[i].depth : Int) else (Fm.depthL (l.take i) : Int)) = (Fm.depthL (l.take (i + 1)) : Int) := by
      rw [h2]; split <;> omega
     rw [this]
    ·rw [h]; exact .inr (.inr ⟨rfl, by omega⟩)
   ·refine ⟨(((Fm.depthL (l.take l.length) : Int), ()), ()), by simp, .of ?_⟩
    simp only [List.take_length]
    rw [w64 (by omega) (by omega)]
    congr 1; omega
  ·rw [loopM_done (r := ((0, ()), ())) (by simp [h3])]
   exact .of (by simp only [Option.bind_some, Fm.depth, h3, if_false]; rfl)
theorem refDepth_val {f : Fm} (hb : f.big ≤ 4611686018427387000) : L_refDepth f = some (f.depth : Int) := limF_up (b := f.big) fun k => refDepth_up k f hb
theorem leafS_kids {k n : Int} {t : List UInt8} {l : List Fm} (h : leafS k n t l = true) : k = 3 ∨ l = [] := by
 unfold leafS at h
 by_cases h3 : k = 3
 ·exact .inl h3
 ·by_cases hl : l = []
  ·exact .inr hl
  ·exfalso
   revert h
   split
   ·simp [hl]
   ·split
    ·simp [hl]
    ·split
     ·simp [hl]
     ·simp [h3]
theorem validLS_iff : ∀ (l : List Fm), (∀ f ∈ l, ∀ p d : Int, 0 ≤ p → 0 ≤ d → (validS f p d).1 = (fieldsF f && (decide ((f.size : Int) ≤ p) && decide ((f.depth : Int) ≤ d))) ∧ ((validS f p d).1 = true → (validS f p d).2 = p - f.size)) →
  ∀ p d : Int, 0 ≤ p → 0 ≤ d → (validLS l p d).1 = (fieldsL l && (decide ((Fm.sizeL l : Int) ≤ p) && decide ((Fm.depthL l : Int) ≤ d))) ∧ ((validLS l p d).1 = true → (validLS l p d).2 = p - Fm.sizeL l)
 | [], _, p, d, hp, hd => by
  simp only [validLS, fieldsL, Fm.sizeL, Fm.depthL]
  refine ⟨?_, fun _ => by simp⟩
  simp [hp, hd]
 | f :: r, h, p, d, hp, hd => by
  obtain ⟨h1, h2⟩ := h f (by simp) p d hp hd
  simp only [validLS, fieldsL, Fm.sizeL, Fm.depthL]
  by_cases hv : (validS f p d).1 = true
  ·rw [if_pos hv]
   have h2' := h2 hv
   rw [hv] at h1
   have h1' := h1.symm
   simp only [Bool.and_eq_true, decide_eq_true_eq] at h1'
   obtain ⟨a1, a2, a3⟩ := h1'
   obtain ⟨b1, b2⟩ := validLS_iff r (fun g hg => h g (by simp [hg])) (validS f p d).2 d (by omega) hd
   refine ⟨?_, fun ht => by have := b2 ht; omega⟩
   rw [b1, a1, h2']
   simp only [Bool.true_and]
   congr 2
   ·apply decide_eq_decide.2; omega
   ·apply decide_eq_decide.2; omega
  ·rw [if_neg hv]
   have hv' : (validS f p d).1 = false := by simpa using hv
   rw [hv'] at h1
   refine ⟨?_, fun h => by cases h⟩
   simp only
   symm
   by_cases a1 : fieldsF f = true
   ·by_cases a2 : (f.size : Int) ≤ p
    ·have a3 : ¬ (f.depth : Int) ≤ d := fun a3 => by rw [a1, decide_eq_true a2, decide_eq_true a3] at h1; cases h1
     have : ¬ (((max f.depth (Fm.depthL r) : Nat) : Int) ≤ d) := by omega
     simp only [this, decide_false, Bool.and_false]
    ·have : ¬ (((f.size + Fm.sizeL r : Nat) : Int) ≤ p) := by omega
     simp only [this, decide_false, Bool.false_and, Bool.and_false]
   ·simp [a1]
theorem validS_iff : ∀ f : Fm, ∀ p d : Int, 0 ≤ p → 0 ≤ d → (validS f p d).1 = (fieldsF f && (decide ((f.size : Int) ≤ p) && decide ((f.depth : Int) ≤ d))) ∧ ((validS f p d).1 = true → (validS f p d).2 = p - f.size) := Fm.ind fun k n t l ih p d hp hd => by
 have eS : (Fm.mk k n t l).size = 1 + (if k = 3 then Fm.sizeL l else 0) := by simp only [Fm.size]
 have eD : (Fm.mk k n t l).depth = 1 + (if k = 3 then Fm.depthL l else 0) := by simp only [Fm.depth]
 generalize (Fm.mk k n t l).size = S at eS ⊢
 generalize (Fm.mk k n t l).depth = D at eD ⊢
 simp only [validS, fieldsF]
 by_cases h1 : p - 1 < 0
 ·rw [if_pos (.inl h1)]
  refine ⟨?_, fun h => by cases h⟩
  have : ¬ ((S : Int) ≤ p) := by omega
  simp only [this, decide_false, Bool.false_and, Bool.and_false]
 ·by_cases h2 : d = 0
  ·rw [if_pos (.inr (.inl h2))]
   refine ⟨?_, fun h => by cases h⟩
   have : ¬ ((D : Int) ≤ d) := by omega
   simp only [this, decide_false, Bool.and_false]
  ·by_cases h3 : leafS k n t l = false
   ·rw [if_pos (.inr (.inr h3)), h3]
    exact ⟨by simp, fun h => by cases h⟩
   ·rw [if_neg (fun h => h.elim h1 fun h => h.elim h2 h3)]
    have h3' : leafS k n t l = true := by simpa using h3
    obtain ⟨b1, b2⟩ := validLS_iff l ih (p - 1) (d - 1) (by omega) (by omega)
    have hs : (if k = 3 then Fm.sizeL l else 0) = Fm.sizeL l ∧ (if k = 3 then Fm.depthL l else 0) = Fm.depthL l := by
     rcases leafS_kids h3' with rfl | rfl
     ·simp
     ·simp [Fm.sizeL, Fm.depthL]
    rw [hs.1] at eS
    rw [hs.2] at eD
    rw [h3', b1]
    refine ⟨?_, fun ht => by rw [← b1] at ht; have := b2 ht; omega⟩
    simp only [Bool.true_and]
    congr 2
    ·apply decide_eq_decide.2; omega
    ·apply decide_eq_decide.2; omega
theorem refValid_val {f : Fm} (hb : f.big ≤ 4611686018427387000) : G_refValid f = some (validF f) := by
 unfold G_refValid G_small1 validF
 rw [(validS_iff f 20000 100 (by omega) (by omega)).1]
 simp only [Fm.eta_eq, fields_val hb, refSize_val hb, refDepth_val hb, Option.bind_some]
 cases fieldsF f with
 | false => rfl
 | true =>
  by_cases h : (f.size : Int) ≤ 20000
  ·simp [h]
  ·simp [h]
end Go.Ab

set_option maxRecDepth 100000
namespace Go.Ab
open Go Go.RowKit Go.Proofs
theorem ymg {R : Type} {a b : Option R} {v : R} (ha : a = some v) (hb : b = some v) : mgC a b = some v := by
 subst ha; subst hb
 unfold mgC
 split
 ·rfl
 ·rename_i h _; exact absurd rfl h
section
variable {α : Type} {P : List α} {x y d : α}
theorem stk_len : (P ++ [x]).length = P.length + 1 := by simp
theorem stk_get : (P ++ [x]).getD P.length d = x := by simp [List.getD_eq_getElem?_getD]
theorem stk_set : (P ++ [x]).set P.length y = P ++ [y] := by
 rw [List.set_append_right _ _ (Nat.le_refl _), Nat.sub_self]; rfl
theorem stk_take : (P ++ [x]).take P.length = P := by simp
theorem stk_top (h : P.length < 4611686018427387904) : IntKind.wrap .i64 (((P.length + 1 : Nat) : Int) - 1) = (P.length : Int) := by
 rw [w64 (by omega) (by omega)]; omega
theorem one_set {f z : α} {n : Nat} : [z].set (n - n) f = [f] := by rw [Nat.sub_self]; rfl
end
theorem touches_val (c : UInt8) : G_touches ((c.toNat : Nat) : Int) = some (decide (c = 34) || visS c) := by
 unfold G_touches
 have q34 : decide (((c.toNat : Nat) : Int) = 34) = decide (c = 34) := ybyteD _ 34 (by decide)
 simp only [q34, yout]
 cases hc : decide (c = 34) with
 | true => rfl
 | false => rfl
def resP : Int ⊕ List Fm → List Fm × Int × Unit
 | .inl e => ([], e, ())
 | .inr l => (l, 0, ())
structure Szs (j : Nat) (top : List Fm) (st : List (List Fm)) : Prop where
 hst : st.length ≤ j
 htop : top.length ≤ j
 hrows : ∀ t ∈ st, t.length ≤ j
theorem Szs.app {j j' : Nat} {top : List Fm} {st : List (List Fm)} (h : Szs j top st) (hj : j < j') (f : Fm) : Szs j' (top ++ [f]) st :=
 ⟨by have := h.hst; omega, by have := h.htop; simp; omega, fun t ht => by have := h.hrows t ht; omega⟩
theorem Szs.push {j j' : Nat} {top : List Fm} {st : List (List Fm)} (h : Szs j top st) (hj : j < j') : Szs j' [] (top :: st) :=
 ⟨by have := h.hst; simp only [List.length_cons]; omega, by simp, fun t ht => by
  rcases List.mem_cons.1 ht with rfl | ht
  ·have := h.htop; omega
  ·have := h.hrows t ht; omega⟩
theorem Szs.pop {j j' : Nat} {top t : List Fm} {st : List (List Fm)} (h : Szs j top (t :: st)) (hj : j < j') (f : Fm) : Szs j' (t ++ [f]) st :=
 ⟨by have := h.hst; simp only [List.length_cons] at this; omega, by have := h.hrows t (by simp); simp; omega, fun x hx => by have := h.hrows x (by simp [hx]); omega⟩
theorem Szs.le {j j' : Nat} {top : List Fm} {st : List (List Fm)} (h : Szs j top st) (hj : j ≤ j') : Szs j' top st :=
 ⟨Nat.le_trans h.hst hj, Nat.le_trans h.htop hj, fun t ht => Nat.le_trans (h.hrows t ht) hj⟩
theorem ywpv {L R : Type} {b : L → Option (Step L R)} {l0 : L} {v : R} (I : L → Prop) (μ : L → Nat) (h0 : I l0)
  (h : ∀ l, I l → (∃ l', b l = some (.next l') ∧ I l' ∧ μ l' < μ l) ∨ b l = some (.done v)) : loopM b l0 = some v := by
 obtain ⟨r, h1, h2⟩ := ywp I μ (fun r => r = v) (fun l hl => (h l hl).imp id fun h => ⟨v, h, rfl⟩) h0
 rw [← h2]; exact h1
end Go.Ab
