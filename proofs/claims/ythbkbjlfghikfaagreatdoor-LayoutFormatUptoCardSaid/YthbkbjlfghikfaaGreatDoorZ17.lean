/-
  LAYOUT in plain terms: both ways to find the remarks and forms of a text that is read come to the same.
-/
import Derived.Test.YthbkbjlfghikfaaGreatDoorZ16
import Derived.Lib.AtoiAllCases
import Derived.Test.YthbkbjlfghikfaaGreatDoorZ15
set_option linter.unusedVariables false
set_option linter.unusedSimpArgs false
set_option maxRecDepth 100000
namespace Go.Ab
open Go Go.RowKit Go.Proofs
def valD (acc : Nat) (r : List UInt8) : Nat := r.foldl (fun a c => 10 * a + (c.toNat - 48)) acc
theorem valD_cons (acc : Nat) (c : UInt8) (r : List UInt8) : valD acc (c :: r) = valD (10 * acc + (c.toNat - 48)) r := by unfold valD; rw [List.foldl_cons]
theorem valD_nil (acc : Nat) : valD acc [] = acc := by unfold valD; rw [List.foldl_nil]
theorem valD_ge (r : List UInt8) : ∀ acc : Nat, acc ≤ valD acc r := by
 induction r with
 | nil => intro acc; rw [valD_nil]; exact Nat.le_refl _
 | cons c r ih =>
  intro acc
  have h := ih (10 * acc + (c.toNat - 48))
  rw [valD_cons]
  exact Nat.le_trans (by omega) h
theorem digit_iff (c : UInt8) : digitB c = true ↔ 48 ≤ c.toNat ∧ c.toNat ≤ 57 := by
 have : ∀ n : Fin 256, digitB (UInt8.ofFin n) = true ↔ 48 ≤ (UInt8.ofFin n).toNat ∧ (UInt8.ofFin n).toNat ≤ 57 := by decide +kernel
 exact this c.toFin
theorem parse_digits : ∀ (r : List UInt8) (acc : Nat), r.all digitB = true → match Lib.parseUint10 acc r with
  | .ok u => u = valD acc r
  | .range => 18446744073709551616 ≤ valD acc r
  | _ => False
 | [], acc, h => by simp only [Lib.parseUint10, valD_nil]
 | c :: r, acc, h => by
  simp only [List.all_cons, Bool.and_eq_true] at h
  have hc := (digit_iff c).1 h.1
  have hge := valD_ge r (10 * acc + (c.toNat - 48))
  have ih := parse_digits r (10 * acc + (c.toNat - 48)) h.2
  rw [valD_cons]
  generalize valD (10 * acc + (c.toNat - 48)) r = v at hge ih ⊢
  simp only [Lib.parseUint10, if_pos hc]
  by_cases h1 : 1844674407370955162 ≤ acc
  ·rw [if_pos h1]
   show 18446744073709551616 ≤ v
   omega
  ·rw [if_neg h1]
   by_cases h2 : 18446744073709551616 ≤ acc * 10 + (c.toNat - 48)
   ·rw [if_pos h2]
    show 18446744073709551616 ≤ v
    omega
   ·rw [if_neg h2, Nat.mul_comm acc 10]
    exact ih
def numS (w : List UInt8) : Int × Int :=
 if (1 < (cutMinus w).length ∧ (cutMinus w).head? = some 48) ∨ w = [45, 48] then (0, 4)
 else if 1152921504606846976 < valD 0 (cutMinus w) then (0, 5)
 else (if w.head? = some 45 then - (valD 0 (cutMinus w) : Int) else (valD 0 (cutMinus w) : Int), 0)
theorem num_atoi {w : List UInt8} (h : numericS w = true) : (match Lib.atoiAll w with
   | .ok v => if v < -1152921504606846976 ∨ v > 1152921504606846976 then ((0 : Int), (5 : Int)) else (v, 0)
   | _ => (0, 5)) = if 1152921504606846976 < valD 0 (cutMinus w) then (0, 5) else (if w.head? = some 45 then - (valD 0 (cutMinus w) : Int) else (valD 0 (cutMinus w) : Int), 0) := by
 unfold numericS at h
 simp only [Bool.and_eq_true, decide_eq_true_eq] at h
 obtain ⟨hne, hd⟩ := h
 have hp := parse_digits (cutMinus w) 0 hd
 generalize hv : valD 0 (cutMinus w) = V at hp ⊢
 cases w with
 | nil => exact absurd rfl hne
 | cons c r =>
  have hc45 : (c.toNat = 45) ↔ c = 45 := by
   constructor
   ·intro e; exact UInt8.toNat_inj.1 e
   ·intro e; subst e; rfl
  by_cases h45 : c = 45
  ·have hcm : cutMinus (c :: r) = r := by unfold cutMinus; rw [if_pos (by simp [h45])]; rfl
   rw [hcm] at hne hp
   have hh : (c :: r).head? = some 45 := by simp [h45]
   have hn : c.toNat = 45 := hc45.2 h45
   simp only [hh, if_true]
   have hm : Lib.parseMag r = Lib.parseUint10 0 r := by unfold Lib.parseMag; rw [if_neg hne]
   clear hv
   simp only [Lib.atoiAll, hn, or_true, if_true, hm]
   cases hx : Lib.parseUint10 0 r with
   | ok u =>
    rw [hx] at hp
    have hp : V = u := Eq.symm hp
    subst hp
    simp only [not_true_eq_false, false_and, if_false, true_and]
    by_cases hb : 9223372036854775808 < V
    ·rw [if_pos hb, if_pos (by omega)]
    ·rw [if_neg hb]
     simp only
     by_cases hm : 1152921504606846976 < V
     ·rw [if_pos hm, if_pos (by omega)]
     ·rw [if_neg hm, if_neg (by omega)]
   | range =>
    rw [hx] at hp
    have hp : 18446744073709551616 ≤ V := hp
    simp only
    rw [if_pos (by omega)]
   | _ => rw [hx] at hp; exact hp.elim
  ·have hcm : cutMinus (c :: r) = c :: r := by unfold cutMinus; rw [if_neg (by simp [h45])]
   rw [hcm] at hne hp hd
   have hh : ¬ (c :: r).head? = some 45 := by simp [h45]
   have hdc := (digit_iff c).1 (by simp only [List.all_cons, Bool.and_eq_true] at hd; exact hd.1)
   have hn : ¬ c.toNat = 45 := by omega
   have hn3 : ¬ (c.toNat = 43 ∨ c.toNat = 45) := by omega
   simp only [hh, if_false]
   have hm : Lib.parseMag (c :: r) = Lib.parseUint10 0 (c :: r) := by unfold Lib.parseMag; rw [if_neg hne]
   clear hv
   have hn43 : ¬ c.toNat = 43 := by omega
   simp only [Lib.atoiAll, hn, hn43, or_self, if_false, hm]
   cases hx : Lib.parseUint10 0 (c :: r) with
   | ok u =>
    rw [hx] at hp
    have hp : V = u := Eq.symm hp
    subst hp
    simp only [not_false_eq_true, true_and, false_and, if_false]
    by_cases hb : 9223372036854775808 ≤ V
    ·rw [if_pos hb, if_pos (by omega)]
    ·rw [if_neg hb]
     simp only
     by_cases hm : 1152921504606846976 < V
     ·rw [if_pos hm, if_pos (by omega)]
     ·rw [if_neg hm, if_neg (by omega)]
   | range =>
    rw [hx] at hp
    have hp : 18446744073709551616 ≤ V := hp
    simp only
    rw [if_pos (by omega)]
   | _ => rw [hx] at hp; exact hp.elim
theorem num_nosyn {w : List UInt8} (h : numericS w = true) : (match Lib.atoiAll w with
  | .ok _ => True
  | .range => True
  | _ => False) := by
 unfold numericS at h
 simp only [Bool.and_eq_true, decide_eq_true_eq] at h
 obtain ⟨hne, hd⟩ := h
 have hp := parse_digits (cutMinus w) 0 hd
 cases hs : Lib.atoiAll w with
 | ok v => trivial
 | range => trivial
 | _ =>
 exfalso
 cases w with
 | nil => exact absurd rfl hne
 | cons c r =>
  by_cases h45 : c = 45
  ·have hcm : cutMinus (c :: r) = r := by unfold cutMinus; rw [if_pos (by simp [h45])]; rfl
   rw [hcm] at hne hp
   have hm : Lib.parseMag r = Lib.parseUint10 0 r := by unfold Lib.parseMag; rw [if_neg hne]
   subst h45
   have e : (45 : UInt8).toNat = 45 := rfl
   simp only [Lib.atoiAll, e, or_true, if_true, hm] at hs
   cases hx : Lib.parseUint10 0 r with
   | range => rw [hx] at hs; cases hs
   | ok u =>
    rw [hx] at hs
    simp only at hs
    split at hs
    ·cases hs
    ·split at hs <;> cases hs
   | _ => rw [hx] at hp; exact hp
  ·have hcm : cutMinus (c :: r) = c :: r := by unfold cutMinus; rw [if_neg (by simp [h45])]
   rw [hcm] at hne hp hd
   have hdc := (digit_iff c).1 (by simp only [List.all_cons, Bool.and_eq_true] at hd; exact hd.1)
   have hm : Lib.parseMag (c :: r) = Lib.parseUint10 0 (c :: r) := by unfold Lib.parseMag; rw [if_neg hne]
   have hn : ¬ c.toNat = 45 := by omega
   have hn43 : ¬ c.toNat = 43 := by omega
   simp only [Lib.atoiAll, hn, hn43, or_self, if_false, hm] at hs
   cases hx : Lib.parseUint10 0 (c :: r) with
   | range => rw [hx] at hs; cases hs
   | ok u =>
    rw [hx] at hs
    simp only at hs
    split at hs
    ·cases hs
    ·split at hs <;> cases hs
   | _ => rw [hx] at hp; exact hp
end Go.Ab

set_option maxRecDepth 100000
namespace Go.Ab
open Go Go.RowKit Go.Proofs
theorem number_val {w : List UInt8} (hw : w.length ≤ 1000000000) (h : numericS w = true) : G_numberA w = some ((numS w).1, (numS w).2, ()) := by
 have hc : trimPrefixF w [45] = cutMinus w := cutMinus_eq w
 have hne : cutMinus w ≠ [] := by
  unfold numericS at h
  simp only [Bool.and_eq_true, decide_eq_true_eq] at h
  exact h.1
 have hpos : 0 < (cutMinus w).length := List.length_pos_iff.2 hne
 have hat := num_atoi h
 unfold G_numberA
 rw [hc]
 have x1 : ixOK 0 (cutMinus w).length = true := ixOK_iff.2 (by omega)
 refine ycond (by rw [x1]; rfl) ?_
 have hb : byteAt (cutMinus w) 0 = (((cutMinus w)[0].toNat : Nat) : Int) := ybyte (i := 0) hpos
 have hh : (cutMinus w).head? = some (cutMinus w)[0] := by rw [List.head?_eq_getElem?, List.getElem?_eq_getElem hpos]
 have q48 : decide (byteAt (cutMinus w) 0 = 48) = decide ((cutMinus w)[0] = 48) := by rw [hb]; exact ybyteD _ 48 (by decide)
 rw [q48]
 unfold numS
 rw [hh]
 by_cases hz : (1 < (cutMinus w).length ∧ some (cutMinus w)[0] = some 48) ∨ w = [45, 48]
 ·rw [if_pos hz]
  refine ycond ?_ rfl
  rcases hz with ⟨z1, z2⟩ | z
  ·have e1 : decide (((cutMinus w).length : Int) > 1) = true := decide_eq_true (by omega)
   have e2 : decide ((cutMinus w)[0] = 48) = true := decide_eq_true (Option.some.inj z2)
   rw [e1, e2]; rfl
  ·rw [decide_eq_true z]
   cases cond (decide (((cutMinus w).length : Int) > 1)) (decide ((cutMinus w)[0] = 48)) false <;> rfl
 ·rw [if_neg hz]
  have z1 : ¬ (1 < (cutMinus w).length ∧ some (cutMinus w)[0] = some 48) := fun h => hz (.inl h)
  have z2 : ¬ w = [45, 48] := fun h => hz (.inr h)
  refine ycondn ?_ ?_
  ·rw [decide_eq_false z2]
   by_cases e : ((cutMinus w).length : Int) > 1
   ·have : ¬ (cutMinus w)[0] = 48 := fun h => z1 ⟨by omega, by rw [h]⟩
    rw [decide_eq_true e, decide_eq_false this]; rfl
   ·rw [decide_eq_false e]; rfl
  ·unfold atoiF
   rw [if_pos (by omega)]
   rw [← hat]
   cases hx : Lib.atoiAll w with
   | ok v =>
    simp only [Option.bind_some, Bool.not_true, cond_false]
    by_cases c : v < -1152921504606846976 ∨ v > 1152921504606846976
    ·rw [if_pos c]
     refine ycond ?_ rfl
     rcases c with c | c
     ·rw [decide_eq_true c]; rfl
     ·rw [decide_eq_true c]; cases decide (v < -1152921504606846976) <;> rfl
    ·rw [if_neg c]
     simp only [not_or] at c
     refine ycondn ?_ rfl
     rw [decide_eq_false c.1, decide_eq_false c.2]; rfl
   | range => rfl
   | _ =>
    exfalso
    have hp := parse_digits (cutMinus w) 0 (by unfold numericS at h; simp only [Bool.and_eq_true] at h; exact h.2)
    have := num_nosyn h
    rw [hx] at this
    exact this
end Go.Ab

set_option maxRecDepth 100000
namespace Go.Ab
open Go Go.RowKit Go.Proofs
end Go.Ab

set_option maxRecDepth 100000
namespace Go.Ab
open Go Go.RowKit Go.Proofs
theorem ymg {R : Type} {a b : Option R} {v : R} (ha : a = some v) (hb : b = some v) : mgC a b = some v := by
 subst ha; subst hb
 unfold mgC
 split
 ·rfl
 ·rename_i h _; exact absurd rfl h
section
variable {α : Type} {P : List α} {x y d : α}
theorem stk_len : (P ++ [x]).length = P.length + 1 := by simp
theorem stk_get : (P ++ [x]).getD P.length d = x := by simp [List.getD_eq_getElem?_getD]
theorem stk_set : (P ++ [x]).set P.length y = P ++ [y] := by
 rw [List.set_append_right _ _ (Nat.le_refl _), Nat.sub_self]; rfl
theorem stk_take : (P ++ [x]).take P.length = P := by simp
theorem stk_top (h : P.length < 4611686018427387904) : IntKind.wrap .i64 (((P.length + 1 : Nat) : Int) - 1) = (P.length : Int) := by
 rw [w64 (by omega) (by omega)]; omega
theorem one_set {f z : α} {n : Nat} : [z].set (n - n) f = [f] := by rw [Nat.sub_self]; rfl
end
theorem touches_val (c : UInt8) : G_touches ((c.toNat : Nat) : Int) = some (decide (c = 34) || visS c) := by
 unfold G_touches
 have q34 : decide (((c.toNat : Nat) : Int) = 34) = decide (c = 34) := ybyteD _ 34 (by decide)
 simp only [q34, yout]
 cases hc : decide (c = 34) with
 | true => rfl
 | false => rfl
def resP : Int ⊕ List Fm → List Fm × Int × Unit
 | .inl e => ([], e, ())
 | .inr l => (l, 0, ())
structure Szs (j : Nat) (top : List Fm) (st : List (List Fm)) : Prop where
 hst : st.length ≤ j
 htop : top.length ≤ j
 hrows : ∀ t ∈ st, t.length ≤ j
theorem Szs.app {j j' : Nat} {top : List Fm} {st : List (List Fm)} (h : Szs j top st) (hj : j < j') (f : Fm) : Szs j' (top ++ [f]) st :=
 ⟨by have := h.hst; omega, by have := h.htop; simp; omega, fun t ht => by have := h.hrows t ht; omega⟩
theorem Szs.push {j j' : Nat} {top : List Fm} {st : List (List Fm)} (h : Szs j top st) (hj : j < j') : Szs j' [] (top :: st) :=
 ⟨by have := h.hst; simp only [List.length_cons]; omega, by simp, fun t ht => by
  rcases List.mem_cons.1 ht with rfl | ht
  ·have := h.htop; omega
  ·have := h.hrows t ht; omega⟩
theorem Szs.pop {j j' : Nat} {top t : List Fm} {st : List (List Fm)} (h : Szs j top (t :: st)) (hj : j < j') (f : Fm) : Szs j' (t ++ [f]) st :=
 ⟨by have := h.hst; simp only [List.length_cons] at this; omega, by have := h.hrows t (by simp); simp; omega, fun x hx => by have := h.hrows x (by simp [hx]); omega⟩
theorem Szs.le {j j' : Nat} {top : List Fm} {st : List (List Fm)} (h : Szs j top st) (hj : j ≤ j') : Szs j' top st :=
 ⟨Nat.le_trans h.hst hj, Nat.le_trans h.htop hj, fun t ht => Nat.le_trans (h.hrows t ht) hj⟩
theorem ywpv {L R : Type} {b : L → Option (Step L R)} {l0 : L} {v : R} (I : L → Prop) (μ : L → Nat) (h0 : I l0)
  (h : ∀ l, I l → (∃ l', b l = some (.next l') ∧ I l' ∧ μ l' < μ l) ∨ b l = some (.done v)) : loopM b l0 = some v := by
 obtain ⟨r, h1, h2⟩ := ywp I μ (fun r => r = v) (fun l hl => (h l hl).imp id fun h => ⟨v, h, rfl⟩) h0
 rw [← h2]; exact h1
end Go.Ab

set_option maxRecDepth 100000
namespace Go.Ab
open Go Go.RowKit Go.Proofs
theorem touch_part {A : Type} {s q : List UInt8} {j : Nat} (hj : j ≤ s.length) (hd : s.drop j = q) (X Y : Option A) :
  cond ((ixOK (j : Int) s.length) || !(decide ((j : Int) < (s.length : Int)))) (Option.bind (cond (decide ((j : Int) < (s.length : Int))) (G_touches (byteAt s (j : Int))) (some false)) fun r10 => cond (cond (decide ((j : Int) < (s.length : Int))) r10 false) X Y) none = cond (touchS visS q) X Y := by
 by_cases h : j < s.length
 ·have x1 : ixOK (j : Int) s.length = true := ixOK_iff.2 (by omega)
  have c1 : decide ((j : Int) < (s.length : Int)) = true := decide_eq_true (by omega)
  rw [ydrop h] at hd
  subst hd
  simp only [x1, c1, Bool.true_or, cond_true, ybyte h, touches_val, Option.bind_some, touchS]
 ·have c1 : decide ((j : Int) < (s.length : Int)) = false := decide_eq_false (by omega)
  have hq : q = [] := by rw [← hd]; exact List.drop_of_length_le (by omega)
  subst hq
  simp only [c1, Bool.not_false, Bool.or_true, cond_true, cond_false, Option.bind_some, touchS]
theorem parse_val {s : List UInt8} (hs : s.length ≤ 1000000000) : G_parse s = some (resP (parseS visS (tokS numS) (s.length + 1) s [] [])) := by
 unfold G_parse
 generalize hT0 : parseS visS (tokS numS) (s.length + 1) s [] [] = T0
 refine ywpv (fun l => ∃ (j : Nat) (top : List Fm) (st : List (List Fm)) (n : Nat), l = (((), (), ()), ((s, (j : Int), ()), st.reverse ++ [top], ())) ∧ j ≤ s.length ∧ s.length - j < n ∧ parseS visS (tokS numS) n (s.drop j) top st = T0 ∧ Szs j top st)
  (fun l => s.length - l.2.1.2.1.toNat) ⟨0, [], [], s.length + 1, rfl, Nat.zero_le _, by omega, by simpa using hT0, ⟨by simp, by simp, by simp⟩⟩ ?_
 rintro l ⟨j, top, st, n, rfl, hj, hn, hT, hz⟩
 obtain ⟨v, hv, hq⟩ := next_val (num := numS) hs hj (fun w hw h => number_val (by omega) h)
 cases n with
 | zero => omega
 | succ n =>
 rw [parseS_succ] at hT
 dsimp only
 rw [hv]
 simp only [Option.bind_some]
 have hPl : st.reverse.length = st.length := List.length_reverse
 have hst := hz.hst
 have htop := hz.htop
 have hstl : st.reverse.length < 4611686018427387904 := by rw [hPl]; omega
 cases hsk : skipS false (s.drop j) with
 | nil =>
  rw [hsk] at hq hT
  subst hq
  right
  cases st with
  | nil => subst hT; simp [ixOK, resP, stk_len, IntKind.wrap_i64]
  | cons t st' =>
   subst hT
   have c1 : decide (IntKind.wrap .i64 ((((t :: st').reverse ++ [top]).length : Int) - 1) > 0) = true := by
    rw [stk_len, stk_top hstl]; apply decide_eq_true; rw [hPl]; simp only [List.length_cons]; omega
   simp only [c1]
   rfl
 | cons c r =>
  rw [hsk] at hq hT
  simp only [NextQ] at hq
  by_cases c4 : c = 40 ∨ c = 41
  ·rw [if_pos c4] at hq
   obtain ⟨j', rfl, hjj, hj', hdr⟩ := hq
   have hlen : s.drop j = skipS false (s.drop j) → True := fun _ => trivial
   by_cases c40 : c = 40
   ·subst c40
    left
    have cl : (st.length + 1 + 1) * 24 ≤ 140737488355328 := by omega
    refine ⟨(((), (), ()), ((s, (j' : Int), ()), (st.reverse ++ [top]) ++ [[]], ())), ?_, ⟨j', [], top :: st, n, by simp, hj', by omega, ?_, hz.push hjj⟩, ?_⟩
    ·simp [cl]
    ·rw [hdr]; simpa using hT
    ·simp only [Int.toNat_natCast]; omega
   ·have c41 : c = 41 := c4.resolve_left c40
    subst c41
    cases st with
    | nil =>
     right
     have hT' : Sum.inl 4 = T0 := by simpa using hT
     subst hT'
     simp [stk_len, IntKind.wrap_i64, resP]
    | cons t st' =>
     left
     have hP : (t :: st').reverse = st'.reverse ++ [t] := by simp
     have hl1 : st'.reverse.length = st'.length := List.length_reverse
     have hst2 : st'.length + 1 ≤ j := by simpa using hst
     have htl : t.length ≤ j := hz.hrows t (by simp)
     rw [hP]
     have w1 : IntKind.wrap .i64 ((((st'.reverse ++ [t]) ++ [top]).length : Int) - 1) = (((st'.reverse ++ [t]).length : Nat) : Int) := by
      rw [stk_len]; exact stk_top (by rw [stk_len, hl1]; omega)
     have w2 : IntKind.wrap .i64 ((((st'.reverse ++ [t]).length : Nat) : Int) - 1) = (st'.reverse.length : Int) := by
      rw [stk_len]; exact stk_top (by rw [hl1]; omega)
     have g1 : ((st'.reverse ++ [t]) ++ [top]).getD (st'.reverse ++ [t]).length ([] : List Fm) = top := stk_get
     have g2 : (st'.reverse ++ [t]).getD st'.reverse.length ([] : List Fm) = t := stk_get
     have g3 : ((st'.reverse ++ [t]) ++ [top]).take (st'.reverse ++ [t]).length = st'.reverse ++ [t] := stk_take
     have g4 : ∀ y : List Fm, (st'.reverse ++ [t]).set st'.reverse.length y = st'.reverse ++ [y] := fun y => stk_set
     have c1 : decide (((st'.reverse ++ [t]).length : Int) = 0) = false := by apply decide_eq_false; rw [stk_len]; omega
     have c2 : ixOK (((st'.reverse ++ [t]).length : Nat) : Int) ((st'.reverse ++ [t]) ++ [top]).length = true := ixOK_iff.2 (by rw [stk_len (x := top)]; omega)
     have c3 : decide ((st'.reverse ++ [t]).length < ((st'.reverse ++ [t]) ++ [top]).length) = true := decide_eq_true (by rw [stk_len (x := top)]; omega)
     have c4' : hiOK (((st'.reverse ++ [t]).length : Nat) : Int) ((st'.reverse ++ [t]) ++ [top]).length = true := hiOK_iff.2 (by rw [stk_len (x := top)]; omega)
     have c5 : ixOK ((st'.reverse.length : Nat) : Int) (st'.reverse ++ [t]).length = true := ixOK_iff.2 (by rw [stk_len]; omega)
     have c6 : decide (st'.reverse.length < (st'.reverse ++ [t]).length) = true := decide_eq_true (by rw [stk_len]; omega)
     have c7 : ∀ f : Fm, decide ((t.length + [f].length) * 56 ≤ 140737488355328) = true := fun f => decide_eq_true (by simp only [List.length_cons, List.length_nil]; omega)
     have c8 : decide (st'.reverse.length = st'.reverse.length) = true := decide_eq_true rfl
     have c9 : ∀ f : Fm, ixOK ((t.length : Nat) : Int) (t.length + [f].length) = true := fun f => ixOK_iff.2 (by simp only [List.length_cons, List.length_nil]; omega)
     have c10 : decide (t.length ≤ t.length) = true := decide_eq_true (Nat.le_refl _)
     have c11 : ∀ f : Fm, decide (t.length < t.length + [f].length) = true := fun f => decide_eq_true (by simp)
     refine ⟨(((), (), ()), ((s, (j' : Int), ()), (st'.reverse ++ [t ++ [lstF top]]), ())), ?_, ⟨j', t ++ [lstF top], st', n, rfl, hj', by omega, ?_, hz.pop hjj _⟩, ?_⟩
     ·have e41 : (((41 : UInt8).toNat : Nat) : Int) = 41 := rfl
      simp only [e41, w1, w2, Int.toNat_natCast, g1, g2, g3, g4, c1, c2, c3, c4', c5, c6, c7, c8, c9, c10, c11, cond_true, cond_false, Bool.true_and, one_set, Bool.not_true, show decide ((41 : Int) = 40) = false from rfl, show decide ((41 : Int) = 41) = true from rfl, show decide ((0 : Int) = 0) = true from rfl, show decide ((41 : Int) = 0) = false from rfl]
      refine ybind (ymg rfl rfl) ?_
      simp [lstF]
     ·rw [hdr]; simpa using hT
     ·simp only [Int.toNat_natCast]; omega
  ·rw [if_neg c4] at hq
   simp only [not_or] at c4
   simp only [if_neg c4.1, if_neg c4.2] at hT
   have key : (∃ e : Int, e ≠ 0 ∧ (∃ (t : Int × Fm) (a : Bool) (jj : Int), v = ((t, a, e, ()), ((s, jj, ()), ()))) ∧ T0 = .inl e) ∨
     (∃ (f : Fm) (q : List UInt8) (j' : Nat), v = (((0, f), true, 0, ()), ((s, (j' : Int), ()), ())) ∧ j < j' ∧ j' ≤ s.length ∧ s.drop j' = q ∧ T0 = if touchS visS q = true then .inl 4 else parseS visS (tokS numS) n q (top ++ [f]) st) := by
    by_cases c34 : c = 34
    ·rw [if_pos c34] at hq
     simp only [if_pos c34] at hT
     cases ht : textS r [] with
     | inl e =>
      rw [ht] at hq hT
      exact .inl ⟨e, hq.1, hq.2, hT.symm⟩
     | inr p =>
      obtain ⟨b, q⟩ := p
      rw [ht] at hq hT
      obtain ⟨j', h1, h2, h3, h4⟩ := hq
      exact .inr ⟨txtF b, q, j', h1, h2, h3, h4, hT.symm⟩
    ·rw [if_neg c34] at hq
     simp only [if_neg c34] at hT
     by_cases cv : visS c = true
     ·rw [if_pos cv] at hq
      simp only [if_pos cv] at hT
      cases ht : tokS numS ((c :: r).takeWhile visS) with
      | inl e =>
       rw [ht] at hq hT
       exact .inl ⟨e, hq.1, hq.2, hT.symm⟩
      | inr f =>
       rw [ht] at hq hT
       obtain ⟨j', h1, h2, h3, h4⟩ := hq
       exact .inr ⟨f, _, j', h1, h2, h3, h4, hT.symm⟩
     ·rw [if_neg cv] at hq
      simp only [if_neg cv] at hT
      exact .inl ⟨4, by decide, hq, hT.symm⟩
   rcases key with ⟨e, he, ⟨tt, a, jj, rfl⟩, hR⟩ | ⟨f, q, j', rfl, hjj, hj', hdr, hR⟩
   ·right
    rw [hR]
    have ce : decide (e = 0) = false := decide_eq_false he
    simp only [ce, Bool.not_false, cond_true, Option.bind_some]
    rfl
   ·have w1 : IntKind.wrap .i64 (((st.reverse ++ [top]).length : Int) - 1) = (st.reverse.length : Int) := by
     rw [stk_len]; exact stk_top hstl
    have g1 : (st.reverse ++ [top]).getD st.reverse.length ([] : List Fm) = top := stk_get
    have g4 : ∀ y : List Fm, (st.reverse ++ [top]).set st.reverse.length y = st.reverse ++ [y] := fun y => stk_set
    have c5 : ixOK ((st.reverse.length : Nat) : Int) (st.reverse ++ [top]).length = true := ixOK_iff.2 (by rw [stk_len]; omega)
    have c6 : decide (st.reverse.length < (st.reverse ++ [top]).length) = true := decide_eq_true (by rw [stk_len]; omega)
    have c7 : ∀ f : Fm, decide ((top.length + [f].length) * 56 ≤ 140737488355328) = true := fun f => decide_eq_true (by simp only [List.length_cons, List.length_nil]; omega)
    have c8 : decide (st.reverse.length = st.reverse.length) = true := decide_eq_true rfl
    have c9 : ∀ f : Fm, ixOK ((top.length : Nat) : Int) (top.length + [f].length) = true := fun f => ixOK_iff.2 (by simp only [List.length_cons, List.length_nil]; omega)
    have c10 : decide (top.length ≤ top.length) = true := decide_eq_true (Nat.le_refl _)
    have c11 : ∀ f : Fm, decide (top.length < top.length + [f].length) = true := fun f => decide_eq_true (by simp)
    have fin : ∀ X : Option (Step ((Unit × Unit × Unit) × (((List UInt8) × Int × Unit) × (List (List Fm)) × Unit)) ((List Fm) × Int × Unit)), X = cond (touchS visS q) (some (.done ([], 4, ()))) (some (.next (((), (), ()), ((s, (j' : Int), ()), (st.reverse ++ [top ++ [f]]), ())))) →
      (∃ l', X = some (.next l') ∧ (∃ (j : Nat) (top : List Fm) (st : List (List Fm)) (n : Nat), l' = (((), (), ()), ((s, (j : Int), ()), st.reverse ++ [top], ())) ∧ j ≤ s.length ∧ s.length - j < n ∧ parseS visS (tokS numS) n (s.drop j) top st = T0 ∧ Szs j top st) ∧ s.length - l'.2.1.2.1.toNat < s.length - (j : Int).toNat) ∨ X = some (.done (resP T0)) := fun X hX => by
     cases htc : touchS visS q with
     | true =>
      rw [htc] at hX hR
      right
      rw [hX, hR]; rfl
     | false =>
      rw [htc] at hX hR
      left
      refine ⟨_, hX, ⟨j', top ++ [f], st, n, rfl, hj', by omega, ?_, hz.app hjj f⟩, by simp only [Int.toNat_natCast]; omega⟩
      rw [hdr, hR, if_neg (by decide)]
    refine fin _ ?_
    simp only [w1, Int.toNat_natCast, g1, g4, c5, c6, c7, c8, c9, c10, c11, cond_true, cond_false, Bool.true_and, Bool.and_true, one_set, Bool.not_true, Bool.not_false, show decide ((0 : Int) = 40) = false from rfl, show decide ((0 : Int) = 41) = false from rfl, show decide ((0 : Int) = 0) = true from rfl]
    refine ybind (ymg rfl rfl) ?_
    simp only [Fm.eta_eq, show decide ((0 : Int) = 0) = true from rfl, cond_true]
    exact touch_part hj' hdr _ _
end Go.Ab

set_option maxRecDepth 100000
namespace Go.Ab
open Go Go.RowKit Go.Proofs
end Go.Ab

set_option maxRecDepth 100000
namespace Go.Ab
open Go Go.RowKit Go.Proofs
end Go.Ab

set_option maxRecDepth 100000
namespace Go.Ab
open Go Go.RowKit Go.Proofs
end Go.Ab

set_option maxRecDepth 100000
namespace Go.Ab
open Go Go.RowKit Go.Proofs
theorem skip_len : ∀ (b : Bool) (r : List UInt8), (skipS b r).length ≤ r.length
 | _, [] => by simp [skipS]
 | true, c :: r => by
  simp only [skipS, List.length_cons]
  split
  ·have := skip_len false r; omega
  ·have := skip_len true r; omega
 | false, c :: r => by
  simp only [skipS, List.length_cons]
  split
  ·have := skip_len false r; omega
  ·split
   ·have := skip_len true r; omega
   ·simp
def goodT (b : List UInt8) : Prop := ∀ c ∈ b, badB c = false
theorem goodT.app {b : List UInt8} {c : UInt8} (h : goodT b) (hc : badB c = false) : goodT (b ++ [c]) := fun x hx => by
 rcases List.mem_append.1 hx with hx | hx
 ·exact h x hx
 ·rw [List.mem_singleton.1 hx]; exact hc
theorem good_esc {d : UInt8} (h : d = 34 ∨ d = 92) : badB d = false := by rcases h with rfl | rfl <;> decide
theorem good_plain {c : UInt8} (h : ¬ (c < 32 ∨ c > 126)) : badB c = false := by
 revert h
 have : ∀ n : Fin 256, ¬ ((UInt8.ofFin n) < 32 ∨ (UInt8.ofFin n) > 126) → badB (UInt8.ofFin n) = false := by decide +kernel
 exact this c.toFin
theorem textS_good : ∀ (r b x q : List UInt8), textS r b = .inr (x, q) → goodT b → goodT x ∧ x.length ≤ 2000 ∧ x.length + q.length + 1 ≤ b.length + r.length
 | [], b, x, q, h, _ => by simp [textS] at h
 | [c], b, x, q, h, hb => by
  simp only [textS] at h
  split at h
  ·split at h
   ·cases h
   ·cases h; exact ⟨hb, by omega, by simp⟩
  ·split at h
   ·cases h
   ·split at h <;> cases h
 | c :: d :: r, b, x, q, h, hb => by
  simp only [textS] at h
  split at h
  ·split at h
   ·cases h
   ·cases h; exact ⟨hb, by omega, by simp only [List.length_cons]; omega⟩
  ·split at h
   ·split at h
    ·obtain ⟨h1, h2, h3⟩ := textS_good r _ x q h (hb.app (by decide))
     refine ⟨h1, h2, ?_⟩
     simp only [List.length_append, List.length_cons, List.length_nil] at h3 ⊢; omega
    ·split at h
     ·rename_i hd
      obtain ⟨h1, h2, h3⟩ := textS_good r _ x q h (hb.app (good_esc hd))
      refine ⟨h1, h2, ?_⟩
      simp only [List.length_append, List.length_cons, List.length_nil] at h3 ⊢; omega
     ·cases h
   ·split at h
    ·cases h
    ·rename_i hc
     obtain ⟨h1, h2, h3⟩ := textS_good (d :: r) _ x q h (hb.app (good_plain hc))
     refine ⟨h1, h2, ?_⟩
     simp only [List.length_append, List.length_cons, List.length_nil] at h3 ⊢; omega
theorem textS_ne : ∀ (r b : List UInt8), textS r b ≠ .inl 0
 | [], b => by simp [textS]
 | [c], b => by
  simp only [textS]
  split
  ·split <;> simp
  ·split
   ·simp
   ·split <;> simp
 | c :: d :: r, b => by
  simp only [textS]
  split
  ·split <;> simp
  ·split
   ·split
    ·exact textS_ne r _
    ·split
     ·exact textS_ne r _
     ·simp
   ·split
    ·simp
    ·exact textS_ne (d :: r) _
theorem txt_good {b : List UInt8} (h : goodT b) (hl : b.length ≤ 2000) : fieldsF (txtF b) = true := by
 have : badT b = false := by
  rw [badT_any, List.any_eq_false]
  intro c hc; rw [h c hc]; decide
 simp [txtF, fieldsF, fieldsL, leafS, this, hl]
theorem numS_bound (w : List UInt8) (h : (numS w).2 = 0) : -1152921504606846976 ≤ (numS w).1 ∧ (numS w).1 ≤ 1152921504606846976 := by
 unfold numS at h ⊢
 split
 ·rename_i h1; rw [if_pos h1] at h; simp at h
 ·rename_i h1
  rw [if_neg h1] at h
  split
  ·rename_i h2; rw [if_pos h2] at h; simp at h
  ·simp only
   split <;> omega
theorem tok_good {w : List UInt8} {f : Fm} (h : tokS numS w = .inr f) (hv : ∀ c ∈ w, visS c = true) (hne : w ≠ []) : fieldsF f = true ∧ f.big ≤ 2 * w.length := by
 have hpos : 0 < w.length := List.length_pos_iff.2 hne
 unfold tokS at h
 split at h
 ·split at h
  ·rename_i h0
   cases h
   have := numS_bound w h0
   refine ⟨?_, by simp only [nuF, Fm.big, Fm.bigL, List.length_nil]; omega⟩
   simp [nuF, fieldsF, fieldsL, leafS, this]
  ·cases h
 ·rename_i hn
  split at h
  ·cases h
  ·rename_i hl
   cases h
   refine ⟨?_, by simp only [wrdF, Fm.big, Fm.bigL]; omega⟩
   have ho : w.all (fun c => !outsideS c) = true := List.all_eq_true.2 fun c hc => hv c hc
   have hn' : numericS w = false := by simpa using hn
   have hl' : w.length ≤ 30 := by omega
   simp only [wrdF, fieldsF, fieldsL, leafS, wordS, ho, hn', hl']
   simp [hne]
theorem tokS_ne (w : List UInt8) : tokS numS w ≠ .inl 0 := by
 unfold tokS
 split
 ·split
  ·simp
  ·rename_i h; simpa using h
 ·split <;> simp
theorem fieldsL_app : ∀ (a b : List Fm), fieldsL (a ++ b) = (fieldsL a && fieldsL b)
 | [], b => by simp [fieldsL]
 | f :: a, b => by simp [fieldsL, fieldsL_app a b, Bool.and_assoc]
theorem bigL_app : ∀ (a b : List Fm), Fm.bigL (a ++ b) = Fm.bigL a + Fm.bigL b
 | [], b => by simp [Fm.bigL]
 | f :: a, b => by simp [Fm.bigL, bigL_app a b]; omega
def bigLL : List (List Fm) → Nat
 | [] => 0
 | t :: st => Fm.bigL t + bigLL st
theorem takeWhile_all {p : UInt8 → Bool} : ∀ {l : List UInt8} {c : UInt8}, c ∈ l.takeWhile p → p c = true := fun {l c} h => by
 have := List.all_takeWhile (p := p) (l := l)
 exact List.all_eq_true.1 this c h
theorem parse_good : ∀ (n : Nat) (r : List UInt8) (top : List Fm) (st : List (List Fm)) (l : List Fm), parseS visS (tokS numS) n r top st = .inr l → fieldsL top = true → (∀ t ∈ st, fieldsL t = true) →
  fieldsL l = true ∧ Fm.bigL l ≤ Fm.bigL top + bigLL st + 2 * r.length
 | 0, r, top, st, l, h, _, _ => by simp [parseS] at h
 | n + 1, r, top, st, l, h, ht, hst => by
  have hsl := skip_len false r
  rw [parseS_succ] at h
  cases hsk : skipS false r with
  | nil =>
   rw [hsk] at h
   cases st with
   | nil => cases h; exact ⟨ht, by simp [bigLL]⟩
   | cons t st' => cases h
  | cons c r' =>
   rw [hsk] at h hsl
   simp only [List.length_cons] at hsl
   simp only at h
   split at h
   ·obtain ⟨h1, h2⟩ := parse_good n r' [] (top :: st) l h rfl (fun t hx => by rcases List.mem_cons.1 hx with rfl | hx; exact ht; exact hst t hx)
    refine ⟨h1, ?_⟩
    simp only [Fm.bigL, bigLL] at h2; omega
   ·split at h
    ·cases st with
     | nil => cases h
     | cons t st' =>
      simp only at h
      obtain ⟨h1, h2⟩ := parse_good n r' (t ++ [lstF top]) st' l h (by
       rw [fieldsL_app, hst t (by simp)]
       simp [fieldsL, lstF, fieldsF, leafS, ht]) (fun x hx => hst x (by simp [hx]))
      refine ⟨h1, ?_⟩
      simp only [bigL_app, Fm.bigL, lstF, Fm.big, List.length_nil, bigLL] at h2 ⊢; omega
    ·split at h
     ·cases hx : textS r' [] with
      | inl e => rw [hx] at h; cases h
      | inr p =>
       obtain ⟨b, q⟩ := p
       rw [hx] at h
       simp only at h
       obtain ⟨k1, k2, k3⟩ := textS_good r' [] b q hx (fun c hc => by cases hc)
       simp only [List.length_nil] at k3
       split at h
       ·cases h
       ·obtain ⟨h1, h2⟩ := parse_good n q (top ++ [txtF b]) st l h (by rw [fieldsL_app, ht]; simp [fieldsL, txt_good k1 k2]) hst
        refine ⟨h1, ?_⟩
        simp only [bigL_app, Fm.bigL, txtF, Fm.big] at h2; omega
     ·split at h
      ·rename_i hv
       cases hx : tokS numS ((c :: r').takeWhile visS) with
       | inl e => rw [hx] at h; cases h
       | inr f =>
        rw [hx] at h
        simp only at h
        have hne : (c :: r').takeWhile visS ≠ [] := by rw [List.takeWhile_cons_of_pos hv]; simp
        obtain ⟨k1, k2⟩ := tok_good hx (fun c hc => takeWhile_all hc) hne
        have hlen : ((c :: r').takeWhile visS).length + ((c :: r').dropWhile visS).length = r'.length + 1 := by
         rw [← List.length_append, List.takeWhile_append_dropWhile, List.length_cons]
        split at h
        ·cases h
        ·obtain ⟨h1, h2⟩ := parse_good n _ (top ++ [f]) st l h (by rw [fieldsL_app, ht]; simp [fieldsL, k1]) hst
         refine ⟨h1, ?_⟩
         simp only [bigL_app, Fm.bigL] at h2; omega
      ·cases h
theorem parse_ne : ∀ (n : Nat) (r : List UInt8) (top : List Fm) (st : List (List Fm)), r.length < n → parseS visS (tokS numS) n r top st ≠ .inl 0
 | 0, r, top, st, h => by omega
 | n + 1, r, top, st, h => by
  have hsl := skip_len false r
  rw [parseS_succ]
  cases hsk : skipS false r with
  | nil => cases st <;> simp
  | cons c r' =>
   rw [hsk] at hsl
   simp only [List.length_cons] at hsl
   simp only
   split
   ·exact parse_ne n r' _ _ (by omega)
   ·split
    ·cases st with
     | nil => simp
     | cons t st' => exact parse_ne n r' _ _ (by omega)
    ·split
     ·cases hx : textS r' [] with
      | inl e => have := textS_ne r' []; rw [hx] at this; simpa using this
      | inr p =>
       obtain ⟨b, q⟩ := p
       have := textS_len r' [] b q hx
       simp only
       split
       ·simp
       ·exact parse_ne n q _ _ (by omega)
     ·split
      ·rename_i hv
       cases hx : tokS numS ((c :: r').takeWhile visS) with
       | inl e => have := tokS_ne ((c :: r').takeWhile visS); rw [hx] at this; simpa using this
       | inr f =>
        simp only
        have hl : ((c :: r').dropWhile visS).length ≤ r'.length := by rw [List.dropWhile_cons_of_pos hv]; exact drop_len _ _
        split
        ·simp
        ·exact parse_ne n _ _ _ (by omega)
      ·simp
end Go.Ab

set_option maxRecDepth 100000
namespace Go.Ab
open Go Go.RowKit Go.Proofs
def readS (s : List UInt8) : List Fm × Int × Unit :=
 if s.length > 60000 then ([], 2, ()) else match parseS visS (tokS numS) (s.length + 1) s [] [] with
  | .inl e => ([], e, ())
  | .inr l => if l.all validF = true then (l, 0, ()) else ([], 2, ())
theorem getD_ix {l : List Fm} {i : Nat} (h : i < l.length) : l.getD i (Fm.mk 0 0 [] []) = l[i] := by simp [List.getD_eq_getElem?_getD, h]
theorem any_drop {l : List Fm} {i : Nat} {p : Fm → Bool} (h : i < l.length) : (l.drop i).all p = (p l[i] && (l.drop (i + 1)).all p) := by
 rw [List.drop_eq_getElem_cons h, List.all_cons]
theorem indexBad_val {l : List Fm} (hl : l.length ≤ 1000000000) (hb : ∀ f ∈ l, f.big ≤ 4611686018427387000) : ∃ k : Int, G_indexBad l () = some k ∧ (0 ≤ k ↔ l.all validF = false) := by
 unfold G_indexBad
 refine yloop (fun d => ∃ i : Nat, d = ((l, (), (l.length : Int), (i : Int), ()), ()) ∧ i ≤ l.length ∧ (l.drop i).all validF = l.all validF) (fun d => l.length - d.1.2.2.2.1.toNat) _ ?_ ⟨0, rfl, Nat.zero_le _, rfl⟩
 rintro d ⟨i, rfl, hi, hk⟩
 simp only [Int.toNat_natCast]
 by_cases hi' : i < l.length
 ·have e1 : decide ((i : Int) < (l.length : Int)) = true := decide_eq_true (by omega)
  have x1 : ixOK (i : Int) l.length = true := ixOK_iff.2 (by omega)
  have hm : l[i] ∈ l := List.getElem_mem hi'
  simp only [e1, x1, cond_true, getD_ix hi', Fm.eta_eq, G_readBad, rvalid_val (hb _ hm), Option.bind_some, ywrap (show i < 4611686018427387904 by omega)]
  rw [any_drop hi'] at hk
  cases hv : validF l[i] with
  | true =>
   rw [hv, Bool.true_and] at hk
   simp only [Bool.not_true, cond_false]
   exact .inl ⟨_, rfl, ⟨i + 1, rfl, by omega, hk⟩, by simp only [Int.toNat_natCast]; omega⟩
  | false =>
   rw [hv, Bool.false_and] at hk
   simp only [Bool.not_false, cond_true]
   exact .inr ⟨_, rfl, _, rfl, by rw [← hk]; simp⟩
 ·have e1 : decide ((i : Int) < (l.length : Int)) = false := decide_eq_false (by omega)
  have hd : l.drop i = [] := List.drop_of_length_le (by omega)
  rw [hd, List.all_nil] at hk
  simp only [e1, cond_false]
  exact .inr ⟨_, rfl, _, rfl, by rw [← hk]; simp⟩
theorem contains_val {l : List Fm} (hl : l.length ≤ 1000000000) (hb : ∀ f ∈ l, f.big ≤ 4611686018427387000) : G_containsBad1 l () = some (!l.all validF) := by
 obtain ⟨k, h1, h2⟩ := indexBad_val hl hb
 unfold G_containsBad1
 rw [h1]
 simp only [Option.bind_some]
 cases ha : l.all validF with
 | true =>
  have : ¬ (0 ≤ k) := fun h => by rw [h2.1 h] at ha; cases ha
  rw [decide_eq_false (by omega)]; rfl
 | false => rw [decide_eq_true (h2.2 ha)]; rfl
theorem fieldsL_mem : ∀ {l : List Fm}, fieldsL l = true → ∀ f ∈ l, fieldsF f = true
 | [], _, f, h => by cases h
 | g :: l, hl, f, h => by
  simp only [fieldsL, Bool.and_eq_true] at hl
  rcases List.mem_cons.1 h with rfl | h
  ·exact hl.1
  ·exact fieldsL_mem hl.2 f h
theorem big_len : ∀ l : List Fm, l.length ≤ Fm.bigL l
 | [] => Nat.le_refl _
 | f :: l => by
  have := big_len l
  have := big_pos f
  simp only [List.length_cons, Fm.bigL]; omega
theorem parse_ok {s : List UInt8} {l : List Fm} (hs : s.length ≤ 60000) (h : parseS visS (tokS numS) (s.length + 1) s [] [] = .inr l) : (∀ f ∈ l, fieldsF f = true) ∧ (∀ f ∈ l, f.big ≤ 120000) ∧ l.length ≤ 120000 := by
 obtain ⟨h1, h2⟩ := parse_good _ s [] [] l h rfl (fun t ht => by cases ht)
 simp only [Fm.bigL, bigLL] at h2
 refine ⟨fieldsL_mem h1, fun f hf => ?_, ?_⟩
 ·have := big_mem hf; omega
 ·have := big_len l; omega
theorem readA_val {s : List UInt8} : G_readA s = some (readS s) := by
 unfold G_readA readS
 by_cases h : s.length > 60000
 ·rw [if_pos h, decide_eq_true (show ((s.length : Int) > 60000) by omega)]; rfl
 ·rw [if_neg h, decide_eq_false (show ¬ ((s.length : Int) > 60000) by omega), cond_false, parse_val (by omega)]
  cases hp : parseS visS (tokS numS) (s.length + 1) s [] [] with
  | inl e =>
   have he : e ≠ 0 := fun h0 => parse_ne _ s [] [] (Nat.lt_succ_self _) (by rw [hp, h0])
   simp only [Option.bind_some, resP, decide_eq_false he, Bool.not_false, cond_true]
  | inr l =>
   obtain ⟨h1, h2, h3⟩ := parse_ok (by omega) hp
   simp only [Option.bind_some, resP, show decide ((0 : Int) = 0) = true from rfl, Bool.not_true, cond_false, contains_val (show l.length ≤ 1000000000 by omega) (fun f hf => by have := h2 f hf; omega)]
   cases l.all validF with
   | true => rfl
   | false => rfl
theorem vis_not (c : UInt8) (h : visS c = true) : blankB c = false ∧ c ≠ 59 ∧ c ≠ 40 ∧ c ≠ 41 ∧ c ≠ 34 := by
 revert h
 have : ∀ n : Fin 256, visS (UInt8.ofFin n) = true → blankB (UInt8.ofFin n) = false ∧ UInt8.ofFin n ≠ 59 ∧ UInt8.ofFin n ≠ 40 ∧ UInt8.ofFin n ≠ 41 ∧ UInt8.ofFin n ≠ 34 := by decide +kernel
 exact this c.toFin
end Go.Ab

set_option maxRecDepth 100000
namespace Go.Ab
open Go Go.RowKit Go.Proofs
theorem ps_fuel {n m : Nat} {r : List UInt8} (hn : r.length < n) (hm : r.length < m) (top : List Fm) (st : List (List Fm)) : parseS visS (tokS numS) n r top st = parseS visS (tokS numS) m r top st := by
 have h1 := read_same visS (tokS numS) vis_not r.length r (Nat.le_refl _) n n false top st hn hn
 have h2 := read_same visS (tokS numS) vis_not r.length r (Nat.le_refl _) n m false top st hn hm
 rw [Bool.false_and, if_neg (by simp)] at h1 h2
 exact h1.symm.trans h2
def PF (r : List UInt8) (top : List Fm) (st : List (List Fm)) : Int ⊕ List Fm := parseS visS (tokS numS) (r.length + 1) r top st
theorem ps_pf {n : Nat} {r : List UInt8} (hn : r.length < n) (top : List Fm) (st : List (List Fm)) : parseS visS (tokS numS) n r top st = PF r top st := ps_fuel hn (Nat.lt_succ_self _) top st
theorem pf_skip {r q : List UInt8} (h : skipS false r = skipS false q) (top : List Fm) (st : List (List Fm)) : PF r top st = PF q top st := by
 have h1 : PF r top st = parseS visS (tokS numS) (r.length + q.length + 1) r top st := (ps_pf (by omega) top st).symm
 have h2 : PF q top st = parseS visS (tokS numS) (r.length + q.length + 1) q top st := (ps_pf (by omega) top st).symm
 rw [h1, h2]; exact parse_skip visS (tokS numS) h top st
theorem pf_blank {c : UInt8} (h : blankB c = true) (r : List UInt8) (top : List Fm) (st : List (List Fm)) : PF (c :: r) top st = PF r top st :=
 pf_skip (by simp [skipS, h]) top st
theorem pf_open (r : List UInt8) (top : List Fm) (st : List (List Fm)) : PF (40 :: r) top st = PF r [] (top :: st) := by
 unfold PF
 rw [parseS_succ]
 have hs : skipS false (40 :: r) = 40 :: r := by simp [skipS, blankB]
 rw [hs]
 exact ps_pf (by simp) _ _
theorem pf_close (r : List UInt8) (top t : List Fm) (st : List (List Fm)) : PF (41 :: r) top (t :: st) = PF r (t ++ [lstF top]) st := by
 unfold PF
 rw [parseS_succ]
 have hs : skipS false (41 :: r) = 41 :: r := by simp [skipS, blankB]
 rw [hs]
 exact ps_pf (by simp) _ _
theorem pf_end (top : List Fm) : PF [] top [] = .inr top := rfl
end Go.Ab

set_option maxRecDepth 100000
namespace Go.Ab
open Go Go.RowKit Go.Proofs
def blanksS (n : Nat) : List UInt8 := List.replicate n 32
def frontB : List Fm → List UInt8
 | [] => []
 | h :: r => if h.k = 1 then h.t ++ (match r with
  | [] => []
  | g :: _ => if g.k = 3 then [] else 32 :: wr g) else []
def manyF : List Fm → Nat
 | [] => 0
 | h :: r => if h.k = 1 then (match r with
  | [] => 1
  | g :: _ => if g.k = 3 then 1 else 2) else 0
mutual
def layF (w : Nat) : Fm → Nat → Nat → List UInt8
 | .mk k n t l, c, cl =>
  if c + (wr (.mk k n t l)).length + cl ≤ w ∨ k ≠ 3 ∨ l = [] then wr (.mk k n t l)
  else 40 :: (frontB l ++ (layL w l (manyF l) (!decide (manyF l = 0)) (if manyF l = 0 then c + 1 else c + 2) cl ++ [41]))
def layL (w : Nat) : List Fm → Nat → Bool → Nat → Nat → List UInt8
 | [], _, _, _, _ => []
 | f :: r, sk + 1, nl, ind, cl => layL w r sk nl ind cl
 | f :: r, 0, nl, ind, cl => (if nl = true then 10 :: blanksS ind else []) ++ (layF w f ind (if r = [] then cl + 1 else 0) ++ layL w r 0 true ind cl)
end
theorem layF_eq (w : Nat) (f : Fm) (c cl : Nat) : layF w f c cl = if c + (wr f).length + cl ≤ w ∨ f.k ≠ 3 ∨ f.l = [] then wr f
  else 40 :: (frontB f.l ++ (layL w f.l (manyF f.l) (!decide (manyF f.l = 0)) (if manyF f.l = 0 then c + 1 else c + 2) cl ++ [41])) := by
 cases f; rw [layF]; rfl
theorem layL_skip (w : Nat) : ∀ (l : List Fm) (sk : Nat) (nl : Bool) (ind cl : Nat), layL w l sk nl ind cl = layL w (l.drop sk) 0 nl ind cl
 | [], sk, nl, ind, cl => by rw [List.drop_nil]; simp [layL]
 | f :: r, 0, nl, ind, cl => rfl
 | f :: r, sk + 1, nl, ind, cl => by rw [layL, List.drop_succ_cons]; exact layL_skip w r sk nl ind cl
theorem word_eta {h : Fm} (hk : h.k = 1) (hf : fieldsF h = true) : wr h = h.t := by rw [wr_eq, if_neg (by rw [hk]; decide), if_pos hk]
end Go.Ab

set_option maxRecDepth 100000
namespace Go.Ab
open Go Go.RowKit Go.Proofs
def n10 (x : UInt8) : Bool := !decide (x = 10)
def tokc (c : UInt8) : Bool := !(blankB c) && (!decide (c = 40) && (!decide (c = 41) && (!decide (c = 34) && !decide (c = 59))))
def lineE (r : List UInt8) : List UInt8 := r.dropWhile n10
def qEnd : List UInt8 → List UInt8
 | [] => []
 | [_] => []
 | c :: d :: r => if c = 92 then qEnd r else if c = 34 then d :: r else qEnd (d :: r)
def bareF : Bool → List UInt8 → Bool
 | b, [] => b
 | b, c :: r => bareF (if c = 10 then true else b && (decide (c = 32) || decide (c = 9))) r
def evS : Nat → Int → Bool → Bool → List UInt8 → List (Bool × List UInt8)
 | 0, _, _, _, _ => []
 | _ + 1, _, _, _, [] => []
 | n + 1, d, near, bare, c :: r =>
  if c = 59 then (if d = 0 ∧ bare = true then [(false, c :: r)] else []) ++ evS n d false false (lineE (c :: r))
  else if c = 34 then (if d = 0 ∧ near = false then [(true, c :: r)] else []) ++ evS n d false (bareF bare ((c :: r).take ((c :: r).length - (qEnd r).length))) (qEnd r)
  else if c = 40 then (if d = 0 then [(true, c :: r)] else []) ++ evS n (d + 1) false false r
  else if c = 41 then evS n (d - 1) false false r
  else if blankB c = true then evS n d false (if c = 10 then true else bare) r
  else if near = true then evS n d true false r
  else (if d = 0 then [(true, c :: r)] else []) ++ evS n d true false r
def pastS : Nat → Nat → List UInt8 → List UInt8
 | 0, _, r => r
 | _ + 1, _, [] => []
 | n + 1, d, c :: r =>
  if c = 34 then (if d = 0 then qEnd r else pastS n d (qEnd r))
  else if c = 59 then (if d = 0 then lineE (c :: r) else pastS n d (lineE (c :: r)))
  else if c = 40 then pastS n (d + 1) r
  else if c = 41 then (if d = 1 then r else pastS n (d - 1) r)
  else if blankB c = true then (if d = 0 then r else pastS n d r)
  else if d = 0 then (c :: r).dropWhile tokc else pastS n d ((c :: r).dropWhile tokc)
theorem lineE_le (r : List UInt8) : (lineE r).length ≤ r.length := drop_len _ r
theorem lineE_lt {c : UInt8} (h : c ≠ 10) (r : List UInt8) : (lineE (c :: r)).length ≤ r.length := by
 unfold lineE
 rw [List.dropWhile_cons_of_pos (by simp [n10, h])]; exact drop_len _ r
theorem qEnd_le : ∀ r : List UInt8, (qEnd r).length ≤ r.length
 | [] => by simp [qEnd]
 | [c] => by simp [qEnd]
 | c :: d :: r => by
  rw [qEnd]
  split
  ·have := qEnd_le r; simp only [List.length_cons]; omega
  ·split
   ·simp
   ·have := qEnd_le (d :: r); simp only [List.length_cons] at *; omega
theorem tok_drop_lt {c : UInt8} (h : tokc c = true) (r : List UInt8) : ((c :: r).dropWhile tokc).length ≤ r.length := by
 rw [List.dropWhile_cons_of_pos h]; exact drop_len _ r
theorem tok_of {c : UInt8} (h1 : c ≠ 59) (h2 : c ≠ 34) (h3 : c ≠ 40) (h4 : c ≠ 41) (h5 : ¬ blankB c = true) : tokc c = true := by
 simp [tokc, h1, h2, h3, h4, h5]
theorem tok_not {c : UInt8} (h : tokc c = true) : c ≠ 59 ∧ c ≠ 34 ∧ c ≠ 40 ∧ c ≠ 41 ∧ blankB c = false := by
 simp only [tokc, Bool.and_eq_true, Bool.not_eq_true', decide_eq_false_iff_not] at h
 exact ⟨h.2.2.2.2, h.2.2.2.1, h.2.1, h.2.2.1, h.1⟩
theorem vis_tok {c : UInt8} (h : visS c = true) : tokc c = true := by
 obtain ⟨h1, h2, h3, h4, h5⟩ := vis_not c h
 exact tok_of h2 h5 h3 h4 (by simp [h1])
theorem ev_fuel : ∀ (n m : Nat) (d : Int) (near bare : Bool) (r : List UInt8), r.length < n → r.length < m → evS n d near bare r = evS m d near bare r
 | 0, m, d, near, bare, r, h, _ => by omega
 | n + 1, 0, d, near, bare, r, _, h => by omega
 | n + 1, m + 1, d, near, bare, [], _, _ => rfl
 | n + 1, m + 1, d, near, bare, c :: r, h1, h2 => by
  simp only [List.length_cons] at h1 h2
  simp only [evS]
  by_cases c1 : c = 59
  ·have := lineE_lt (show c ≠ 10 by rw [c1]; decide) r
   rw [if_pos c1, if_pos c1, ev_fuel n m _ _ _ _ (by omega) (by omega)]
  ·have hq := qEnd_le r
   rw [if_neg c1, if_neg c1, ev_fuel n m d false _ (qEnd r) (by omega) (by omega), ev_fuel n m (d + 1) false false r (by omega) (by omega), ev_fuel n m (d - 1) false false r (by omega) (by omega), ev_fuel n m d false _ r (by omega) (by omega), ev_fuel n m d true false r (by omega) (by omega)]
def EV (d : Int) (near bare : Bool) (r : List UInt8) : List (Bool × List UInt8) := evS (r.length + 1) d near bare r
theorem EV_nil (d : Int) (near bare : Bool) : EV d near bare [] = [] := rfl
theorem EV_cons (d : Int) (near bare : Bool) (c : UInt8) (r : List UInt8) : EV d near bare (c :: r) =
  (if c = 59 then (if d = 0 ∧ bare = true then [(false, c :: r)] else []) ++ EV d false false (lineE (c :: r))
  else if c = 34 then (if d = 0 ∧ near = false then [(true, c :: r)] else []) ++ EV d false (bareF bare ((c :: r).take ((c :: r).length - (qEnd r).length))) (qEnd r)
  else if c = 40 then (if d = 0 then [(true, c :: r)] else []) ++ EV (d + 1) false false r
  else if c = 41 then EV (d - 1) false false r
  else if blankB c = true then EV d false (if c = 10 then true else bare) r
  else if near = true then EV d true false r
  else (if d = 0 then [(true, c :: r)] else []) ++ EV d true false r) := by
 have hq := qEnd_le r
 unfold EV
 simp only [evS, List.length_cons]
 by_cases c1 : c = 59
 ·have := lineE_lt (show c ≠ 10 by rw [c1]; decide) r
  rw [if_pos c1, if_pos c1, ev_fuel (r.length + 1) ((lineE (c :: r)).length + 1) _ _ _ _ (by omega) (by omega)]
 ·rw [if_neg c1, if_neg c1, ev_fuel (r.length + 1) ((qEnd r).length + 1) d false _ (qEnd r) (by omega) (by omega)]
theorem past_fuel : ∀ (n m d : Nat) (r : List UInt8), r.length < n → r.length < m → pastS n d r = pastS m d r
 | 0, m, d, r, h, _ => by omega
 | n + 1, 0, d, r, _, h => by omega
 | n + 1, m + 1, d, [], _, _ => rfl
 | n + 1, m + 1, d, c :: r, h1, h2 => by
  simp only [List.length_cons] at h1 h2
  have hq := qEnd_le r
  simp only [pastS]
  by_cases c1 : c = 34
  ·rw [if_pos c1, if_pos c1, past_fuel n m d (qEnd r) (by omega) (by omega)]
  ·rw [if_neg c1, if_neg c1]
   by_cases c2 : c = 59
   ·have := lineE_lt (show c ≠ 10 by rw [c2]; decide) r
    rw [if_pos c2, if_pos c2, past_fuel n m d (lineE (c :: r)) (by omega) (by omega)]
   ·rw [if_neg c2, if_neg c2]
    by_cases c3 : c = 40
    ·rw [if_pos c3, if_pos c3, past_fuel n m (d + 1) r (by omega) (by omega)]
    ·rw [if_neg c3, if_neg c3]
     by_cases c4 : c = 41
     ·rw [if_pos c4, if_pos c4, past_fuel n m (d - 1) r (by omega) (by omega)]
     ·rw [if_neg c4, if_neg c4]
      by_cases c5 : blankB c = true
      ·rw [if_pos c5, if_pos c5, past_fuel n m d r (by omega) (by omega)]
      ·have := tok_drop_lt (tok_of c2 c1 c3 c4 c5) r
       rw [if_neg c5, if_neg c5, past_fuel n m d ((c :: r).dropWhile tokc) (by omega) (by omega)]
def PA (d : Nat) (r : List UInt8) : List UInt8 := pastS (r.length + 1) d r
theorem PA_cons (d : Nat) (c : UInt8) (r : List UInt8) : PA d (c :: r) =
  (if c = 34 then (if d = 0 then qEnd r else PA d (qEnd r))
  else if c = 59 then (if d = 0 then lineE (c :: r) else PA d (lineE (c :: r)))
  else if c = 40 then PA (d + 1) r
  else if c = 41 then (if d = 1 then r else PA (d - 1) r)
  else if blankB c = true then (if d = 0 then r else PA d r)
  else if d = 0 then (c :: r).dropWhile tokc else PA d ((c :: r).dropWhile tokc)) := by
 have hq := qEnd_le r
 unfold PA
 simp only [pastS, List.length_cons]
 by_cases c1 : c = 34
 ·rw [if_pos c1, if_pos c1, past_fuel (r.length + 1) ((qEnd r).length + 1) d (qEnd r) (by omega) (by omega)]
 ·rw [if_neg c1, if_neg c1]
  by_cases c2 : c = 59
  ·have := lineE_lt (show c ≠ 10 by rw [c2]; decide) r
   rw [if_pos c2, if_pos c2, past_fuel (r.length + 1) ((lineE (c :: r)).length + 1) d (lineE (c :: r)) (by omega) (by omega)]
  ·rw [if_neg c2, if_neg c2]
   by_cases c3 : c = 40
   ·rw [if_pos c3, if_pos c3]
   ·rw [if_neg c3, if_neg c3]
    by_cases c4 : c = 41
    ·rw [if_pos c4, if_pos c4]
    ·rw [if_neg c4, if_neg c4]
     by_cases c5 : blankB c = true
     ·rw [if_pos c5, if_pos c5]
     ·have := tok_drop_lt (tok_of c2 c1 c3 c4 c5) r
      rw [if_neg c5, if_neg c5, past_fuel (r.length + 1) (((c :: r).dropWhile tokc).length + 1) d ((c :: r).dropWhile tokc) (by omega) (by omega)]
theorem pf_quote (r : List UInt8) (top : List Fm) (st : List (List Fm)) : PF (34 :: r) top st = match textS r [] with
  | .inl e => .inl e
  | .inr (b, q) => if touchS visS q = true then .inl 4 else PF q (top ++ [txtF b]) st := by
 have hs : skipS false (34 :: r) = 34 :: r := by simp [skipS, blankB]
 unfold PF
 rw [parseS_succ, hs]
 simp only [show ¬ ((34 : UInt8) = 40) from by decide, show ¬ ((34 : UInt8) = 41) from by decide, if_false, if_true]
 cases hx : textS r [] with
 | inl e => rfl
 | inr p =>
  obtain ⟨b, q⟩ := p
  have := textS_len r [] b q hx
  simp only
  rw [ps_pf (show q.length < (34 :: r).length by simp only [List.length_cons]; omega)]
  rfl
theorem pf_vis {c : UInt8} (hc : visS c = true) (r : List UInt8) (top : List Fm) (st : List (List Fm)) : PF (c :: r) top st = match tokS numS ((c :: r).takeWhile visS) with
  | .inl e => .inl e
  | .inr f => if touchS visS ((c :: r).dropWhile visS) = true then .inl 4 else PF ((c :: r).dropWhile visS) (top ++ [f]) st := by
 obtain ⟨h1, h2, h3, h4, h5⟩ := vis_not c hc
 have hs : skipS false (c :: r) = c :: r := by simp [skipS, h1, h2]
 have hl : ((c :: r).dropWhile visS).length < (c :: r).length := by rw [List.dropWhile_cons_of_pos hc]; have := drop_len visS r; simp only [List.length_cons]; omega
 unfold PF
 rw [parseS_succ, hs]
 simp only [if_neg h3, if_neg h4, if_neg h5, if_pos hc]
 cases tokS numS ((c :: r).takeWhile visS) with
 | inl e => rfl
 | inr f =>
  simp only
  rw [ps_fuel hl (Nat.lt_succ_self _)]
theorem pf_bad {c : UInt8} (h1 : blankB c = false) (h2 : c ≠ 59) (h3 : c ≠ 40) (h4 : c ≠ 41) (h5 : c ≠ 34) (h6 : visS c = false) (r : List UInt8) (top : List Fm) (st : List (List Fm)) : PF (c :: r) top st = .inl 4 := by
 have hs : skipS false (c :: r) = c :: r := by simp [skipS, h1, h2]
 unfold PF
 rw [parseS_succ, hs]
 simp only [if_neg h3, if_neg h4, if_neg h5, h6]
 rfl
theorem pf_close0 (r : List UInt8) (top : List Fm) : PF (41 :: r) top [] = .inl 4 := by
 have hs : skipS false (41 :: r) = 41 :: r := by simp [skipS, blankB]
 unfold PF
 rw [parseS_succ, hs]
 rfl
theorem pf_line59 (r : List UInt8) (top : List Fm) (st : List (List Fm)) : PF (59 :: r) top st = PF (lineE (59 :: r)) top st := by
 refine pf_skip ?_ top st
 have e1 : skipS false (59 :: r) = skipS true r := by simp [skipS, blankB]
 have e2 : lineE (59 :: r) = lineE r := by unfold lineE; rw [List.dropWhile_cons_of_pos (by decide)]
 rw [e1, skip_line, e2]
 rfl
theorem text_qEnd : ∀ (r b x q : List UInt8), textS r b = .inr (x, q) → qEnd r = q ∧ ∃ p, r = p ++ q ∧ ∀ c ∈ p, c ≠ 10
 | [], b, x, q, h => by simp [textS] at h
 | [c], b, x, q, h => by
  simp only [textS] at h
  split at h
  ·rename_i hc
   split at h
   ·cases h
   ·cases h; exact ⟨rfl, [c], rfl, by simp [hc]⟩
  ·split at h
   ·cases h
   ·split at h <;> cases h
 | c :: d :: r, b, x, q, h => by
  simp only [textS] at h
  rw [qEnd]
  split at h
  ·rename_i hc
   split at h
   ·cases h
   ·cases h
    rw [if_neg (by rw [hc]; decide), if_pos hc]
    exact ⟨rfl, [c], rfl, by simp [hc]⟩
  ·rename_i hc34
   split at h
   ·rename_i hc
    rw [if_pos hc]
    split at h
    ·rename_i hd
     obtain ⟨h1, p, h2, h3⟩ := text_qEnd r _ x q h
     exact ⟨h1, c :: d :: p, by rw [h2]; rfl, fun y hy => by
      rcases List.mem_cons.1 hy with rfl | hy
      ·rw [hc]; decide
      ·rcases List.mem_cons.1 hy with rfl | hy
       ·rw [hd]; decide
       ·exact h3 y hy⟩
    ·split at h
     ·rename_i hd
      obtain ⟨h1, p, h2, h3⟩ := text_qEnd r _ x q h
      exact ⟨h1, c :: d :: p, by rw [h2]; rfl, fun y hy => by
       rcases List.mem_cons.1 hy with rfl | hy
       ·rw [hc]; decide
       ·rcases List.mem_cons.1 hy with rfl | hy
        ·rcases hd with rfl | rfl <;> decide
        ·exact h3 y hy⟩
     ·cases h
   ·rename_i hc92
    rw [if_neg hc92, if_neg hc34]
    split at h
    ·cases h
    ·rename_i hc
     obtain ⟨h1, p, h2, h3⟩ := text_qEnd (d :: r) _ x q h
     exact ⟨h1, c :: p, by rw [h2]; rfl, fun y hy => by
      rcases List.mem_cons.1 hy with rfl | hy
      ·intro e; subst e; exact hc (.inl (by decide))
      ·exact h3 y hy⟩
theorem bareF_false : ∀ r : List UInt8, (∀ c ∈ r, c ≠ 10) → bareF false r = false
 | [], _ => rfl
 | c :: r, h => by
  rw [bareF, if_neg (h c (by simp)), Bool.false_and]
  exact bareF_false r fun x hx => h x (by simp [hx])
theorem tok_end {q : List UInt8} {top l : List Fm} {st : List (List Fm)} (h : PF q top st = .inr l) (ht : touchS visS q = false) : ∀ c r, q = c :: r → tokc c = false ∧ c ≠ 34 := by
 rintro c r rfl
 simp only [touchS, Bool.or_eq_false_iff, decide_eq_false_iff_not] at ht
 refine ⟨?_, ht.1⟩
 cases hc : tokc c with
 | false => rfl
 | true =>
  obtain ⟨h1, h2, h3, h4, h5⟩ := tok_not hc
  rw [pf_bad h5 h1 h3 h4 h2 ht.2] at h
  cases h
theorem take_tok {w q : List UInt8} (hw : ∀ c ∈ w, tokc c = true) (hq : ∀ c r, q = c :: r → tokc c = false ∧ c ≠ 34) : (w ++ q).dropWhile tokc = q := by
 induction w with
 | nil =>
  cases q with
  | nil => rfl
  | cons c r => rw [List.nil_append, List.dropWhile_cons_of_neg (by simp [(hq c r rfl).1])]
 | cons c w ih =>
  rw [List.cons_append, List.dropWhile_cons_of_pos (hw c (by simp))]
  exact ih fun x hx => hw x (by simp [hx])
theorem tok_split {c : UInt8} {r : List UInt8} {top l : List Fm} {st : List (List Fm)} (hc : tokc c = true) (h : PF (c :: r) top st = .inr l) : ∃ f q, (c :: r).dropWhile tokc = q ∧ q.length ≤ r.length ∧ (∀ x y, q = x :: y → tokc x = false ∧ x ≠ 34) ∧ PF q (top ++ [f]) st = .inr l := by
 obtain ⟨h1, h2, h3, h4, h5⟩ := tok_not hc
 have hv : visS c = true := by
  cases hv : visS c with
  | true => rfl
  | false => rw [pf_bad h5 h1 h3 h4 h2 hv] at h; cases h
 rw [pf_vis hv] at h
 cases hx : tokS numS ((c :: r).takeWhile visS) with
 | inl e => rw [hx] at h; cases h
 | inr f =>
  rw [hx] at h
  simp only at h
  cases ht : touchS visS ((c :: r).dropWhile visS) with
  | true => rw [ht] at h; cases h
  | false =>
   rw [ht, if_neg (by decide)] at h
   have he := tok_end h ht
   have hall : ∀ x ∈ (c :: r).takeWhile visS, tokc x = true := fun x hx => vis_tok (takeWhile_all hx)
   have hd := take_tok hall he
   rw [List.takeWhile_append_dropWhile] at hd
   refine ⟨f, (c :: r).dropWhile visS, hd, ?_, he, h⟩
   rw [List.dropWhile_cons_of_pos hv]; exact drop_len _ r
theorem ev_near {d : Int} : ∀ (r : List UInt8) (b : Bool), (∀ c y, r.dropWhile tokc = c :: y → c ≠ 34) → r = r.dropWhile tokc ∨ b = false → EV d true b r = EV d false b (r.dropWhile tokc)
 | [], b, _, _ => rfl
 | c :: r, b, h, hb => by
  by_cases hc : tokc c = true
  ·obtain ⟨h1, h2, h3, h4, h5⟩ := tok_not hc
   have hb' : b = false := by
    rcases hb with hb | hb
    ·rw [List.dropWhile_cons_of_pos hc] at hb
     have := congrArg List.length hb
     have := drop_len tokc r
     simp only [List.length_cons] at *
     omega
    ·exact hb
   rw [List.dropWhile_cons_of_pos hc] at h ⊢
   rw [EV_cons, if_neg h1, if_neg h2, if_neg h3, if_neg h4, if_neg (by simp [h5]), if_pos rfl, hb']
   exact ev_near r false h (.inr rfl)
  ·rw [List.dropWhile_cons_of_neg hc] at h ⊢
   have h34 := h c r rfl
   rw [EV_cons, EV_cons, if_neg h34, if_neg h34]
   by_cases c1 : c = 59
   ·rw [if_pos c1, if_pos c1]
   ·rw [if_neg c1, if_neg c1]
    by_cases c2 : c = 40
    ·rw [if_pos c2, if_pos c2]
    ·rw [if_neg c2, if_neg c2]
     by_cases c3 : c = 41
     ·rw [if_pos c3, if_pos c3]
     ·rw [if_neg c3, if_neg c3]
      by_cases c4 : blankB c = true
      ·rw [if_pos c4, if_pos c4]
      ·exact absurd (tok_of c1 h34 c2 c3 c4) hc
theorem ev_tok {c : UInt8} {d : Int} {b : Bool} {r q : List UInt8} (hc : tokc c = true) (hq : (c :: r).dropWhile tokc = q) (he : ∀ x y, q = x :: y → tokc x = false ∧ x ≠ 34) : EV d false b (c :: r) = (if d = 0 then [(true, c :: r)] else []) ++ EV d false false q := by
 obtain ⟨h1, h2, h3, h4, h5⟩ := tok_not hc
 rw [EV_cons, if_neg h1, if_neg h2, if_neg h3, if_neg h4, if_neg (by simp [h5]), if_neg (by decide)]
 rw [List.dropWhile_cons_of_pos hc] at hq
 rw [ev_near r false (fun x y e => (he x y (by rw [← hq]; exact e)).2) (.inr rfl), hq]
theorem pop_list : ∀ (N : Nat) (r : List UInt8), r.length ≤ N → ∀ (top t0 l : List Fm) (st : List (List Fm)) (bare : Bool), PF r top (st ++ [t0]) = .inr l →
  ∃ f, (PA (st.length + 1) r).length < r.length ∧ PF (PA (st.length + 1) r) (t0 ++ [f]) [] = .inr l ∧ EV ((st.length : Int) + 1) false bare r = EV 0 false false (PA (st.length + 1) r)
 | 0, [], _, top, t0, l, st, bare, h => by
  unfold PF at h
  rw [parseS_succ] at h
  cases st <;> cases h
 | 0, c :: r, hN, _, _, _, _, _, _ => by simp at hN
 | N + 1, [], _, top, t0, l, st, bare, h => by
  unfold PF at h
  rw [parseS_succ] at h
  cases st <;> cases h
 | N + 1, c :: r, hN, top, t0, l, st, bare, h => by
  simp only [List.length_cons] at hN ⊢
  have ih := pop_list N
  have hd0 : ¬ ((st.length : Int) + 1 = 0) := by omega
  by_cases c1 : c = 59
  ·subst c1
   have hl := lineE_lt (show (59 : UInt8) ≠ 10 by decide) r
   rw [pf_line59] at h
   obtain ⟨f, h1, h2, h3⟩ := ih (lineE (59 :: r)) (by omega) top t0 l st false h
   have e : PA (st.length + 1) (59 :: r) = PA (st.length + 1) (lineE (59 :: r)) := by rw [PA_cons, if_neg (by decide), if_pos rfl, if_neg (by omega)]
   rw [e]
   refine ⟨f, by omega, h2, ?_⟩
   rw [EV_cons, if_pos rfl, if_neg (fun h => hd0 h.1), List.nil_append]
   exact h3
  ·by_cases c2 : c = 34
   ·subst c2
    rw [pf_quote] at h
    cases hx : textS r [] with
    | inl e => rw [hx] at h; cases h
    | inr p =>
     obtain ⟨b, q⟩ := p
     rw [hx] at h
     simp only at h
     obtain ⟨hq, p, hp, hp10⟩ := text_qEnd r [] b q hx
     have hql := qEnd_le r
     cases ht : touchS visS q with
     | true => rw [ht] at h; cases h
     | false =>
      rw [ht, if_neg (by decide), ← hq] at h
      obtain ⟨f, h1, h2, h3⟩ := ih (qEnd r) (by omega) _ t0 l st (bareF bare ((34 :: r).take ((34 :: r).length - (qEnd r).length))) h
      have e : PA (st.length + 1) (34 :: r) = PA (st.length + 1) (qEnd r) := by rw [PA_cons, if_pos rfl, if_neg (by omega)]
      rw [e]
      refine ⟨f, by omega, h2, ?_⟩
      rw [EV_cons, if_neg (by decide), if_pos rfl, if_neg (fun h => hd0 h.1), List.nil_append]
      exact h3
   ·by_cases c3 : c = 40
    ·subst c3
     rw [pf_open] at h
     obtain ⟨f, h1, h2, h3⟩ := ih r (by omega) [] t0 l (top :: st) false h
     have e : PA (st.length + 1) (40 :: r) = PA (st.length + 1 + 1) r := by rw [PA_cons, if_neg (by decide), if_neg (by decide), if_pos rfl]
     rw [List.length_cons] at h1 h2 h3
     rw [e]
     refine ⟨f, by omega, h2, ?_⟩
     rw [EV_cons, if_neg (by decide), if_neg (by decide), if_pos rfl, if_neg hd0, List.nil_append, ← h3]
     rfl
    ·by_cases c4 : c = 41
     ·subst c4
      cases st with
      | nil =>
       rw [List.nil_append, pf_close] at h
       have e : PA (([] : List (List Fm)).length + 1) (41 :: r) = r := by rw [PA_cons, if_neg (by decide), if_neg (by decide), if_neg (by decide), if_pos rfl]; rfl
       rw [e]
       refine ⟨lstF top, by omega, h, ?_⟩
       rw [EV_cons, if_neg (by decide), if_neg (by decide), if_neg (by decide), if_pos rfl]
       rfl
      | cons t st' =>
       rw [List.cons_append, pf_close] at h
       obtain ⟨f, h1, h2, h3⟩ := ih r (by omega) _ t0 l st' false h
       have e : PA ((t :: st').length + 1) (41 :: r) = PA (st'.length + 1) r := by
        rw [PA_cons, if_neg (by decide), if_neg (by decide), if_neg (by decide), if_pos rfl, List.length_cons, if_neg (by omega)]; rfl
       rw [e]
       refine ⟨f, by omega, h2, ?_⟩
       rw [EV_cons, if_neg (by decide), if_neg (by decide), if_neg (by decide), if_pos rfl, List.length_cons, ← h3]
       congr 1; omega
     ·by_cases c5 : blankB c = true
      ·rw [pf_blank c5] at h
       obtain ⟨f, h1, h2, h3⟩ := ih r (by omega) top t0 l st (if c = 10 then true else bare) h
       have e : PA (st.length + 1) (c :: r) = PA (st.length + 1) r := by rw [PA_cons, if_neg c2, if_neg c1, if_neg c3, if_neg c4, if_pos c5, if_neg (by omega)]
       rw [e]
       refine ⟨f, by omega, h2, ?_⟩
       rw [EV_cons, if_neg c1, if_neg c2, if_neg c3, if_neg c4, if_pos c5]
       exact h3
      ·have hc := tok_of c1 c2 c3 c4 c5
       obtain ⟨g, q, hq, hql, he, h'⟩ := tok_split hc h
       obtain ⟨f, h1, h2, h3⟩ := ih q (by omega) _ t0 l st false h'
       have e : PA (st.length + 1) (c :: r) = PA (st.length + 1) q := by rw [PA_cons, if_neg c2, if_neg c1, if_neg c3, if_neg c4, if_neg c5, if_neg (by omega), hq]
       rw [e]
       refine ⟨f, by omega, h2, ?_⟩
       rw [ev_tok hc hq he, if_neg hd0, List.nil_append]
       exact h3
end Go.Ab

set_option maxRecDepth 100000
namespace Go.Ab
open Go Go.RowKit Go.Proofs
def zF : Fm := .mk 0 0 [] []
def wsL : List UInt8 := [32, 9]
def wsB (c : UInt8) : Bool := decide (c ∈ wsL)
def trimR (s : List UInt8) : List UInt8 := trimRi wsB s s.length
def comS (r : List UInt8) : List UInt8 := trimR (r.takeWhile n10)
def pieceS : List (Bool × List UInt8) → List Fm → List (List UInt8 × Fm)
 | [], _ => []
 | (false, r) :: E, fs => (comS r, zF) :: pieceS E fs
 | (true, _) :: E, f :: fs => ([], f) :: pieceS E fs
 | (true, _) :: _, [] => []
def itS : Nat → Bool → List UInt8 → List Fm → List (List UInt8 × Fm)
 | 0, _, _, _ => []
 | _ + 1, _, [], _ => []
 | n + 1, bare, c :: r, fs =>
  if c = 10 then itS n true r fs
  else if blankB c = true then itS n bare r fs
  else if c = 59 then (if bare = true then [(comS (c :: r), zF)] else []) ++ itS n bare (lineE (c :: r)) fs
  else match fs with
   | [] => []
   | f :: fs' => ([], f) :: itS n false (PA 0 (c :: r)) fs'
theorem past_le : ∀ (n d : Nat) (r : List UInt8), (pastS n d r).length ≤ r.length
 | 0, d, r => Nat.le_refl _
 | n + 1, d, [] => by simp [pastS]
 | n + 1, d, c :: r => by
  have hq := qEnd_le r
  have ht := drop_len tokc (c :: r)
  have hl := lineE_le (c :: r)
  simp only [List.length_cons] at ht hl ⊢
  simp only [pastS]
  have i1 := past_le n d (qEnd r)
  have i2 := past_le n d (lineE (c :: r))
  have i3 := past_le n (d + 1) r
  have i4 := past_le n (d - 1) r
  have i5 := past_le n d r
  have i6 := past_le n d ((c :: r).dropWhile tokc)
  repeat' split
  all_goals first | omega | (have := lineE_le (c :: r); simp only [List.length_cons] at this; omega)
theorem PA_le (d : Nat) (r : List UInt8) : (PA d r).length ≤ r.length := past_le _ _ _
theorem PA0_lt {c : UInt8} {r : List UInt8} (h : blankB c = false) (h2 : c ≠ 59) : (PA 0 (c :: r)).length ≤ r.length := by
 rw [PA_cons]
 have hq := qEnd_le r
 by_cases c1 : c = 34
 ·rw [if_pos c1, if_pos rfl]; exact hq
 ·rw [if_neg c1, if_neg h2]
  by_cases c3 : c = 40
  ·rw [if_pos c3]; exact PA_le _ _
  ·rw [if_neg c3]
   by_cases c4 : c = 41
   ·rw [if_pos c4, if_neg (by decide)]; exact PA_le _ _
   ·rw [if_neg c4, if_neg (by simp [h]), if_pos rfl]
    exact tok_drop_lt (tok_of h2 c1 c3 c4 (by simp [h])) r
theorem it_fuel : ∀ (n m : Nat) (bare : Bool) (r : List UInt8) (fs : List Fm), r.length < n → r.length < m → itS n bare r fs = itS m bare r fs
 | 0, m, bare, r, fs, h, _ => by omega
 | n + 1, 0, bare, r, fs, _, h => by omega
 | n + 1, m + 1, bare, [], fs, _, _ => rfl
 | n + 1, m + 1, bare, c :: r, fs, h1, h2 => by
  simp only [List.length_cons] at h1 h2
  simp only [itS]
  by_cases c1 : c = 10
  ·rw [if_pos c1, if_pos c1, it_fuel n m _ r fs (by omega) (by omega)]
  ·have hl := lineE_lt c1 r
   rw [if_neg c1, if_neg c1]
   by_cases c2 : blankB c = true
   ·rw [if_pos c2, if_pos c2, it_fuel n m _ r fs (by omega) (by omega)]
   ·rw [if_neg c2, if_neg c2]
    by_cases c3 : c = 59
    ·rw [if_pos c3, if_pos c3, it_fuel n m _ (lineE (c :: r)) fs (by omega) (by omega)]
    ·rw [if_neg c3, if_neg c3]
     cases fs with
     | nil => rfl
     | cons f fs' =>
      have := PA0_lt (c := c) (r := r) (by simpa using c2) c3
      simp only
      rw [it_fuel n m _ (PA 0 (c :: r)) fs' (by omega) (by omega)]
def IT (bare : Bool) (r : List UInt8) (fs : List Fm) : List (List UInt8 × Fm) := itS (r.length + 1) bare r fs
theorem IT_nil (bare : Bool) (fs : List Fm) : IT bare [] fs = [] := rfl
theorem IT_cons (bare : Bool) (c : UInt8) (r : List UInt8) (fs : List Fm) : IT bare (c :: r) fs =
  (if c = 10 then IT true r fs
  else if blankB c = true then IT bare r fs
  else if c = 59 then (if bare = true then [(comS (c :: r), zF)] else []) ++ IT bare (lineE (c :: r)) fs
  else match fs with
   | [] => []
   | f :: fs' => ([], f) :: IT false (PA 0 (c :: r)) fs') := by
 unfold IT
 simp only [itS, List.length_cons]
 by_cases c1 : c = 10
 ·rw [if_pos c1, if_pos c1]
 ·have hl := lineE_lt c1 r
  rw [if_neg c1, if_neg c1]
  by_cases c2 : blankB c = true
  ·rw [if_pos c2, if_pos c2]
  ·rw [if_neg c2, if_neg c2]
   by_cases c3 : c = 59
   ·rw [if_pos c3, if_pos c3, it_fuel (r.length + 1) ((lineE (c :: r)).length + 1) _ (lineE (c :: r)) fs (by omega) (by omega)]
   ·rw [if_neg c3, if_neg c3]
    cases fs with
    | nil => rfl
    | cons f fs' =>
     have := PA0_lt (c := c) (r := r) (by simpa using c2) c3
     simp only
     rw [it_fuel (r.length + 1) ((PA 0 (c :: r)).length + 1) _ (PA 0 (c :: r)) fs' (by omega) (by omega)]
def formsE (E : List (Bool × List UInt8)) : Nat := (E.filter fun e => e.1).length
theorem lineE_cases (r : List UInt8) : lineE r = [] ∨ ∃ q, lineE r = 10 :: q := by
 induction r with
 | nil => exact .inl rfl
 | cons c r ih =>
  by_cases h : c = 10
  ·subst h; right; exact ⟨r, by unfold lineE; rw [List.dropWhile_cons_of_neg (by decide)]⟩
  ·have e : lineE (c :: r) = lineE r := by unfold lineE; rw [List.dropWhile_cons_of_pos (by simp [n10, h])]
   rw [e]; exact ih
theorem items_same : ∀ (N : Nat) (r : List UInt8), r.length ≤ N → ∀ (top l : List Fm) (bare : Bool), PF r top [] = .inr l →
  ∃ fs, l = top ++ fs ∧ pieceS (EV 0 false bare r) fs = IT bare r fs ∧ formsE (EV 0 false bare r) = fs.length
 | N, [], _, top, l, bare, h => by
  rw [pf_end] at h
  cases h
  exact ⟨[], by simp, rfl, rfl⟩
 | 0, c :: r, hN, _, _, _, _ => by simp at hN
 | N + 1, c :: r, hN, top, l, bare, h => by
  simp only [List.length_cons] at hN
  have ih := items_same N
  by_cases c5 : blankB c = true
  ·have hne : c ≠ 59 ∧ c ≠ 34 ∧ c ≠ 40 ∧ c ≠ 41 := by
    refine ⟨?_, ?_, ?_, ?_⟩ <;> (intro e; subst e; revert c5; decide)
   rw [pf_blank c5] at h
   rw [EV_cons, if_neg hne.1, if_neg hne.2.1, if_neg hne.2.2.1, if_neg hne.2.2.2, if_pos c5]
   by_cases c10 : c = 10
   ·have hI : ∀ fs, IT bare (c :: r) fs = IT true r fs := fun fs => by rw [IT_cons, if_pos c10]
    simp only [hI]
    rw [if_pos c10]; exact ih r (by omega) top l true h
   ·have hI : ∀ fs, IT bare (c :: r) fs = IT bare r fs := fun fs => by rw [IT_cons, if_neg c10, if_pos c5]
    simp only [hI]
    rw [if_neg c10]; exact ih r (by omega) top l bare h
  ·have c10 : c ≠ 10 := by intro e; subst e; exact c5 (by decide)
   by_cases c1 : c = 59
   ·subst c1
    have hl := lineE_lt (show (59 : UInt8) ≠ 10 by decide) r
    rw [pf_line59] at h
    have hI : ∀ fs, IT bare (59 :: r) fs = (if bare = true then [(comS (59 :: r), zF)] else []) ++ IT bare (lineE (59 :: r)) fs := fun fs => by rw [IT_cons, if_neg c10, if_neg c5, if_pos rfl]
    simp only [hI]
    rw [EV_cons, if_pos rfl]
    have key : ∃ fs, l = top ++ fs ∧ pieceS (EV 0 false false (lineE (59 :: r))) fs = IT bare (lineE (59 :: r)) fs ∧ formsE (EV 0 false false (lineE (59 :: r))) = fs.length := by
     rcases lineE_cases (59 :: r) with e | ⟨q, e⟩
     ·rw [e] at h ⊢
      rw [pf_end] at h
      cases h
      exact ⟨[], by simp, rfl, rfl⟩
     ·rw [e] at h hl ⊢
      simp only [List.length_cons] at hl
      rw [pf_blank (by decide)] at h
      have hI : ∀ fs, IT bare (10 :: q) fs = IT true q fs := fun fs => by rw [IT_cons, if_pos rfl]
      simp only [hI]
      rw [EV_cons, if_neg (by decide), if_neg (by decide), if_neg (by decide), if_neg (by decide), if_pos (by decide), if_pos rfl]
      exact ih q (by omega) top l true h
    obtain ⟨fs, h1, h2, h3⟩ := key
    refine ⟨fs, h1, ?_, ?_⟩
    ·cases bare with
     | true => rw [if_pos ⟨rfl, rfl⟩, if_pos rfl]; simp only [List.cons_append, List.nil_append, pieceS, h2]
     | false => rw [if_neg (by simp), if_neg (by simp)]; simp only [List.nil_append, h2]
    ·cases bare with
     | true => rw [if_pos ⟨rfl, rfl⟩, ← h3]; rfl
     | false => rw [if_neg (by simp), List.nil_append]; exact h3
   ·have hI : ∀ fs, IT bare (c :: r) fs = (match fs with
     | [] => []
     | f :: fs' => ([], f) :: IT false (PA 0 (c :: r)) fs') := fun fs => by rw [IT_cons, if_neg c10, if_neg c5, if_neg c1]
    simp only [hI]
    have fin : ∀ (g : Fm) (q : List UInt8) (E : List (Bool × List UInt8)), PA 0 (c :: r) = q → q.length ≤ r.length → PF q (top ++ [g]) [] = .inr l → E = EV 0 false false q →
      ∃ fs, l = top ++ fs ∧ pieceS ((true, c :: r) :: E) fs = (match fs with
       | [] => []
       | f :: fs' => ([], f) :: IT false (PA 0 (c :: r)) fs') ∧ formsE ((true, c :: r) :: E) = fs.length := by
     intro g q E hq hql hp hE
     obtain ⟨fs, h1, h2, h3⟩ := ih q (by omega) _ l false hp
     refine ⟨g :: fs, by rw [h1]; simp, ?_, ?_⟩
     ·simp only [pieceS, hE, h2, hq]
     ·rw [List.length_cons, ← h3, hE]; rfl
    by_cases c2 : c = 34
    ·subst c2
     rw [pf_quote] at h
     cases hx : textS r [] with
     | inl e => rw [hx] at h; cases h
     | inr p =>
      obtain ⟨b, q⟩ := p
      rw [hx] at h
      simp only at h
      obtain ⟨hq, p, hp, hp10⟩ := text_qEnd r [] b q hx
      cases ht : touchS visS q with
      | true => rw [ht] at h; cases h
      | false =>
       rw [ht, if_neg (by decide)] at h
       have e1 : PA 0 (34 :: r) = q := by rw [PA_cons, if_pos rfl, if_pos rfl, hq]
       have e2 : (34 :: r).take ((34 :: r).length - (qEnd r).length) = 34 :: p := by
        rw [hq, hp]
        have : (34 :: (p ++ q)).length - q.length = (34 :: p).length := by simp only [List.length_cons, List.length_append]; omega
        rw [this, show (34 :: (p ++ q) : List UInt8) = (34 :: p) ++ q from rfl, List.take_left]
       have e3 : bareF bare (34 :: p) = false := by
        rw [bareF, if_neg (by decide)]
        have : (bare && (decide ((34 : UInt8) = 32) || decide ((34 : UInt8) = 9))) = false := by cases bare <;> rfl
        rw [this]; exact bareF_false p hp10
       rw [EV_cons, if_neg (by decide), if_pos rfl, if_pos ⟨rfl, rfl⟩, e2, e3, hq]
       exact fin _ q _ e1 (by rw [hp]; simp) h rfl
    ·by_cases c3 : c = 40
     ·subst c3
      rw [pf_open] at h
      obtain ⟨f, h1, h2, h3⟩ := pop_list r.length r (Nat.le_refl _) [] top l [] false h
      have e1 : PA 0 (40 :: r) = PA (0 + 1) r := by rw [PA_cons, if_neg (by decide), if_neg (by decide), if_pos rfl]
      rw [EV_cons, if_neg (by decide), if_neg (by decide), if_pos rfl, if_pos rfl]
      exact fin f _ _ e1 (by have : (PA (0 + 1) r).length < r.length := h1; omega) h2 h3
     ·by_cases c4 : c = 41
      ·subst c4
       rw [pf_close0] at h; cases h
      ·have hc := tok_of c1 c2 c3 c4 c5
       obtain ⟨g, q, hq, hql, he, h'⟩ := tok_split hc h
       have e1 : PA 0 (c :: r) = q := by rw [PA_cons, if_neg c2, if_neg c1, if_neg c3, if_neg c4, if_neg c5, if_pos rfl, hq]
       rw [ev_tok hc hq he, if_pos rfl]
       exact fin g q _ e1 hql h' rfl
theorem drop_suf (p : UInt8 → Bool) (r : List UInt8) : r.dropWhile p <:+ r := List.dropWhile_suffix p
theorem qEnd_suf : ∀ r : List UInt8, qEnd r <:+ r
 | [] => List.suffix_refl _
 | [c] => by simp [qEnd]
 | c :: d :: r => by
  rw [qEnd]
  split
  ·exact (qEnd_suf r).trans ⟨[c, d], rfl⟩
  ·split
   ·exact ⟨[c], rfl⟩
   ·exact (qEnd_suf (d :: r)).trans ⟨[c], rfl⟩
theorem ev_suf : ∀ (n : Nat) (d : Int) (near bare : Bool) (r : List UInt8), r.length < n → ∀ e ∈ evS n d near bare r, e.2 <:+ r
 | 0, d, near, bare, r, h => by omega
 | n + 1, d, near, bare, [], h => by intro e he; simp [evS] at he
 | n + 1, d, near, bare, c :: r, h => by
  simp only [List.length_cons] at h
  have up : ∀ {q : List UInt8}, q <:+ r → q <:+ c :: r := fun hq => hq.trans ⟨[c], rfl⟩
  intro e he
  simp only [evS] at he
  have self : ∀ (P : Prop) [Decidable P] (b : Bool), e ∈ (if P then [(b, c :: r)] else []) → e.2 <:+ c :: r := fun P _ b hx => by
   by_cases hP : P
   ·rw [if_pos hP, List.mem_singleton] at hx; subst hx; exact List.suffix_refl _
   ·rw [if_neg hP] at hx; cases hx
  by_cases c1 : c = 59
  ·rw [if_pos c1] at he
   have hl := lineE_lt (show c ≠ 10 by rw [c1]; decide) r
   rcases List.mem_append.1 he with he | he
   ·exact self _ _ he
   ·exact (ev_suf n _ _ _ _ (by omega) e he).trans (drop_suf _ _)
  ·rw [if_neg c1] at he
   by_cases c2 : c = 34
   ·rw [if_pos c2] at he
    have hq := qEnd_le r
    rcases List.mem_append.1 he with he | he
    ·exact self _ _ he
    ·exact up ((ev_suf n _ _ _ _ (by omega) e he).trans (qEnd_suf r))
   ·rw [if_neg c2] at he
    by_cases c3 : c = 40
    ·rw [if_pos c3] at he
     rcases List.mem_append.1 he with he | he
     ·exact self _ _ he
     ·exact up (ev_suf n _ _ _ _ (by omega) e he)
    ·rw [if_neg c3] at he
     by_cases c4 : c = 41
     ·rw [if_pos c4] at he; exact up (ev_suf n _ _ _ _ (by omega) e he)
     ·rw [if_neg c4] at he
      by_cases c5 : blankB c = true
      ·rw [if_pos c5] at he; exact up (ev_suf n _ _ _ _ (by omega) e he)
      ·rw [if_neg c5] at he
       by_cases c6 : near = true
       ·rw [if_pos c6] at he; exact up (ev_suf n _ _ _ _ (by omega) e he)
       ·rw [if_neg c6] at he
        rcases List.mem_append.1 he with he | he
        ·exact self _ _ he
        ·exact up (ev_suf n _ _ _ _ (by omega) e he)
theorem ev_asc : ∀ (n : Nat) (d : Int) (near bare : Bool) (r : List UInt8), r.length < n → (evS n d near bare r).Pairwise fun a b => b.2.length < a.2.length
 | 0, d, near, bare, r, h => by omega
 | n + 1, d, near, bare, [], h => by simp [evS]
 | n + 1, d, near, bare, c :: r, h => by
  simp only [List.length_cons] at h
  have add : ∀ (P : Prop) [Decidable P] (b : Bool) (d' : Int) (near' bare' : Bool) (q : List UInt8), q.length ≤ r.length → ((if P then [(b, c :: r)] else []) ++ evS n d' near' bare' q).Pairwise fun a b => b.2.length < a.2.length := by
   intro P _ b d' near' bare' q hq
   have ih := ev_asc n d' near' bare' q (by omega)
   by_cases hP : P
   ·rw [if_pos hP, List.singleton_append, List.pairwise_cons]
    refine ⟨fun e he => ?_, ih⟩
    have := (ev_suf n d' near' bare' q (by omega) e he).length_le
    simp only [List.length_cons]; omega
   ·rw [if_neg hP, List.nil_append]; exact ih
  simp only [evS]
  by_cases c1 : c = 59
  ·rw [if_pos c1]; exact add _ _ _ _ _ _ (lineE_lt (show c ≠ 10 by rw [c1]; decide) r)
  ·rw [if_neg c1]
   by_cases c2 : c = 34
   ·rw [if_pos c2]; exact add _ _ _ _ _ _ (qEnd_le r)
   ·rw [if_neg c2]
    by_cases c3 : c = 40
    ·rw [if_pos c3]; exact add _ _ _ _ _ _ (Nat.le_refl _)
    ·rw [if_neg c3]
     by_cases c4 : c = 41
     ·rw [if_pos c4]; exact ev_asc n _ _ _ _ (by omega)
     ·rw [if_neg c4]
      by_cases c5 : blankB c = true
      ·rw [if_pos c5]; exact ev_asc n _ _ _ _ (by omega)
      ·rw [if_neg c5]
       by_cases c6 : near = true
       ·rw [if_pos c6]; exact ev_asc n _ _ _ _ (by omega)
       ·rw [if_neg c6]; exact add _ _ _ _ _ _ (Nat.le_refl _)
end Go.Ab
