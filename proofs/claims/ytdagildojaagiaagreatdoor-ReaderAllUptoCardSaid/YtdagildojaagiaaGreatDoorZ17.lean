/-
  SORTING: what swapping blocks and rotating come to.
-/
import Derived.Test.YtdagildojaagiaaGreatDoorZ16
import Derived.Test.YtdagildojaagiaaGreatDoorZ15
import Derived.Test.YtdagildojaagiaaGreatDoorZ14
set_option linter.unusedVariables false
set_option linter.unusedSimpArgs false
set_option maxRecDepth 100000
namespace Go.Ab
open Go Go.RowKit Go.Proofs
mutual
def wr : Fm → List UInt8
 | .mk k n t l => if k = 0 then Lib.itoa n else if k = 1 then t else if k = 2 then 34 :: (escS t ++ [34]) else 40 :: (wrL true l ++ [41])
def wrL : Bool → List Fm → List UInt8
 | _, [] => []
 | b, f :: r => (if b = true then [] else [32]) ++ (wr f ++ wrL false r)
end
theorem wr_eq (f : Fm) : wr f = if f.k = 0 then Lib.itoa f.n else if f.k = 1 then f.t else if f.k = 2 then 34 :: (escS f.t ++ [34]) else 40 :: (wrL true f.l ++ [41]) := by
 cases f; rw [wr]; rfl
theorem wrL_append : ∀ (a c : List Fm) (b : Bool), wrL b (a ++ c) = wrL b a ++ wrL (b && a.isEmpty) c
 | [], c, b => by simp [wrL]
 | f :: a, c, b => by
  simp only [List.cons_append, wrL, wrL_append a c false, List.isEmpty_cons, Bool.and_false, Bool.false_and, List.append_assoc]
theorem wrL_take (l : List Fm) {i : Nat} (h : i < l.length) : wrL true (l.take (i + 1)) = wrL true (l.take i) ++ ((if i = 0 then [] else [32]) ++ wr l[i]) := by
 rw [List.take_add_one, List.getElem?_eq_getElem h, wrL_append]
 congr 1
 simp only [Option.toList_some, wrL, List.append_nil, Bool.true_and]
 by_cases hi : i = 0
 ·subst hi; simp
 ·have : (l.take i).isEmpty = false := by
   cases hl : l.take i with
   | nil =>
    have := congrArg List.length hl
    rw [List.length_take, Nat.min_eq_left (by omega)] at this
    exact absurd this hi
   | cons a r => rfl
  rw [this]; simp [hi]
theorem nDigits_le : ∀ (k u : Nat), u < 10 ^ k → Lib.nDigits u ≤ k + 1
 | 0, u, h => by rw [Lib.nDigits_small (by simp at h; omega)]; omega
 | k + 1, u, h => by
  by_cases h10 : u < 10
  ·rw [Lib.nDigits_small h10]; omega
  ·rw [Lib.nDigits_big h10]
   have := nDigits_le k (u / 10) (by rw [Nat.pow_succ] at h; omega)
   omega
theorem itoa_len {n : Int} (h1 : -1152921504606846976 ≤ n) (h2 : n ≤ 1152921504606846976) : (Lib.itoa n).length ≤ 21 := by
 unfold Lib.itoa
 split
 ·rw [List.length_cons, Lib.decDigits_length]
  have := nDigits_le 19 n.natAbs (by omega)
  omega
 ·rw [Lib.decDigits_length]
  have := nDigits_le 19 n.toNat (by omega)
  omega
theorem escS_le (t : List UInt8) : (escS t).length ≤ 2 * t.length := by
 rw [escS_len]
 have := cntS_le t
 omega
theorem wr_len : ∀ f : Fm, fieldsF f = true → (wr f).length + 1 ≤ 4101 * f.size := Fm.ind fun k n t l ih hf => by
 rw [fieldsF_eq] at hf
 simp only [Bool.and_eq_true] at hf
 obtain ⟨h1, h2⟩ := hf
 simp only [Fm.k, Fm.n, Fm.t, Fm.l] at h1 h2
 have hs : 1 ≤ (Fm.mk k n t l).size := by rw [Fm.size_eq]; omega
 rw [wr]
 unfold leafS at h1
 by_cases c0 : k = 0
 ·rw [if_pos c0] at h1 ⊢
  simp only [Bool.and_eq_true, decide_eq_true_eq] at h1
  have := itoa_len h1.2.2.1 h1.2.2.2
  omega
 ·rw [if_neg c0] at h1 ⊢
  by_cases c1 : k = 1
  ·rw [if_pos c1] at h1 ⊢
   simp only [wordS, Bool.and_eq_true, decide_eq_true_eq] at h1
   omega
  ·rw [if_neg c1] at h1 ⊢
   by_cases c2 : k = 2
   ·rw [if_pos c2] at h1 ⊢
    simp only [Bool.and_eq_true, decide_eq_true_eq] at h1
    have := escS_le t
    simp only [List.length_cons, List.length_append, List.length_nil]
    omega
   ·rw [if_neg c2] at h1 ⊢
    by_cases c3 : k = 3
    ·have key : ∀ (l : List Fm) (b : Bool), (∀ f ∈ l, fieldsF f = true → (wr f).length + 1 ≤ 4101 * f.size) → fieldsL l = true → (wrL b l).length ≤ 4101 * Fm.sizeL l := by
      intro l
      induction l with
      | nil => intro b _ _; simp [wrL]
      | cons f r ihr =>
       intro b hi hl
       simp only [fieldsL, Bool.and_eq_true] at hl
       have e1 := hi f (by simp) hl.1
       have e2 := ihr false (fun g hg => hi g (List.mem_cons_of_mem _ hg)) hl.2
       simp only [wrL, List.length_append, Fm.sizeL]
       have : (if b = true then [] else [32] : List UInt8).length ≤ 1 := by split <;> simp
       omega
     have := key l true ih h2
     rw [Fm.size_eq]
     have e3 : (if (Fm.mk k n t l).k = 3 then (Fm.mk k n t l).l else []) = l := if_pos c3
     rw [e3]
     simp only [List.length_cons, List.length_append, List.length_nil]
     omega
    ·rw [if_neg c3] at h1; cases h1
theorem wrL_len : ∀ (l : List Fm) (b : Bool), fieldsL l = true → (wrL b l).length ≤ 4101 * Fm.sizeL l
 | [], b, _ => by simp [wrL]
 | f :: r, b, hl => by
  simp only [fieldsL, Bool.and_eq_true] at hl
  have e1 := wr_len f hl.1
  have e2 := wrL_len r false hl.2
  simp only [wrL, List.length_append, Fm.sizeL]
  have : (if b = true then [] else [32] : List UInt8).length ≤ 1 := by split <;> simp
  omega
theorem ints_append (a b : List UInt8) : intsOf a ++ intsOf b = intsOf (a ++ b) := by unfold intsOf; rw [List.map_append]
theorem bldStr_val {x : List UInt8} {b : Bool} {l : List Int} (h : l.length + x.length ≤ 140737488355328) : G_bldStr x (b, (), ()) l = some (((x.length : Int), true, ()), ((true, (), ()), l ++ intsOf x, ())) := by
 unfold G_bldStr
 simp only [Option.bind_some, List.length_map, Nat.mul_one]
 rw [decide_eq_true h]
 rfl
theorem bldByte_val {c : Int} {b : Bool} {l : List Int} (h : l.length + 1 ≤ 140737488355328) : G_bldByte c (b, (), ()) l = some (true, ((true, (), ()), l ++ [c], ())) := by
 unfold G_bldByte
 simp only [Option.bind_some, List.length_cons, List.length_nil, Nat.mul_one, Nat.zero_add]
 rw [decide_eq_true h]
 rfl
end Go.Ab

set_option maxRecDepth 100000
namespace Go.Ab
open Go Go.RowKit Go.Proofs
theorem fieldsL_memX : ∀ {l : List Fm}, fieldsL l = true → ∀ f ∈ l, fieldsF f = true
 | [], _, f, h => by cases h
 | g :: r, hl, f, h => by
  simp only [fieldsL, Bool.and_eq_true] at hl
  rcases List.mem_cons.1 h with rfl | h
  ·exact hl.1
  ·exact fieldsL_memX hl.2 f h
theorem fieldsL_of {l : List Fm} (h : ∀ f ∈ l, fieldsF f = true) : fieldsL l = true := by
 induction l with
 | nil => simp [fieldsL]
 | cons f r ih => simp only [fieldsL, Bool.and_eq_true]; exact ⟨h f (by simp), ih fun g hg => h g (List.mem_cons_of_mem _ hg)⟩
theorem fieldsL_take {l : List Fm} (h : fieldsL l = true) (i : Nat) : fieldsL (l.take i) = true := fieldsL_of fun f hf => fieldsL_memX h f (List.mem_of_mem_take hf)
theorem newRep_val : G_newRep ([[92], [92, 92], [34], [92, 34], [10], [92, 110]]) = some ((), ((0, 0, 0, (), (), ()), old6, ())) := by
 unfold G_newRep
 rfl
theorem replF_val {s : List UInt8} (h : s.length ≤ 1000000) : replF (0, 0, 0, (), (), ()) old6 s = some (escS s, ()) := by
 unfold replF
 rw [if_pos ⟨rfl, rfl, rfl, h⟩]
theorem itoaF_val {n : Int} (h1 : -1152921504606846976 ≤ n) (h2 : n ≤ 1152921504606846976) : itoaF n = some (Lib.itoa n) := by
 unfold itoaF
 rw [if_pos ⟨by omega, by omega⟩]
theorem write_up : ∀ k, ∀ (f : Fm) (b : Bool) (l : List Int), fieldsF f = true → f.big ≤ 4611686018427387000 → l.length + 4101 * f.size ≤ 100000000000 → Up (k < f.big) (G_write k f (b, (), ()) l) ((), ((true, (), ()), l ++ intsOf (wr f), ()))
 | 0 => fun f b l hf hb hl => .inr ⟨by unfold G_write; rfl, by have := big_pos f; omega⟩
 | k + 1 => fun f b l hf hb hl => by
  have hlen := wr_len f hf
  have hw := wr_eq f
  have hf' := hf
  rw [fieldsF_eq] at hf'
  simp only [Bool.and_eq_true] at hf'
  obtain ⟨h1, h2⟩ := hf'
  unfold leafS at h1
  unfold G_write
  by_cases c0 : f.k = 0
  ·rw [if_pos c0] at h1 hw
   simp only [Bool.and_eq_true, decide_eq_true_eq] at h1
   rw [decide_eq_true c0, cond_true, itoaF_val h1.2.2.1 h1.2.2.2]
   simp only [Option.bind_some]
   rw [hw] at hlen ⊢
   rw [bldStr_val (by omega)]
   exact .of rfl
  ·rw [if_neg c0] at h1 hw
   rw [decide_eq_false c0, cond_false]
   by_cases c1 : f.k = 1
   ·rw [if_pos c1] at h1 hw
    rw [decide_eq_true c1, cond_true]
    rw [hw] at hlen ⊢
    rw [bldStr_val (by omega)]
    exact .of rfl
   ·rw [if_neg c1] at h1 hw
    rw [decide_eq_false c1, cond_false]
    by_cases c2 : f.k = 2
    ·rw [if_pos c2] at h1 hw
     simp only [Bool.and_eq_true, decide_eq_true_eq] at h1
     rw [decide_eq_true c2, cond_true]
     rw [hw] at hlen ⊢
     simp only [List.length_cons, List.length_append, List.length_nil] at hlen
     rw [bldByte_val (by omega)]
     simp only [Option.bind_some, newRep_val]
     rw [replF_val (by omega)]
     simp only [Option.bind_some]
     rw [bldStr_val (by simp only [List.length_append, List.length_cons, List.length_nil]; omega)]
     simp only [Option.bind_some]
     rw [bldByte_val (by simp only [List.length_append, List.length_cons, List.length_nil, ints_len]; omega)]
     refine .of ?_
     simp only [Option.bind_some]
     have : l ++ [34] ++ intsOf (escS f.t) ++ [34] = l ++ intsOf (34 :: (escS f.t ++ [34])) := by
      have e1 : intsOf (34 :: (escS f.t ++ [34])) = [34] ++ (intsOf (escS f.t) ++ [34]) := by
       rw [show (34 :: (escS f.t ++ [34]) : List UInt8) = [34] ++ (escS f.t ++ [34]) from rfl, ← ints_append, ← ints_append]
       rfl
      rw [e1]
      simp only [List.append_assoc]
     rw [this]
    ·rw [if_neg c2] at h1 hw
     rw [decide_eq_false c2, cond_false]
     have c3 : f.k = 3 := by
      by_cases c3 : f.k = 3
      ·exact c3
      ·rw [if_neg c3] at h1; cases h1
     have hsz : f.size = 1 + Fm.sizeL f.l := by rw [Fm.size_eq, if_pos c3]
     have hbk := big_kids f
     have hll := length_le_big f.l
     rw [hw] at hlen ⊢
     simp only [List.length_cons, List.length_append, List.length_nil] at hlen
     rw [bldByte_val (by omega)]
     simp only [Option.bind_some]
     refine loop_ix (A := Unit × ((Bool × Unit × Unit) × (List Int) × Unit)) (fun i => (((), f.l, (f.l.length : Int), (i : Int), ()), ((true, (), ()), l ++ intsOf (40 :: wrL true (f.l.take i)), ()))) (fun i => ((), ((true, (), ()), l ++ intsOf (40 :: (wrL true f.l ++ [41])), ()))) f.l.length (fun i hi => ?_) ?_
     ·have e1 : decide ((i : Int) < (f.l.length : Int)) = true := by simp [hi]
      have e2 : ixOK (i : Int) f.l.length = true := ixOK_iff.2 (by omega)
      have hg := big_mem (List.getElem_mem hi)
      have hgf := fieldsL_memX h2 _ (List.getElem_mem hi)
      have hs1 := sizeL_take f.l hi
      have hs2 := sizeL_take_le f.l (i + 1)
      have hw1 := wrL_len (f.l.take i) true (fieldsL_take h2 i)
      simp only [e1, e2, cond_true, Int.toNat_natCast, getD_in hi]
      have step : ∀ (l' : List Int), l'.length + 4101 * f.l[i].size ≤ 100000000000 → l' ++ intsOf (wr f.l[i]) = l ++ intsOf (40 :: wrL true (f.l.take (i + 1))) →
        (Option.bind (α := Unit × ((Bool × Unit × Unit) × (List Int) × Unit)) (G_write k (Fm.mk f.l[i].k f.l[i].n f.l[i].t f.l[i].l) (true, (), ()) l') fun r25 =>
         some (Step.next (R := (Unit × Unit) × ((Bool × Unit × Unit) × (List Int) × Unit)) (((), f.l, (f.l.length : Int), IntKind.wrap .i64 ((i : Int) + 1), ()), ((r25.2.1.1, (), ()), r25.2.2.1, ())))) =
         some (.next (((), f.l, (f.l.length : Int), ((i + 1 : Nat) : Int), ()), ((true, (), ()), l ++ intsOf (40 :: wrL true (f.l.take (i + 1))), ()))) ∨
        (Option.bind (α := Unit × ((Bool × Unit × Unit) × (List Int) × Unit)) (G_write k (Fm.mk f.l[i].k f.l[i].n f.l[i].t f.l[i].l) (true, (), ()) l') fun r25 =>
         some (Step.next (R := (Unit × Unit) × ((Bool × Unit × Unit) × (List Int) × Unit)) (((), f.l, (f.l.length : Int), IntKind.wrap .i64 ((i : Int) + 1), ()), ((r25.2.1.1, (), ()), r25.2.2.1, ())))) = none ∧ k + 1 < f.big := by
       intro l' hl' he
       rw [show Fm.mk f.l[i].k f.l[i].n f.l[i].t f.l[i].l = f.l[i] from Fm.eta_eq _, wrapN (show i < 4611686018427387904 by omega)]
       rcases write_up k f.l[i] true l' hgf (by omega) hl' with h | ⟨h, hn⟩
       ·rw [h, he]; exact .inl rfl
       ·rw [h]; exact .inr ⟨rfl, by omega⟩
      have hcl : (l ++ intsOf (40 :: wrL true (f.l.take i))).length = l.length + 1 + (wrL true (f.l.take i)).length := by
       rw [List.length_append, ints_len, List.length_cons]; omega
      have htk := wrL_take f.l hi
      by_cases hi0 : i = 0
      ·subst hi0
       have e3 : decide (((0 : Nat) : Int) > 0) = false := rfl
       rw [e3, cond_false]
       simp only [Option.bind_some]
       rcases step (l ++ intsOf (40 :: wrL true (f.l.take 0))) (by rw [hcl]; omega) (by
        rw [List.append_assoc, ints_append]
        congr 2
        rw [htk]
        simp) with h | h
       ·rw [h]; exact .inl ⟨rfl, trivial⟩
       ·rw [h.1]; exact .inr (.inr ⟨rfl, h.2⟩)
      ·have e3 : decide ((i : Int) > 0) = true := decide_eq_true (by omega)
       rw [e3, cond_true, bldByte_val (by rw [hcl]; omega)]
       simp only [Option.bind_some]
       rcases step (l ++ intsOf (40 :: wrL true (f.l.take i)) ++ [32]) (by rw [List.length_append, hcl]; simp only [List.length_cons, List.length_nil]; omega) (by
        rw [htk, if_neg hi0]
        rw [show (40 :: (wrL true (f.l.take i) ++ ([32] ++ wr f.l[i])) : List UInt8) = (40 :: wrL true (f.l.take i)) ++ ([32] ++ wr f.l[i]) from rfl, ← ints_append, ← ints_append]
        simp only [List.append_assoc]
        rfl) with h | h
       ·rw [h]; exact .inl ⟨rfl, trivial⟩
       ·rw [h.1]; exact .inr (.inr ⟨rfl, h.2⟩)
     ·have e1 : decide ((f.l.length : Int) < (f.l.length : Int)) = false := by simp
      refine ⟨_, by simp only [e1, cond_false]; rfl, ?_⟩
      simp only [List.take_length]
      rw [bldByte_val (by rw [List.length_append, ints_len, List.length_cons]; omega)]
      refine .of ?_
      simp only [Option.bind_some]
      rw [show (40 :: (wrL true f.l ++ [41]) : List UInt8) = (40 :: wrL true f.l) ++ [41] from rfl, ← ints_append, ← List.append_assoc]
      rfl
theorem write_val {f : Fm} {b : Bool} {l : List Int} (hf : fieldsF f = true) (hb : f.big ≤ 4611686018427387000) (hl : l.length + 4101 * f.size ≤ 100000000000) : L_write f (b, (), ()) l = some ((), ((true, (), ()), l ++ intsOf (wr f), ())) := limF_up (b := f.big) fun k => write_up k f b l hf hb hl
end Go.Ab

set_option maxRecDepth 100000
namespace Go.Ab
open Go Go.RowKit Go.Proofs
theorem str_intsX (b : List UInt8) : strOf (intsOf b) = b := by
 unfold strOf intsOf
 rw [List.map_map]
 refine List.map_id'' (fun c => ?_) b
 simp
theorem byteD (c : UInt8) (n : Nat) (h : n < 256) : decide (((c.toNat : Nat) : Int) = ((n : Nat) : Int)) = decide (c = UInt8.ofNat n) := ybyteD c n h
theorem repB_other {c : UInt8} (h1 : c ≠ 10) (h2 : c ≠ 34) (h3 : c ≠ 92) : repB c.toNat = none := by
 have key : ∀ d : UInt8, c ≠ d → Nat.beq c.toNat d.toNat = false := fun d h => by
  cases hb : Nat.beq c.toNat d.toNat with
  | false => rfl
  | true => exact absurd (UInt8.toNat_inj.1 (Nat.eq_of_beq_eq_true hb)) h
 have k1 : Nat.beq c.toNat 10 = false := key 10 h1
 have k2 : Nat.beq c.toNat 34 = false := key 34 h2
 have k3 : Nat.beq c.toNat 92 = false := key 92 h3
 simp [repB, k1, k2, k3]
theorem rtext_up : ∀ k, ∀ (f : Fm), fieldsF f = true → f.big ≤ 4611686018427387000 → 4101 * f.size ≤ 100000000000 → Up (k < f.big) (G_rtext k f) (wr f)
 | 0 => fun f hf hb hl => .inr ⟨by unfold G_rtext; rfl, by have := big_pos f; omega⟩
 | k + 1 => fun f hf hb hl => by
  have hlen := wr_len f hf
  have hw := wr_eq f
  have hf' := hf
  rw [fieldsF_eq] at hf'
  simp only [Bool.and_eq_true] at hf'
  obtain ⟨h1, h2⟩ := hf'
  unfold leafS at h1
  unfold G_rtext
  by_cases c0 : f.k = 0
  ·rw [if_pos c0] at h1 hw
   simp only [Bool.and_eq_true, decide_eq_true_eq] at h1
   rw [decide_eq_true c0, cond_true, itoaF_val h1.2.2.1 h1.2.2.2, hw]
   exact .of rfl
  ·rw [if_neg c0] at h1 hw
   rw [decide_eq_false c0, cond_false]
   by_cases c1 : f.k = 1
   ·rw [if_pos c1] at h1 hw
    rw [decide_eq_true c1, cond_true, hw]
    exact .of rfl
   ·rw [if_neg c1] at h1 hw
    rw [decide_eq_false c1, cond_false]
    by_cases c2 : f.k = 2
    ·rw [if_pos c2] at h1 hw
     simp only [Bool.and_eq_true, decide_eq_true_eq] at h1
     rw [decide_eq_true c2, cond_true]
     have ht := h1.1
     refine Up.bind (v := Step.done (wr f)) ?_ (.of rfl)
     rw [hw]
     generalize f.t = t at ht
     refine loop_ix (A := Step (((Int × Int × (List UInt8) × (List Fm) × Unit) × Unit) × (Unit)) (List UInt8)) (fun i => (((f.k, f.n, t, f.l, ()), (), (i : Int), ()), (intsOf (escS (t.take i)), ()))) (fun i => Step.done (34 :: (escS t ++ [34]))) t.length (fun i hi => ?_) ?_
     ·have e1 : decide ((i : Int) < (t.length : Int)) = true := by simp [hi]
      have e2 : ixOK (i : Int) t.length = true := ixOK_iff.2 (by omega)
      have hle := escS_le (t.take i)
      rw [List.length_take, Nat.min_eq_left (by omega)] at hle
      have hes := escS_take t i t[i] (List.getElem?_eq_getElem hi)
      have d1 : decide ((intsOf (escS (t.take i))).length + 2 ≤ 140737488355328) = true := decide_eq_true (by rw [ints_len]; omega)
      have d2 : decide ((intsOf (escS (t.take i))).length + 1 ≤ 140737488355328) = true := decide_eq_true (by rw [ints_len]; omega)
      have d3 : decide (((t[i].toNat : Nat) : Int) = 10) = decide (t[i] = UInt8.ofNat 10) := byteD t[i] 10 (by omega)
      have d4 : decide (((t[i].toNat : Nat) : Int) = 34) = decide (t[i] = UInt8.ofNat 34) := byteD t[i] 34 (by omega)
      have d5 : decide (((t[i].toNat : Nat) : Int) = 92) = decide (t[i] = UInt8.ofNat 92) := byteD t[i] 92 (by omega)
      refine .inl ⟨?_, rfl⟩
      simp only [e1, e2, cond_true, ybyte hi, List.length_cons, List.length_nil, Nat.zero_add, Nat.mul_one, wrapN (show i < 4611686018427387904 by omega)]
      rw [hes]
      generalize t[i] = c at d3 d4 d5
      generalize escS (t.take i) = p at d1 d2
      rw [d3, d4, d5]
      by_cases x1 : c = 10
      ·subst x1
       simp only [show decide ((10 : UInt8) = UInt8.ofNat 10) = true from rfl, cond_true, Option.bind_some, d1, wrapN (show i < 4611686018427387904 by omega)]
       rw [← ints_append]
       rfl
      ·rw [decide_eq_false (show ¬ c = UInt8.ofNat 10 from x1)]
       by_cases x2 : c = 34
       ·subst x2
        simp only [show decide ((34 : UInt8) = UInt8.ofNat 34) = true from rfl, cond_true, cond_false, Option.bind_some, d1, wrapN (show i < 4611686018427387904 by omega)]
        rw [← ints_append]
        rfl
       ·rw [decide_eq_false (show ¬ c = UInt8.ofNat 34 from x2)]
        by_cases x3 : c = 92
        ·subst x3
         simp only [show decide ((92 : UInt8) = UInt8.ofNat 92) = true from rfl, cond_true, cond_false, Option.bind_some, d1, wrapN (show i < 4611686018427387904 by omega)]
         rw [← ints_append]
         rfl
        ·rw [decide_eq_false (show ¬ c = UInt8.ofNat 92 from x3), repB_other x1 x2 x3]
         simp only [cond_true, cond_false, Option.bind_some, d2, wrapN (show i < 4611686018427387904 by omega)]
         rw [← ints_append]
         rfl
     ·have e1 : decide ((t.length : Int) < (t.length : Int)) = false := by simp
      refine ⟨_, by simp only [e1, cond_false]; rfl, ?_⟩
      have hle := escS_le t
      simp only [List.take_length, str_intsX, List.length_cons, List.length_nil, List.length_append]
      rw [decide_eq_true (by omega), decide_eq_true (by omega)]
      exact .of rfl
    ·rw [if_neg c2] at h1 hw
     rw [decide_eq_false c2, cond_false]
     have c3 : f.k = 3 := by
      by_cases c3 : f.k = 3
      ·exact c3
      ·rw [if_neg c3] at h1; cases h1
     have hsz : f.size = 1 + Fm.sizeL f.l := by rw [Fm.size_eq, if_pos c3]
     have hbk := big_kids f
     have hll := length_le_big f.l
     rw [hw] at hlen ⊢
     simp only [List.length_cons, List.length_append, List.length_nil] at hlen
     refine Up.bind (v := _) (.of rfl) ?_
     simp only
     refine loop_ix (A := List UInt8) (fun i => (((f.k, f.n, f.t, f.l, ()), (), (i : Int), ()), (intsOf (40 :: wrL true (f.l.take i)), ()))) (fun i => 40 :: (wrL true f.l ++ [41])) f.l.length (fun i hi => ?_) ?_
     ·have e1 : decide ((i : Int) < (f.l.length : Int)) = true := by simp [hi]
      have e2 : ixOK (i : Int) f.l.length = true := ixOK_iff.2 (by omega)
      have hg := big_mem (List.getElem_mem hi)
      have hgf := fieldsL_memX h2 _ (List.getElem_mem hi)
      have hs1 := sizeL_take f.l hi
      have hs2 := sizeL_take_le f.l (i + 1)
      have hw1 := wrL_len (f.l.take i) true (fieldsL_take h2 i)
      have hgl := wr_len _ hgf
      have htk := wrL_take f.l hi
      simp only [e1, e2, cond_true, Int.toNat_natCast, getD_in hi, Fm.eta_eq, List.length_cons, List.length_nil, Nat.zero_add, Nat.mul_one]
      rcases rtext_up k f.l[i] hgf (by omega) (by omega) with h | ⟨h, hn⟩
      ·refine .inl ⟨?_, trivial⟩
       by_cases hi0 : i = 0
       ·subst hi0
        have e3 : decide (((0 : Nat) : Int) > 0) = false := rfl
        simp only [e2, e3, cond_false, cond_true, Option.bind_some, Int.toNat_natCast, getD_in hi, Fm.eta_eq, h, List.length_map]
        rw [decide_eq_true (by rw [ints_len, List.length_cons]; omega), wrapN (show 0 < 4611686018427387904 by omega), htk]
        simp only [cond_true, if_true, List.nil_append]
        rw [show (40 :: (wrL true (f.l.take 0) ++ wr f.l[0]) : List UInt8) = (40 :: wrL true (f.l.take 0)) ++ wr f.l[0] from rfl, ← ints_append]
        rfl
       ·have e3 : decide ((i : Int) > 0) = true := decide_eq_true (by omega)
        have e4 : decide ((intsOf (40 :: wrL true (f.l.take i))).length + 1 ≤ 140737488355328) = true := decide_eq_true (by rw [ints_len, List.length_cons]; omega)
        simp only [e2, e3, e4, cond_true, Option.bind_some, Int.toNat_natCast, getD_in hi, Fm.eta_eq, h, List.length_map]
        rw [decide_eq_true (by rw [List.length_append, ints_len, List.length_cons]; simp only [List.length_cons, List.length_nil]; omega), wrapN (show i < 4611686018427387904 by omega), htk, if_neg hi0]
        simp only [cond_true]
        rw [show (40 :: (wrL true (f.l.take i) ++ ([32] ++ wr f.l[i])) : List UInt8) = (40 :: wrL true (f.l.take i)) ++ ([32] ++ wr f.l[i]) from rfl, ← ints_append, ← ints_append, ← List.append_assoc]
        rfl
      ·refine .inr (.inr ⟨?_, by omega⟩)
       by_cases hi0 : i = 0
       ·subst hi0
        have e3 : decide (((0 : Nat) : Int) > 0) = false := rfl
        simp only [e2, e3, cond_false, cond_true, Option.bind_some, Option.bind_none, Int.toNat_natCast, getD_in hi, Fm.eta_eq, h]
       ·have e3 : decide ((i : Int) > 0) = true := decide_eq_true (by omega)
        have e4 : decide ((intsOf (40 :: wrL true (f.l.take i))).length + 1 ≤ 140737488355328) = true := decide_eq_true (by rw [ints_len, List.length_cons]; omega)
        simp only [e2, e3, e4, cond_true, Option.bind_some, Option.bind_none, Int.toNat_natCast, getD_in hi, Fm.eta_eq, h]
     ·have e1 : decide ((f.l.length : Int) < (f.l.length : Int)) = false := by simp
      refine ⟨_, by simp only [e1, cond_false]; rfl, ?_⟩
      simp only [List.take_length, List.length_cons, List.length_nil, Nat.zero_add, Nat.mul_one]
      rw [decide_eq_true (by rw [ints_len, List.length_cons]; omega), cond_true]
      refine .of ?_
      rw [show (intsOf (40 :: wrL true f.l) ++ [41]) = intsOf (40 :: (wrL true f.l ++ [41])) by
       rw [show (40 :: (wrL true f.l ++ [41]) : List UInt8) = (40 :: wrL true f.l) ++ [41] from rfl, ← ints_append]
       rfl, str_intsX]
theorem rtext_val {f : Fm} (hf : fieldsF f = true) (hb : f.big ≤ 4611686018427387000) (hl : 4101 * f.size ≤ 100000000000) : L_rtext f = some (wr f) := limF_up (b := f.big) fun k => rtext_up k f hf hb hl
end Go.Ab

set_option maxRecDepth 100000
namespace Go.Ab
open Go Go.RowKit Go.Proofs
def wrV (f : Fm) : List UInt8 := if validF f = true then wr f else []
theorem validF_iff (f : Fm) : validF f = (fieldsF f && (decide ((f.size : Int) ≤ 20000) && decide ((f.depth : Int) ≤ 100))) := (validS_iff f 20000 100 (by omega) (by omega)).1
theorem validF_of {f : Fm} (h : validF f = true) : fieldsF f = true ∧ f.size ≤ 20000 := by
 rw [validF_iff] at h
 simp only [Bool.and_eq_true, decide_eq_true_eq] at h
 exact ⟨h.1, by omega⟩
theorem wrV_len (f : Fm) : (wrV f).length ≤ 4101 * 20000 := by
 unfold wrV
 split
 ·rename_i h
  obtain ⟨h1, h2⟩ := validF_of h
  have := wr_len f h1
  omega
 ·simp
theorem rWrite_val {f : Fm} (hb : f.big ≤ 4611686018427387000) : G_rWrite f = some (wrV f) := by
 unfold G_rWrite wrV
 simp only [Fm.eta_eq, rvalid_val hb, Option.bind_some]
 by_cases hv : validF f = true
 ·obtain ⟨h1, h2⟩ := validF_of hv
  rw [hv, if_pos rfl]
  simp only [Bool.not_true, cond_false]
  rw [write_val h1 hb (by simp only [List.length_nil]; omega)]
  simp only [Option.bind_some, List.nil_append, bytes_ints, Option.map_some]
 ·rw [if_neg hv, eq_false_of_ne_true hv]
  rfl
theorem refWrite_val {f : Fm} (hb : f.big ≤ 4611686018427387000) : G_refWrite f = some (wrV f) := by
 unfold G_refWrite wrV
 simp only [Fm.eta_eq, refValid_val hb, Option.bind_some]
 by_cases hv : validF f = true
 ·obtain ⟨h1, h2⟩ := validF_of hv
  rw [hv, if_pos rfl]
  simp only [Bool.not_true, cond_false]
  rw [rtext_val h1 hb (by omega)]
  rfl
 ·rw [if_neg hv, eq_false_of_ne_true hv]
  rfl
end Go.Ab

set_option maxRecDepth 100000
namespace Go.Ab
open Go Go.RowKit Go.Proofs
end Go.Ab

set_option maxRecDepth 100000
namespace Go.Ab
open Go Go.RowKit Go.Proofs
end Go.Ab

set_option maxRecDepth 100000
namespace Go.Ab
open Go Go.RowKit Go.Proofs
end Go.Ab

set_option maxRecDepth 100000
namespace Go.Ab
open Go Go.RowKit Go.Proofs
noncomputable def G_refEqAll (x0 : List Fm) (x1 : List Fm) : Option (Bool) := (
 Option.bind (α := Fm) (G_refList x0) fun r1 => (
 Option.bind (α := Fm) (G_refList x1) fun r2 => (
 Option.bind (α := Bool) (G_refEqual (Fm.eta r1) (Fm.eta r2)) fun r3 => (
 some r3))))
def A_refEqAll : An := .leaf
def H_refEqAll : Nat → RH := fun _ => {}
noncomputable def S_refEqAll : Sig := .n [(.d (.slice .form)), (.d (.slice .form))] (.d .bool) (fun x => G_refEqAll x.1 x.2.1)
theorem S_refEqAll_ok : SigOK CX 15 S_refEqAll := sigN_of (l := [(53, S_refList), (25, S_refEqual)]) ⟨S_refList_ok, S_refEqual_ok, trivial⟩ (hint := H_refEqAll) (an := A_refEqAll) (fun x => by kernel_rfl)
noncomputable def G_allA (x0 : List Fm) (x1 : List Fm) : Option (Bool) := (
 Option.bind (α := Bool) (G_refEqAll x0 x1) fun r1 => (
 some (cond r1 (decide ((x0.length : Int) = (x1.length : Int))) false)))
def A_allA : An := .leaf
def H_allA : Nat → RH := fun _ => {}
noncomputable def S_allA : Sig := .n [(.d (.slice .form)), (.d (.slice .form))] (.d .bool) (fun x => G_allA x.1 x.2.1)
theorem S_allA_ok : SigOK CX 24 S_allA := sigN_of (l := [(15, S_refEqAll)]) ⟨S_refEqAll_ok, trivial⟩ (hint := H_allA) (an := A_allA) (fun x => by kernel_rfl)
end Go.Ab

set_option maxRecDepth 100000
namespace Go.Ab
open Go Go.RowKit Go.Proofs
noncomputable def G_rotateF (x1 : Int) (x2 : Int) (x3 : Int) (o0 : List Fm) : Option ((Unit) × ((List Fm) × Unit)) := (
 Option.bind (α := (Unit × Int × Unit × Int × Unit) × ((List Fm) × Unit))
 (loopM (L := (Unit × Int × Unit × Int × Int × Unit) × ((List Fm) × Unit)) (R := (Unit × Int × Unit × Int × Unit) × ((List Fm) × Unit)) (fun d1 => (
 let l2 := d1.2.1
 let v2_3 := d1.1.2.1
 let v10_4 := d1.1.2.2.2.1
 let v11_5 := d1.1.2.2.2.2.1
 cond (!decide (v10_4 = v11_5)) (cond (decide (v10_4 > v11_5)) (Option.bind (α := (Unit) × ((List Fm) × Unit)) (G_swapRange (IntKind.wrap .i64 (v2_3 - v10_4)) v2_3 v11_5 l2) fun r6 => (
 some (Step.next (((), v2_3, (), IntKind.wrap .i64 (v10_4 - v11_5), v11_5, ()), (r6.2.1, ()))))) (Option.bind (α := (Unit) × ((List Fm) × Unit)) (G_swapRange (IntKind.wrap .i64 (v2_3 - v10_4)) (IntKind.wrap .i64 (IntKind.wrap .i64 (v2_3 + v11_5) - v10_4)) v10_4 l2) fun r7 => (
 some (Step.next (((), v2_3, (), v10_4, IntKind.wrap .i64 (v11_5 - v10_4), ()), (r7.2.1, ())))))) (some (Step.done (((), v2_3, (), v10_4, ()), (l2, ())))))) (((), x2, (), IntKind.wrap .i64 (x2 - x1), IntKind.wrap .i64 (x3 - x2), ()), (o0, ()))) fun d8 => (
 let l9 := d8.2.1
 let v2_10 := d8.1.2.1
 let v10_11 := d8.1.2.2.2.1
 Option.bind (α := (Unit) × ((List Fm) × Unit)) (G_swapRange (IntKind.wrap .i64 (v2_10 - v10_11)) v2_10 v10_11 l9) fun r12 => (
 some ((), (r12.2.1, ())))))
def A_rotateF : An := .seq (.leaf) (.seq (.leaf) (.join false { env := [(0, (.gs 0 .form)), (2, (.d (.int .i64))), (4, (.c (.fn (.func 84) [] []))), (10, (.d (.int .i64)))], objs := [(true, .tg .form 26)] } (.block (.loop { env := [(0, (.gs 0 .form)), (2, (.d (.int .i64))), (4, (.c (.fn (.func 84) [] []))), (10, (.d (.int .i64))), (11, (.d (.int .i64)))], objs := [(true, .tg .form 26)] } (.leaf))) (.leaf)))
def H_rotateF : Nat → RH := fun r => match r with
 | 4 => { H := { ac := [31] } }
 | 6 => { H := { ac := [46] } }
 | 8 => { H := { ac := [57] } }
 | _ => {}
noncomputable def S_rotateF : Sig := .o { pre := [(false, .tg .form 26)], args := [(.gs 0 .form), (.d (.int .i64)), (.d (.int .i64)), (.d (.int .i64)), (.c (.fn (.func 84) [] []))], post := [(true, .tg .form 26)], res := (.tup []), f := fun x => G_rotateF x.1.2.1 x.1.2.2.1 x.1.2.2.2.1 x.2.1 }
theorem S_rotateF_ok : SigOK CX 175 S_rotateF := sigO_of (l := [(207, S_swapRange)]) ⟨S_swapRange_ok, trivial⟩ (hint := H_rotateF) (an := A_rotateF) (by kernel_rfl) (fun x => by kernel_rfl)
noncomputable def G_symMerge (k : Nat) (x1 : Int) (x2 : Int) (x3 : Int) (o0 : List Fm) : Option ((Unit) × ((List Fm) × Unit)) := match k with
| 0 => none
| k + 1 => (
 Option.bind (α := Step ((Unit × Int × Int × Int × Unit × Unit) × ((List Fm) × Unit)) ((Unit) × ((List Fm) × Unit)))
 (cond (decide (IntKind.wrap .i64 (x2 - x1) = 1)) (Option.bind (α := (Unit × Int × Int × Unit) × ((List Fm) × Unit))
 (loopM (L := (Unit × Int × Unit × Int × Int × Unit) × ((List Fm) × Unit)) (R := (Unit × Int × Int × Unit) × ((List Fm) × Unit)) (fun d1 => (
 let l2 := d1.2.1
 let v1_3 := d1.1.2.1
 let v10_4 := d1.1.2.2.2.1
 let v11_5 := d1.1.2.2.2.2.1
 cond (decide (v10_4 < v11_5)) (cond (ixOK (IntKind.wrap .i64 ((IntKind.wrap .u64 (IntKind.wrap .i64 (v10_4 + v11_5))) / 2 ^ (1 : Int).toNat)) l2.length) (cond (decide ((IntKind.wrap .i64 ((IntKind.wrap .u64 (IntKind.wrap .i64 (v10_4 + v11_5))) / 2 ^ (1 : Int).toNat)).toNat < l2.length)) (cond (ixOK v1_3 l2.length) (cond (decide (v1_3.toNat < l2.length)) (Option.bind (α := Int) (L_compare (Fm.eta (l2.getD ((IntKind.wrap .i64 ((IntKind.wrap .u64 (IntKind.wrap .i64 (v10_4 + v11_5))) / 2 ^ (1 : Int).toNat)).toNat) (Fm.mk 0 0 [] []))) (Fm.eta (l2.getD v1_3.toNat (Fm.mk 0 0 [] [])))) fun r6 => (
 cond (decide (r6 < 0)) (some (Step.next (((), v1_3, (), IntKind.wrap .i64 (IntKind.wrap .i64 ((IntKind.wrap .u64 (IntKind.wrap .i64 (v10_4 + v11_5))) / 2 ^ (1 : Int).toNat) + 1), v11_5, ()), (l2, ())))) (some (Step.next (((), v1_3, (), v10_4, IntKind.wrap .i64 ((IntKind.wrap .u64 (IntKind.wrap .i64 (v10_4 + v11_5))) / 2 ^ (1 : Int).toNat), ()), (l2, ())))))) none) none) none) none) (some (Step.done (((), v1_3, v10_4, ()), (l2, ())))))) (((), x1, (), x2, x3, ()), (o0, ()))) fun d7 => (
 let l8 := d7.2.1
 let v1_9 := d7.1.2.1
 let v10_10 := d7.1.2.2.1
 Option.bind (α := (Unit) × ((List Fm) × Unit))
 (loopM (L := (Unit × Int × Int × Unit) × ((List Fm) × Unit)) (R := (Unit) × ((List Fm) × Unit)) (fun d11 => (
 let l12 := d11.2.1
 let v10_13 := d11.1.2.1
 let v13_14 := d11.1.2.2.1
 cond (decide (v13_14 < IntKind.wrap .i64 (v10_13 - 1))) (cond (ixOK (IntKind.wrap .i64 (v13_14 + 1)) l12.length) (cond (decide ((IntKind.wrap .i64 (v13_14 + 1)).toNat < l12.length)) (cond (ixOK v13_14 l12.length) (cond (decide (v13_14.toNat < l12.length)) (cond (ixOK v13_14 l12.length) (cond (decide (v13_14.toNat < l12.length)) (cond (ixOK (IntKind.wrap .i64 (v13_14 + 1)) l12.length) (cond (decide ((IntKind.wrap .i64 (v13_14 + 1)).toNat < (l12.set v13_14.toNat (Fm.eta (l12.getD ((IntKind.wrap .i64 (v13_14 + 1)).toNat) (Fm.mk 0 0 [] [])))).length)) (some (Step.next (((), v10_13, IntKind.wrap .i64 (v13_14 + 1), ()), ((l12.set v13_14.toNat (Fm.eta (l12.getD ((IntKind.wrap .i64 (v13_14 + 1)).toNat) (Fm.mk 0 0 [] [])))).set ((IntKind.wrap .i64 (v13_14 + 1)).toNat) (Fm.eta (l12.getD v13_14.toNat (Fm.mk 0 0 [] []))), ())))) none) none) none) none) none) none) none) none) (some (Step.done ((), (l12, ())))))) (((), v10_10, v1_9, ()), (l8, ()))) fun d15 => (
 let l16 := d15.2.1
 some (Step.done ((), (l16, ())))))) (some (Step.next (((), x1, x2, x3, (), ()), (o0, ()))))) fun qd17 => match qd17 with
 | .next d17 => (
 let l18 := d17.2.1
 let v1_19 := d17.1.2.1
 let v2_20 := d17.1.2.2.1
 let v3_21 := d17.1.2.2.2.1
 Option.bind (α := Step ((Unit × Int × Int × Int × Unit × Unit) × ((List Fm) × Unit)) ((Unit) × ((List Fm) × Unit)))
 (cond (decide (IntKind.wrap .i64 (v3_21 - v2_20) = 1)) (Option.bind (α := (Unit × Int × Int × Unit) × ((List Fm) × Unit))
 (loopM (L := (Unit × Int × Unit × Int × Int × Unit) × ((List Fm) × Unit)) (R := (Unit × Int × Int × Unit) × ((List Fm) × Unit)) (fun d22 => (
 let l23 := d22.2.1
 let v2_24 := d22.1.2.1
 let v14_25 := d22.1.2.2.2.1
 let v15_26 := d22.1.2.2.2.2.1
 cond (decide (v14_25 < v15_26)) (cond (ixOK v2_24 l23.length) (cond (decide (v2_24.toNat < l23.length)) (cond (ixOK (IntKind.wrap .i64 ((IntKind.wrap .u64 (IntKind.wrap .i64 (v14_25 + v15_26))) / 2 ^ (1 : Int).toNat)) l23.length) (cond (decide ((IntKind.wrap .i64 ((IntKind.wrap .u64 (IntKind.wrap .i64 (v14_25 + v15_26))) / 2 ^ (1 : Int).toNat)).toNat < l23.length)) (Option.bind (α := Int) (L_compare (Fm.eta (l23.getD v2_24.toNat (Fm.mk 0 0 [] []))) (Fm.eta (l23.getD ((IntKind.wrap .i64 ((IntKind.wrap .u64 (IntKind.wrap .i64 (v14_25 + v15_26))) / 2 ^ (1 : Int).toNat)).toNat) (Fm.mk 0 0 [] [])))) fun r27 => (
 cond (!(decide (r27 < 0))) (some (Step.next (((), v2_24, (), IntKind.wrap .i64 (IntKind.wrap .i64 ((IntKind.wrap .u64 (IntKind.wrap .i64 (v14_25 + v15_26))) / 2 ^ (1 : Int).toNat) + 1), v15_26, ()), (l23, ())))) (some (Step.next (((), v2_24, (), v14_25, IntKind.wrap .i64 ((IntKind.wrap .u64 (IntKind.wrap .i64 (v14_25 + v15_26))) / 2 ^ (1 : Int).toNat), ()), (l23, ())))))) none) none) none) none) (some (Step.done (((), v2_24, v14_25, ()), (l23, ())))))) (((), v2_20, (), v1_19, v2_20, ()), (l18, ()))) fun d28 => (
 let l29 := d28.2.1
 let v2_30 := d28.1.2.1
 let v14_31 := d28.1.2.2.1
 Option.bind (α := (Unit) × ((List Fm) × Unit))
 (loopM (L := (Unit × Int × Int × Unit) × ((List Fm) × Unit)) (R := (Unit) × ((List Fm) × Unit)) (fun d32 => (
 let l33 := d32.2.1
 let v14_34 := d32.1.2.1
 let v17_35 := d32.1.2.2.1
 cond (decide (v17_35 > v14_34)) (cond (ixOK (IntKind.wrap .i64 (v17_35 - 1)) l33.length) (cond (decide ((IntKind.wrap .i64 (v17_35 - 1)).toNat < l33.length)) (cond (ixOK v17_35 l33.length) (cond (decide (v17_35.toNat < l33.length)) (cond (ixOK v17_35 l33.length) (cond (decide (v17_35.toNat < l33.length)) (cond (ixOK (IntKind.wrap .i64 (v17_35 - 1)) l33.length) (cond (decide ((IntKind.wrap .i64 (v17_35 - 1)).toNat < (l33.set v17_35.toNat (Fm.eta (l33.getD ((IntKind.wrap .i64 (v17_35 - 1)).toNat) (Fm.mk 0 0 [] [])))).length)) (some (Step.next (((), v14_34, IntKind.wrap .i64 (v17_35 - 1), ()), ((l33.set v17_35.toNat (Fm.eta (l33.getD ((IntKind.wrap .i64 (v17_35 - 1)).toNat) (Fm.mk 0 0 [] [])))).set ((IntKind.wrap .i64 (v17_35 - 1)).toNat) (Fm.eta (l33.getD v17_35.toNat (Fm.mk 0 0 [] []))), ())))) none) none) none) none) none) none) none) none) (some (Step.done ((), (l33, ())))))) (((), v14_31, v2_30, ()), (l29, ()))) fun d36 => (
 let l37 := d36.2.1
 some (Step.done ((), (l37, ())))))) (some (Step.next (((), v1_19, v2_20, v3_21, (), ()), (l18, ()))))) fun qd38 => match qd38 with
 | .next d38 => (
 let l39 := d38.2.1
 let v1_40 := d38.1.2.1
 let v2_41 := d38.1.2.2.1
 let v3_42 := d38.1.2.2.2.1
 Option.bind (α := (Unit × Int × Int × Int × Unit × Int × Int × Int × Int × Unit) × ((List Fm) × Unit))
 (cond (decide (v2_41 > IntKind.wrap .i64 ((IntKind.wrap .u64 (IntKind.wrap .i64 (v1_40 + v3_42))) / 2 ^ (1 : Int).toNat))) (some (((), v1_40, v2_41, v3_42, (), IntKind.wrap .i64 ((IntKind.wrap .u64 (IntKind.wrap .i64 (v1_40 + v3_42))) / 2 ^ (1 : Int).toNat), IntKind.wrap .i64 (IntKind.wrap .i64 ((IntKind.wrap .u64 (IntKind.wrap .i64 (v1_40 + v3_42))) / 2 ^ (1 : Int).toNat) + v2_41), IntKind.wrap .i64 (IntKind.wrap .i64 (IntKind.wrap .i64 ((IntKind.wrap .u64 (IntKind.wrap .i64 (v1_40 + v3_42))) / 2 ^ (1 : Int).toNat) + v2_41) - v3_42), IntKind.wrap .i64 ((IntKind.wrap .u64 (IntKind.wrap .i64 (v1_40 + v3_42))) / 2 ^ (1 : Int).toNat), ()), (l39, ()))) (some (((), v1_40, v2_41, v3_42, (), IntKind.wrap .i64 ((IntKind.wrap .u64 (IntKind.wrap .i64 (v1_40 + v3_42))) / 2 ^ (1 : Int).toNat), IntKind.wrap .i64 (IntKind.wrap .i64 ((IntKind.wrap .u64 (IntKind.wrap .i64 (v1_40 + v3_42))) / 2 ^ (1 : Int).toNat) + v2_41), v1_40, v2_41, ()), (l39, ())))) fun d43 => (
 let l44 := d43.2.1
 let v1_45 := d43.1.2.1
 let v2_46 := d43.1.2.2.1
 let v3_47 := d43.1.2.2.2.1
 let v18_48 := d43.1.2.2.2.2.2.1
 let v19_49 := d43.1.2.2.2.2.2.2.1
 let v20_50 := d43.1.2.2.2.2.2.2.2.1
 let v21_51 := d43.1.2.2.2.2.2.2.2.2.1
 Option.bind (α := (Unit × Int × Int × Int × Unit × Int × Int × Int × Unit) × ((List Fm) × Unit))
 (loopM (L := (Unit × Int × Int × Int × Unit × Int × Int × Int × Int × Int × Unit) × ((List Fm) × Unit)) (R := (Unit × Int × Int × Int × Unit × Int × Int × Int × Unit) × ((List Fm) × Unit)) (fun d52 => (
 let l53 := d52.2.1
 let v1_54 := d52.1.2.1
 let v2_55 := d52.1.2.2.1
 let v3_56 := d52.1.2.2.2.1
 let v18_57 := d52.1.2.2.2.2.2.1
 let v19_58 := d52.1.2.2.2.2.2.2.1
 let v20_59 := d52.1.2.2.2.2.2.2.2.1
 let v21_60 := d52.1.2.2.2.2.2.2.2.2.1
 let v22_61 := d52.1.2.2.2.2.2.2.2.2.2.1
 cond (decide (v20_59 < v21_60)) (cond (ixOK (IntKind.wrap .i64 (v22_61 - IntKind.wrap .i64 ((IntKind.wrap .u64 (IntKind.wrap .i64 (v20_59 + v21_60))) / 2 ^ (1 : Int).toNat))) l53.length) (cond (decide ((IntKind.wrap .i64 (v22_61 - IntKind.wrap .i64 ((IntKind.wrap .u64 (IntKind.wrap .i64 (v20_59 + v21_60))) / 2 ^ (1 : Int).toNat))).toNat < l53.length)) (cond (ixOK (IntKind.wrap .i64 ((IntKind.wrap .u64 (IntKind.wrap .i64 (v20_59 + v21_60))) / 2 ^ (1 : Int).toNat)) l53.length) (cond (decide ((IntKind.wrap .i64 ((IntKind.wrap .u64 (IntKind.wrap .i64 (v20_59 + v21_60))) / 2 ^ (1 : Int).toNat)).toNat < l53.length)) (Option.bind (α := Int) (L_compare (Fm.eta (l53.getD ((IntKind.wrap .i64 (v22_61 - IntKind.wrap .i64 ((IntKind.wrap .u64 (IntKind.wrap .i64 (v20_59 + v21_60))) / 2 ^ (1 : Int).toNat))).toNat) (Fm.mk 0 0 [] []))) (Fm.eta (l53.getD ((IntKind.wrap .i64 ((IntKind.wrap .u64 (IntKind.wrap .i64 (v20_59 + v21_60))) / 2 ^ (1 : Int).toNat)).toNat) (Fm.mk 0 0 [] [])))) fun r62 => (
 cond (!(decide (r62 < 0))) (some (Step.next (((), v1_54, v2_55, v3_56, (), v18_57, v19_58, IntKind.wrap .i64 (IntKind.wrap .i64 ((IntKind.wrap .u64 (IntKind.wrap .i64 (v20_59 + v21_60))) / 2 ^ (1 : Int).toNat) + 1), v21_60, v22_61, ()), (l53, ())))) (some (Step.next (((), v1_54, v2_55, v3_56, (), v18_57, v19_58, v20_59, IntKind.wrap .i64 ((IntKind.wrap .u64 (IntKind.wrap .i64 (v20_59 + v21_60))) / 2 ^ (1 : Int).toNat), v22_61, ()), (l53, ())))))) none) none) none) none) (some (Step.done (((), v1_54, v2_55, v3_56, (), v18_57, v19_58, v20_59, ()), (l53, ())))))) (((), v1_45, v2_46, v3_47, (), v18_48, v19_49, v20_50, v21_51, IntKind.wrap .i64 (v19_49 - 1), ()), (l44, ()))) fun d63 => (
 let l64 := d63.2.1
 let v1_65 := d63.1.2.1
 let v2_66 := d63.1.2.2.1
 let v3_67 := d63.1.2.2.2.1
 let v18_68 := d63.1.2.2.2.2.2.1
 let v19_69 := d63.1.2.2.2.2.2.2.1
 let v20_70 := d63.1.2.2.2.2.2.2.2.1
 Option.bind (α := (Unit × Int × Int × Unit × Int × Int × Int × Unit) × ((List Fm) × Unit))
 (cond (cond (decide (v20_70 < v2_66)) (decide (v2_66 < IntKind.wrap .i64 (v19_69 - v20_70))) false) (Option.bind (α := (Unit) × ((List Fm) × Unit)) (G_rotateF v20_70 v2_66 (IntKind.wrap .i64 (v19_69 - v20_70)) l64) fun r71 => (
 some (((), v1_65, v3_67, (), v18_68, v20_70, IntKind.wrap .i64 (v19_69 - v20_70), ()), (r71.2.1, ())))) (some (((), v1_65, v3_67, (), v18_68, v20_70, IntKind.wrap .i64 (v19_69 - v20_70), ()), (l64, ())))) fun d72 => (
 let l73 := d72.2.1
 let v1_74 := d72.1.2.1
 let v3_75 := d72.1.2.2.1
 let v18_76 := d72.1.2.2.2.2.1
 let v20_77 := d72.1.2.2.2.2.2.1
 let v24_78 := d72.1.2.2.2.2.2.2.1
 Option.bind (α := (Unit × Int × Unit × Int × Int × Unit) × ((List Fm) × Unit))
 (cond (cond (decide (v1_74 < v20_77)) (decide (v20_77 < v18_76)) false) (Option.bind (α := (Unit) × ((List Fm) × Unit)) (G_symMerge k v1_74 v20_77 v18_76 l73) fun r79 => (
 some (((), v3_75, (), v18_76, v24_78, ()), (r79.2.1, ())))) (some (((), v3_75, (), v18_76, v24_78, ()), (l73, ())))) fun d80 => (
 let l81 := d80.2.1
 let v3_82 := d80.1.2.1
 let v18_83 := d80.1.2.2.2.1
 let v24_84 := d80.1.2.2.2.2.1
 cond (cond (decide (v18_83 < v24_84)) (decide (v24_84 < v3_82)) false) (Option.bind (α := (Unit) × ((List Fm) × Unit)) (G_symMerge k v18_83 v24_84 v3_82 l81) fun r85 => (
 some ((), (r85.2.1, ())))) (some ((), (l81, ()))))))))
 | .done r => some r)
 | .done r => some r)
def A_symMerge : An := .join true { env := [(0, (.gs 0 .form)), (1, (.d (.int .i64))), (2, (.d (.int .i64))), (3, (.d (.int .i64))), (4, (.c (.fn (.func 84) [] [])))], objs := [(true, .tg .form 26)] } (.seq (.leaf) (.cond (.seq (.leaf) (.seq (.leaf) (.join false { env := [(0, (.gs 0 .form)), (1, (.d (.int .i64))), (10, (.d (.int .i64)))], objs := [(true, .tg .form 26)] } (.block (.loop { env := [(0, (.gs 0 .form)), (1, (.d (.int .i64))), (4, (.c (.fn (.func 84) [] []))), (10, (.d (.int .i64))), (11, (.d (.int .i64)))], objs := [(true, .tg .form 26)] } (.leaf))) (.join false { env := [], objs := [(true, .tg .form 26)] } (.seq (.leaf) (.block (.loop { env := [(0, (.gs 0 .form)), (10, (.d (.int .i64))), (13, (.d (.int .i64)))], objs := [(true, .tg .form 26)] } (.leaf)))) (.leaf))))) (.leaf))) (.join true { env := [(0, (.gs 0 .form)), (1, (.d (.int .i64))), (2, (.d (.int .i64))), (3, (.d (.int .i64))), (4, (.c (.fn (.func 84) [] [])))], objs := [(true, .tg .form 26)] } (.seq (.leaf) (.cond (.seq (.leaf) (.seq (.leaf) (.join false { env := [(0, (.gs 0 .form)), (2, (.d (.int .i64))), (14, (.d (.int .i64)))], objs := [(true, .tg .form 26)] } (.block (.loop { env := [(0, (.gs 0 .form)), (2, (.d (.int .i64))), (4, (.c (.fn (.func 84) [] []))), (14, (.d (.int .i64))), (15, (.d (.int .i64)))], objs := [(true, .tg .form 26)] } (.leaf))) (.join false { env := [], objs := [(true, .tg .form 26)] } (.seq (.leaf) (.block (.loop { env := [(0, (.gs 0 .form)), (14, (.d (.int .i64))), (17, (.d (.int .i64)))], objs := [(true, .tg .form 26)] } (.leaf)))) (.leaf))))) (.leaf))) (.seq (.leaf) (.seq (.leaf) (.seq (.leaf) (.join false { env := [(0, (.gs 0 .form)), (1, (.d (.int .i64))), (2, (.d (.int .i64))), (3, (.d (.int .i64))), (4, (.c (.fn (.func 84) [] []))), (18, (.d (.int .i64))), (19, (.d (.int .i64))), (20, (.d (.int .i64))), (21, (.d (.int .i64)))], objs := [(true, .tg .form 26)] } (.leaf) (.seq (.leaf) (.join false { env := [(0, (.gs 0 .form)), (1, (.d (.int .i64))), (2, (.d (.int .i64))), (3, (.d (.int .i64))), (4, (.c (.fn (.func 84) [] []))), (18, (.d (.int .i64))), (19, (.d (.int .i64))), (20, (.d (.int .i64)))], objs := [(true, .tg .form 26)] } (.block (.loop { env := [(0, (.gs 0 .form)), (1, (.d (.int .i64))), (2, (.d (.int .i64))), (3, (.d (.int .i64))), (4, (.c (.fn (.func 84) [] []))), (18, (.d (.int .i64))), (19, (.d (.int .i64))), (20, (.d (.int .i64))), (21, (.d (.int .i64))), (22, (.d (.int .i64)))], objs := [(true, .tg .form 26)] } (.leaf))) (.seq (.leaf) (.join false { env := [(0, (.gs 0 .form)), (1, (.d (.int .i64))), (3, (.d (.int .i64))), (4, (.c (.fn (.func 84) [] []))), (18, (.d (.int .i64))), (20, (.d (.int .i64))), (24, (.d (.int .i64)))], objs := [(true, .tg .form 26)] } (.leaf) (.join false { env := [(0, (.gs 0 .form)), (3, (.d (.int .i64))), (4, (.c (.fn (.func 84) [] []))), (18, (.d (.int .i64))), (24, (.d (.int .i64)))], objs := [(true, .tg .form 26)] } (.leaf) (.leaf)))))))))))
def H_symMerge : Nat → RH := fun r => match r with
 | 40 => { H := { ac := [191] } }
 | 42 => { H := { ac := [205] } }
 | 44 => { H := { ac := [219] } }
 | _ => {}
noncomputable def S_symMerge (k : Nat) : Sig := .o { pre := [(false, .tg .form 26)], args := [(.gs 0 .form), (.d (.int .i64)), (.d (.int .i64)), (.d (.int .i64)), (.c (.fn (.func 84) [] []))], post := [(true, .tg .form 26)], res := (.tup []), f := fun x => G_symMerge k x.1.2.1 x.1.2.2.1 x.1.2.2.2.1 x.2.1 }
theorem S_symMerge_ok : ∀ k, SigOK CX 158 (S_symMerge k)
| 0 => ⟨by kernel_rfl, fun x r h => by cases h⟩
| k + 1 => by
 have ih := S_symMerge_ok k
 exact sigO_of (l := [(84, S_compare_l), (175, S_rotateF), (158, (S_symMerge k))]) ⟨S_compare_l_ok, S_rotateF_ok, ih, trivial⟩ (hint := H_symMerge) (an := A_symMerge) (by kernel_rfl) (fun x => by kernel_rfl)
noncomputable def L_symMerge (x1 : Int) (x2 : Int) (x3 : Int) (o0 : List Fm) : Option ((Unit) × ((List Fm) × Unit)) := limF fun k => G_symMerge k x1 x2 x3 o0
noncomputable def S_symMerge_l : Sig := .o { pre := [(false, .tg .form 26)], args := [(.gs 0 .form), (.d (.int .i64)), (.d (.int .i64)), (.d (.int .i64)), (.c (.fn (.func 84) [] []))], post := [(true, .tg .form 26)], res := (.tup []), f := fun x => L_symMerge x.1.2.1 x.1.2.2.1 x.1.2.2.2.1 x.2.1 }
theorem S_symMerge_l_ok : SigOK CX 158 S_symMerge_l := SigOK.limO S_symMerge_ok fun x r h => limF_ex h
noncomputable def G_stableF (x1 : Int) (o0 : List Fm) : Option ((Unit) × ((List Fm) × Unit)) := (
 Option.bind (α := (Unit × Int × Unit × Int × Int × Unit) × ((List Fm) × Unit))
 (loopM (L := (Unit × Int × Unit × Int × Int × Int × Unit) × ((List Fm) × Unit)) (R := (Unit × Int × Unit × Int × Int × Unit) × ((List Fm) × Unit)) (fun d1 => (
 let l2 := d1.2.1
 let v1_3 := d1.1.2.1
 let v6_4 := d1.1.2.2.2.1
 let v7_5 := d1.1.2.2.2.2.1
 let v8_6 := d1.1.2.2.2.2.2.1
 cond (decide (v8_6 ≤ v1_3)) (Option.bind (α := (Unit) × ((List Fm) × Unit)) (G_insSort v7_5 v8_6 l2) fun r7 => (
 some (Step.next (((), v1_3, (), v6_4, v8_6, IntKind.wrap .i64 (v8_6 + v6_4), ()), (r7.2.1, ()))))) (some (Step.done (((), v1_3, (), v6_4, v7_5, ()), (l2, ())))))) (((), x1, (), 20, 0, 20, ()), (o0, ()))) fun d8 => (
 let l9 := d8.2.1
 let v1_10 := d8.1.2.1
 let v6_11 := d8.1.2.2.2.1
 let v7_12 := d8.1.2.2.2.2.1
 Option.bind (α := (Unit) × ((List Fm) × Unit)) (G_insSort v7_12 v1_10 l9) fun r13 => (
 loopM (L := (Unit × Int × Unit × Int × Unit) × ((List Fm) × Unit)) (R := (Unit) × ((List Fm) × Unit)) (fun d14 => (
 let l15 := d14.2.1
 let v1_16 := d14.1.2.1
 let v6_17 := d14.1.2.2.2.1
 cond (decide (v6_17 < v1_16)) (Option.bind (α := (Unit × Int × Unit × Int × Int × Unit) × ((List Fm) × Unit))
 (loopM (L := (Unit × Int × Unit × Int × Int × Int × Unit) × ((List Fm) × Unit)) (R := (Unit × Int × Unit × Int × Int × Unit) × ((List Fm) × Unit)) (fun d18 => (
 let l19 := d18.2.1
 let v1_20 := d18.1.2.1
 let v6_21 := d18.1.2.2.2.1
 let v7_22 := d18.1.2.2.2.2.1
 let v8_23 := d18.1.2.2.2.2.2.1
 cond (decide (v8_23 ≤ v1_20)) (Option.bind (α := (Unit) × ((List Fm) × Unit)) (L_symMerge v7_22 (IntKind.wrap .i64 (v7_22 + v6_21)) v8_23 l19) fun r24 => (
 some (Step.next (((), v1_20, (), v6_21, v8_23, IntKind.wrap .i64 (v8_23 + IntKind.wrap .i64 (2 * v6_21)), ()), (r24.2.1, ()))))) (some (Step.done (((), v1_20, (), v6_21, v7_22, ()), (l19, ())))))) (((), v1_16, (), v6_17, 0, IntKind.wrap .i64 (2 * v6_17), ()), (l15, ()))) fun d25 => (
 let l26 := d25.2.1
 let v1_27 := d25.1.2.1
 let v6_28 := d25.1.2.2.2.1
 let v7_29 := d25.1.2.2.2.2.1
 Option.bind (α := (Unit × Int × Unit × Int × Unit) × ((List Fm) × Unit))
 (cond (decide (IntKind.wrap .i64 (v7_29 + v6_28) < v1_27)) (Option.bind (α := (Unit) × ((List Fm) × Unit)) (L_symMerge v7_29 (IntKind.wrap .i64 (v7_29 + v6_28)) v1_27 l26) fun r30 => (
 some (((), v1_27, (), v6_28, ()), (r30.2.1, ())))) (some (((), v1_27, (), v6_28, ()), (l26, ())))) fun d31 => (
 let l32 := d31.2.1
 let v1_33 := d31.1.2.1
 let v6_34 := d31.1.2.2.2.1
 some (Step.next (((), v1_33, (), IntKind.wrap .i64 (v6_34 * 2), ()), (l32, ())))))) (some (Step.done ((), (l15, ())))))) (((), v1_10, (), v6_11, ()), (r13.2.1, ())))))
def A_stableF : An := .seq (.leaf) (.seq (.leaf) (.join false { env := [(0, (.gs 0 .form)), (1, (.d (.int .i64))), (2, (.c (.fn (.func 84) [] []))), (6, (.d (.int .i64))), (7, (.d (.int .i64)))], objs := [(true, .tg .form 26)] } (.block (.loop { env := [(0, (.gs 0 .form)), (1, (.d (.int .i64))), (2, (.c (.fn (.func 84) [] []))), (6, (.d (.int .i64))), (7, (.d (.int .i64))), (8, (.d (.int .i64)))], objs := [(true, .tg .form 26)] } (.leaf))) (.seq (.leaf) (.block (.loop { env := [(0, (.gs 0 .form)), (1, (.d (.int .i64))), (2, (.c (.fn (.func 84) [] []))), (6, (.d (.int .i64)))], objs := [(true, .tg .form 26)] } (.seq (.leaf) (.block (.seq (.leaf) (.join false { env := [(0, (.gs 0 .form)), (1, (.d (.int .i64))), (2, (.c (.fn (.func 84) [] []))), (6, (.d (.int .i64))), (7, (.d (.int .i64)))], objs := [(true, .tg .form 26)] } (.block (.loop { env := [(0, (.gs 0 .form)), (1, (.d (.int .i64))), (2, (.c (.fn (.func 84) [] []))), (6, (.d (.int .i64))), (7, (.d (.int .i64))), (8, (.d (.int .i64)))], objs := [(true, .tg .form 26)] } (.leaf))) (.join false { env := [(0, (.gs 0 .form)), (1, (.d (.int .i64))), (2, (.c (.fn (.func 84) [] []))), (6, (.d (.int .i64)))], objs := [(true, .tg .form 26)] } (.leaf) (.leaf)))))))))))
def H_stableF : Nat → RH := fun r => match r with
 | 3 => { H := { ac := [18] } }
 | 6 => { H := { ac := [27] } }
 | 10 => { H := { ac := [43] } }
 | 15 => { H := { ac := [60] } }
 | _ => {}
noncomputable def S_stableF : Sig := .o { pre := [(false, .tg .form 26)], args := [(.gs 0 .form), (.d (.int .i64)), (.c (.fn (.func 84) [] []))], post := [(true, .tg .form 26)], res := (.tup []), f := fun x => G_stableF x.1.2.1 x.2.1 }
theorem S_stableF_ok : SigOK CX 127 S_stableF := sigO_of (l := [(157, S_insSort), (158, S_symMerge_l)]) ⟨S_insSort_ok, S_symMerge_l_ok, trivial⟩ (hint := H_stableF) (an := A_stableF) (by kernel_rfl) (fun x => by kernel_rfl)
noncomputable def G_sortStable (o0 : List Fm) : Option ((Unit) × ((List Fm) × Unit)) := (
 Option.bind (α := (Unit) × ((List Fm) × Unit)) (G_stableF (o0.length : Int) o0) fun r1 => (
 some ((), (r1.2.1, ()))))
def A_sortStable : An := .leaf
def H_sortStable : Nat → RH := fun r => match r with
 | 0 => { H := { ac := [8] } }
 | _ => {}
noncomputable def S_sortStable : Sig := .o { pre := [(false, .tg .form 26)], args := [(.gs 0 .form), (.c (.fn (.func 84) [] []))], post := [(true, .tg .form 26)], res := (.tup []), f := fun x => G_sortStable x.2.1 }
theorem S_sortStable_ok : SigOK CX 83 S_sortStable := sigO_of (l := [(127, S_stableF)]) ⟨S_stableF_ok, trivial⟩ (hint := H_sortStable) (an := A_sortStable) (by kernel_rfl) (fun x => by kernel_rfl)
noncomputable def G_rSort (x0 : List Fm) : Option (List Fm) := (
 Option.bind (α := (Unit) × ((List Fm) × Unit)) (cloneF 56 x0) fun r1 => (
 Option.bind (α := (Unit) × ((List Fm) × Unit)) (G_sortStable r1.2.1) fun r2 => (
 Option.bind (α := (Unit) × ((List Fm) × Unit)) (G_compact r2.2.1) fun r3 => (
 some r3.2.1))))
def A_rSort : An := .leaf
def H_rSort : Nat → RH := fun r => match r with
 | 1 => { H := { ac := [5] } }
 | 2 => { H := { ac := [7] } }
 | 3 => { H := { ac := [9] } }
 | _ => {}
noncomputable def S_rSort : Sig := .n [(.d (.slice .form))] (.d (.slice .form)) (fun x => G_rSort x.1)
theorem S_rSort_ok : SigOK CX 45 S_rSort := sigN_of (l := [(82, S_clone), (83, S_sortStable), (85, S_compact)]) ⟨S_clone_ok, S_sortStable_ok, S_compact_ok, trivial⟩ (hint := H_rSort) (an := A_rSort) (fun x => by kernel_rfl)
noncomputable def G_refSort (x0 : List Fm) : Option (List Fm) := (
 Option.bind (α := (Unit × Unit) × ((List Fm) × Unit))
 (loopM (L := ((List Fm) × Unit × Int × Unit) × ((List Fm) × Unit)) (R := (Unit × Unit) × ((List Fm) × Unit)) (fun d1 => (
 let l2 := d1.2.1
 let v0_3 := d1.1.1
 let v4_4 := d1.1.2.2.1
 cond (decide (v4_4 < (v0_3.length : Int))) (Option.bind (α := ((List Fm) × Unit × Int × Unit) × ((List Fm) × Unit))
 (Option.bind (α := ((List Fm) × Unit × Int × Int × Unit) × ((List Fm) × Unit))
 (loopM (L := ((List Fm) × Unit × Int × Int × Unit) × ((List Fm) × Unit)) (R := ((List Fm) × Unit × Int × Int × Unit) × ((List Fm) × Unit)) (fun d5 => (
 let l6 := d5.2.1
 let v0_7 := d5.1.1
 let v4_8 := d5.1.2.2.1
 let v5_9 := d5.1.2.2.2.1
 cond ((ixOK v5_9 l6.length) || !(decide (v5_9 < (l6.length : Int)))) (cond ((decide (v5_9.toNat < l6.length)) || !(decide (v5_9 < (l6.length : Int)))) (cond ((ixOK v4_8 v0_7.length) || !(decide (v5_9 < (l6.length : Int)))) (Option.bind (α := Int) (cond (decide (v5_9 < (l6.length : Int))) (L_refCompare (Fm.eta (l6.getD v5_9.toNat (Fm.mk 0 0 [] []))) (Fm.eta (v0_7.getD v4_8.toNat (Fm.mk 0 0 [] [])))) (some (0 : Int))) fun r10 => (
 cond (cond (decide (v5_9 < (l6.length : Int))) (decide (r10 < 0)) false) (some (Step.next ((v0_7, (), v4_8, IntKind.wrap .i64 (v5_9 + 1), ()), (l6, ())))) (some (Step.done ((v0_7, (), v4_8, v5_9, ()), (l6, ())))))) none) none) none)) ((v0_3, (), v4_4, 0, ()), (l2, ()))) fun d11 => (
 let l12 := d11.2.1
 let v0_13 := d11.1.1
 let v4_14 := d11.1.2.2.1
 let v5_15 := d11.1.2.2.2.1
 cond ((ixOK v5_15 l12.length) || !(decide (v5_15 < (l12.length : Int)))) (cond ((decide (v5_15.toNat < l12.length)) || !(decide (v5_15 < (l12.length : Int)))) (cond ((ixOK v4_14 v0_13.length) || !(decide (v5_15 < (l12.length : Int)))) (Option.bind (α := Bool) (cond (decide (v5_15 < (l12.length : Int))) (G_refEqual (Fm.eta (l12.getD v5_15.toNat (Fm.mk 0 0 [] []))) (Fm.eta (v0_13.getD v4_14.toNat (Fm.mk 0 0 [] [])))) (some false)) fun r16 => (
 cond (cond (decide (v5_15 < (l12.length : Int))) r16 false) (some ((v0_13, (), v4_14, ()), (l12, ()))) (cond (slOK 0 v5_15 l12.length) (cond (decide ((([] : List Fm).length + ((l12.drop (0 : Int).toNat).take (v5_15.toNat - (0 : Int).toNat)).length) * 56 ≤ 140737488355328)) (cond (ixOK v4_14 v0_13.length) (Option.bind (α := Fm) (L_own (Fm.eta (v0_13.getD v4_14.toNat (Fm.mk 0 0 [] [])))) fun r17 => (
 cond (decide (((([] : List Fm) ++ ((l12.drop (0 : Int).toNat).take (v5_15.toNat - (0 : Int).toNat))).length + ([(Fm.eta r17)]).length) * 56 ≤ 140737488355328)) (cond (slOK v5_15 (l12.length : Int) l12.length) (cond (decide ((((([] : List Fm) ++ ((l12.drop (0 : Int).toNat).take (v5_15.toNat - (0 : Int).toNat))) ++ ([(Fm.eta r17)])).length + ((l12.drop v5_15.toNat).take ((l12.length : Int).toNat - v5_15.toNat)).length) * 56 ≤ 140737488355328)) (some ((v0_13, (), v4_14, ()), (((([] : List Fm) ++ ((l12.drop (0 : Int).toNat).take (v5_15.toNat - (0 : Int).toNat))) ++ ([(Fm.eta r17)])) ++ ((l12.drop v5_15.toNat).take ((l12.length : Int).toNat - v5_15.toNat)), ()))) none) none) none)) none) none) none))) none) none) none)) fun d18 => (
 let l19 := d18.2.1
 let v0_20 := d18.1.1
 let v4_21 := d18.1.2.2.1
 some (Step.next ((v0_20, (), IntKind.wrap .i64 (v4_21 + 1), ()), (l19, ()))))) (some (Step.done (((), ()), (l2, ())))))) ((x0, (), 0, ()), (([] : List Fm), ()))) fun d22 => (
 let l23 := d22.2.1
 some l23))
def A_refSort : An := .seq (.leaf) (.seq (.leaf) (.join false { env := [(3, (.gs 0 .form))], objs := [(false, .tg .form 26)] } (.seq (.leaf) (.block (.loop { env := [(0, (.d (.slice .form))), (3, (.gs 0 .form)), (4, (.d (.int .i64)))], objs := [(false, .tg .form 26)] } (.seq (.leaf) (.join false { env := [(0, (.d (.slice .form))), (3, (.gs 0 .form)), (4, (.d (.int .i64)))], objs := [(false, .tg .form 26)] } (.block (.seq (.leaf) (.join false { env := [(0, (.d (.slice .form))), (3, (.gs 0 .form)), (4, (.d (.int .i64))), (5, (.d (.int .i64)))], objs := [(false, .tg .form 26)] } (.block (.loop { env := [(0, (.d (.slice .form))), (3, (.gs 0 .form)), (4, (.d (.int .i64))), (5, (.d (.int .i64)))], objs := [(false, .tg .form 26)] } (.leaf))) (.seq (.leaf) (.frz [0] (.leaf)))))) (.leaf)))))) (.leaf)))
def H_refSort : Nat → RH := fun r => match r with
 | 6 => { H := { pl := [25] } }
 | 8 => { H := { pl := [43] } }
 | 9 => { H := { mb := [46], ty := [(46, .form), (50, .form)] } }
 | 10 => { H := { ty := [(58, .form)] } }
 | 11 => { H := { ty := [(63, .form)] } }
 | _ => {}
noncomputable def S_refSort : Sig := .n [(.d (.slice .form))] (.d (.slice .form)) (fun x => G_refSort x.1)
theorem S_refSort_ok : SigOK CX 46 S_refSort := sigN_of (l := [(64, S_refCompare_l), (25, S_refEqual), (87, S_own_l)]) ⟨S_refCompare_l_ok, S_refEqual_ok, S_own_l_ok, trivial⟩ (hint := H_refSort) (an := A_refSort) (fun x => by kernel_rfl)
noncomputable def G_lawAll (x0 : List Fm) : Option (Bool) := (
 Option.bind (α := List UInt8) (G_rWriteAll x0) fun r1 => (
 Option.bind (α := List UInt8) (G_refWriteAll x0) fun r2 => (
 Option.bind (α := List Fm) (cond (decide (r1 = r2)) (G_rSort x0) (some ([] : List Fm))) fun r3 => (
 Option.bind (α := List Fm) (cond (decide (r1 = r2)) (G_refSort x0) (some ([] : List Fm))) fun r4 => (
 Option.bind (α := Bool) (cond (decide (r1 = r2)) (G_allA r3 r4) (some false)) fun r5 => (
 Option.bind (α := Bool) (cond (cond (decide (r1 = r2)) r5 false) (G_sane01) (some false)) fun r6 => (
 some (cond (cond (decide (r1 = r2)) r5 false) r6 false))))))))
def A_lawAll : An := .leaf
def H_lawAll : Nat → RH := fun _ => {}
noncomputable def S_lawAll : Sig := .n [(.d (.slice .form))] (.d .bool) (fun x => G_lawAll x.1)
theorem S_lawAll_ok : SigOK CX 8 S_lawAll := sigN_of (l := [(43, S_rWriteAll), (44, S_refWriteAll), (45, S_rSort), (46, S_refSort), (24, S_allA), (26, S_sane01)]) ⟨S_rWriteAll_ok, S_refWriteAll_ok, S_rSort_ok, S_refSort_ok, S_allA_ok, S_sane01_ok, trivial⟩ (hint := H_lawAll) (an := A_lawAll) (fun x => by kernel_rfl)
end Go.Ab

namespace Go.Ab
open Go
theorem abindv {L R A : Type} {b : L → Option (Step L R)} {l0 : L} {F : R → Option A} {v : A} (I : L → Prop) (μ : L → Nat)
  (h : ∀ l, I l → (∃ l', b l = some (.next l') ∧ I l' ∧ μ l' < μ l) ∨ ∃ r, b l = some (.done r) ∧ F r = some v) (h0 : I l0) : Option.bind (loopM b l0) F = some v := by
 obtain ⟨r, h1, h2⟩ := loop_wp I μ (fun r => F r = some v) (fun l hl => h l hl) l0 h0
 rw [h1]; exact h2
def ltF (f g : Fm) : Prop := cmpF f g < 0
def eqF (f g : Fm) : Prop := cmpF f g = 0
theorem eqF.symm {f g : Fm} (h : eqF f g) : eqF g f := by unfold eqF at *; rw [cmpF_neg f g, h]; rfl
theorem eqF.trans {f g h : Fm} (h1 : eqF f g) (h2 : eqF g h) : eqF f h := by unfold eqF at *; rw [cmpF_eq_l h1, h2]
theorem le_antisymm' {f g : Fm} (h1 : le f g) (h2 : le g f) : eqF f g := by
 unfold le eqF at *
 rw [cmpF_neg f g] at h2
 omega
def eqAllF : List Fm → List Fm → Prop
 | [], [] => True
 | f :: x, g :: y => eqF f g ∧ eqAllF x y
 | _, _ => False
theorem strict_unique : ∀ x y : List Fm, x.Pairwise ltF → y.Pairwise ltF → (∀ f ∈ x, ∃ g ∈ y, eqF f g) → (∀ g ∈ y, ∃ f ∈ x, eqF g f) → eqAllF x y
 | [], [], _, _, _, _ => trivial
 | [], g :: y, _, _, _, h => by obtain ⟨f, hf, _⟩ := h g (by simp); cases hf
 | f :: x, [], _, _, h, _ => by obtain ⟨g, hg, _⟩ := h f (by simp); cases hg
 | f :: x, g :: y, hx, hy, h1, h2 => by
  rw [List.pairwise_cons] at hx hy
  have hfg : eqF f g := by
   have a1 : le g f := by
    obtain ⟨g', hg', e⟩ := h1 f (by simp)
    have e' : le g' f := by have := e.symm; unfold eqF at this; unfold le; omega
    rcases List.mem_cons.1 hg' with rfl | hm
    ·exact e'
    ·exact le_trans' (le_of_lt' (hy.1 g' hm)) e'
   have a2 : le f g := by
    obtain ⟨f', hf', e⟩ := h2 g (by simp)
    have e' : le f' g := by have := e.symm; unfold eqF at this; unfold le; omega
    rcases List.mem_cons.1 hf' with rfl | hm
    ·exact e'
    ·exact le_trans' (le_of_lt' (hx.1 f' hm)) e'
   exact le_antisymm' a2 a1
  refine ⟨hfg, strict_unique x y hx.2 hy.2 (fun f' hf' => ?_) (fun g' hg' => ?_)⟩
  ·obtain ⟨g', hg', e⟩ := h1 f' (by simp [hf'])
   rcases List.mem_cons.1 hg' with rfl | hm
   ·exfalso
    have h3 := hx.1 f' hf'
    have h4 := hfg.trans e.symm
    unfold ltF at h3
    unfold eqF at h4
    omega
   ·exact ⟨g', hm, e⟩
  ·obtain ⟨f', hf', e⟩ := h2 g' (by simp [hg'])
   rcases List.mem_cons.1 hf' with rfl | hm
   ·exfalso
    have h3 := hy.1 g' hg'
    have h4 := hfg.symm.trans e.symm
    unfold ltF at h3
    unfold eqF at h4
    omega
   ·exact ⟨f', hm, e⟩
end Go.Ab

set_option maxRecDepth 100000
namespace Go.Ab
open Go Go.RowKit Go.Proofs
theorem requalQ_val {f g : Fm} (hb : f.big ≤ 4611686018427387000) : G_requalQ f g = some (decide (cmpF f g = 0)) := by
 unfold G_requalQ
 simp only [Fm.eta_eq, compare_val hb, Option.bind_some]
def ded (l : List Fm) : Nat → List Fm
 | 0 => []
 | n + 1 => if 1 ≤ n ∧ cmpF (atF' l n) (atF' l (n - 1)) = 0 then ded l n else ded l n ++ [atF' l n]
theorem ded_le (l : List Fm) : ∀ n, (ded l n).length ≤ n
 | 0 => Nat.le_refl _
 | n + 1 => by
  have := ded_le l n
  unfold ded
  split
  ·omega
  ·simp; omega
theorem ded_all (l : List Fm) (n : Nat) (hn : n ≤ l.length) (h : ∀ j, 1 ≤ j → j < n → ¬ cmpF (atF' l j) (atF' l (j - 1)) = 0) : ded l n = l.take n := by
 induction n with
 | zero => rfl
 | succ n ih =>
  unfold ded
  rw [ih (by omega) (fun j a b => h j a (by omega)), List.take_succ_eq_append_getElem (show n < l.length by omega)]
  have e : atF' l n = l[n] := getD_in (by omega) _
  by_cases h1 : 1 ≤ n
  ·rw [if_neg (fun hh => h n h1 (by omega) hh.2), e]
  ·rw [if_neg (fun hh => h1 hh.1), e]
theorem ded_props {l : List Fm} (hs : Srt 0 l.length l) : ∀ n, n ≤ l.length → (∀ f ∈ ded l n, ∃ i, i < n ∧ f = atF' l i) ∧ (∀ i, i < n → ∃ g ∈ ded l n, eqF (atF' l i) g) ∧ (ded l n).Pairwise ltF
 | 0, _ => ⟨by simp [ded], fun i h => by omega, by simp [ded]⟩
 | n + 1, hn => by
  obtain ⟨h1, h2, h3⟩ := ded_props hs n (by omega)
  unfold ded
  by_cases hc : 1 ≤ n ∧ cmpF (atF' l n) (atF' l (n - 1)) = 0
  ·rw [if_pos hc]
   refine ⟨fun f hf => ?_, fun i hi => ?_, h3⟩
   ·obtain ⟨i, a, b⟩ := h1 f hf; exact ⟨i, by omega, b⟩
   ·by_cases hin : i = n
    ·subst hin
     obtain ⟨g, a, b⟩ := h2 (i - 1) (by omega)
     exact ⟨g, a, eqF.trans hc.2 b⟩
    ·exact h2 i (by omega)
  ·rw [if_neg hc]
   refine ⟨fun f hf => ?_, fun i hi => ?_, ?_⟩
   ·rcases List.mem_append.1 hf with hf | hf
    ·obtain ⟨i, a, b⟩ := h1 f hf; exact ⟨i, by omega, b⟩
    ·simp at hf; exact ⟨n, by omega, hf⟩
   ·by_cases hin : i = n
    ·subst hin; exact ⟨atF' l i, by simp, cmpF_self _⟩
    ·obtain ⟨g, a, b⟩ := h2 i (by omega); exact ⟨g, by simp [a], b⟩
   ·rw [List.pairwise_append]
    refine ⟨h3, by simp, fun f hf g hg => ?_⟩
    simp at hg
    subst hg
    obtain ⟨i, a, rfl⟩ := h1 f hf
    have hn1 : 1 ≤ n := by omega
    have hne : ¬ cmpF (atF' l n) (atF' l (n - 1)) = 0 := fun h => hc ⟨hn1, h⟩
    have hle : le (atF' l (n - 1)) (atF' l n) := hs _ _ (Nat.zero_le _) (by omega) (by omega)
    have hlt : ltF (atF' l (n - 1)) (atF' l n) := by
     unfold le at hle
     unfold ltF
     rw [cmpF_neg (atF' l (n - 1)) (atF' l n)] at hne
     omega
    by_cases hi : i = n - 1
    ·subst hi; exact hlt
    ·have hl2 : le (atF' l i) (atF' l (n - 1)) := hs _ _ (Nat.zero_le _) (by omega) (by omega)
     exact (cmpF_tri _ _ _).2.2.1 hl2 hlt
theorem bind_eq {A B : Type} {o : Option A} {F : A → Option B} {v : A} {u : B} (h : o = some v) (k : F v = some u) : Option.bind o F = some u := by rw [h]; exact k
theorem at_drop {l m : List Fm} {p i : Nat} (h : m.drop p = l.drop p) (hi : p ≤ i) : atF' m i = atF' l i := by
 have h1 : (m.drop p)[i - p]? = (l.drop p)[i - p]? := by rw [h]
 rw [List.getElem?_drop, List.getElem?_drop, show p + (i - p) = i by omega] at h1
 unfold atF'
 rw [List.getD_eq_getElem?_getD, List.getD_eq_getElem?_getD, h1]
theorem compact_val {l : List Fm} (hln : l.length < 1000000000000) (hbig : bigAll l) : G_compact l = some ((), (ded l l.length, ())) := by
 unfold G_compact
 by_cases h2 : l.length < 2
 ·have e : decide ((l.length : Int) < 2) = true := by apply decide_eq_true; omega
  rw [e, cond_true, ded_all l l.length (Nat.le_refl _) (fun j a b => absurd b (by omega)), List.take_length]
 ·have e : decide ((l.length : Int) < 2) = false := by apply decide_eq_false; omega
  rw [e, cond_false]
  refine abindv (fun d => ∃ k : Nat, d = (((), (), (k : Int), ()), (l, ())) ∧ 1 ≤ k ∧ k ≤ l.length ∧ ∀ j, 1 ≤ j → j < k → ¬ cmpF (atF' l j) (atF' l (j - 1)) = 0) (fun d => l.length - d.1.2.2.1.toNat) ?_ ⟨1, rfl, Nat.le_refl _, by omega, fun j a b => by omega⟩
  rintro d ⟨k, rfl, hk1, hk, hd⟩
  simp only [Int.toNat_natCast]
  by_cases hk' : k < l.length
  ·have e1 : decide ((k : Int) < (l.length : Int)) = true := by apply decide_eq_true; omega
   have x1 : ixOK (k : Int) l.length = true := ixOK_iff.2 (by omega)
   have x2 : ixOK ((k - 1 : Nat) : Int) l.length = true := ixOK_iff.2 (by omega)
   have d1 : decide (k < l.length) = true := by apply decide_eq_true; omega
   have d2 : decide (k - 1 < l.length) = true := by apply decide_eq_true; omega
   have hcmp : G_requalQ (l.getD k (Fm.mk 0 0 [] [])) (l.getD (k - 1) (Fm.mk 0 0 [] [])) = some (decide (cmpF (atF' l k) (atF' l (k - 1)) = 0)) := requalQ_val (bigAll_at hbig (by omega))
   simp only [e1, x1, x2, d1, d2, hcmp, cond_true, cond_false, Fm.eta_eq, Option.bind_some, Int.toNat_natCast, wrapS (show k < 4611686018427387904 by omega) hk1, wrapN (show k < 4611686018427387904 by omega)]
   by_cases hc : cmpF (atF' l k) (atF' l (k - 1)) = 0
   ·simp only [hc, decide_true, cond_true]
    have s1 : slOK (k : Int) (l.length : Int) l.length = true := slOK_iff.2 (by omega)
    have hb2 : ∀ (m : List Fm), m.length = l.length → ∀ i, k ≤ i → i < l.length → ∀ p, m.drop p = l.drop p → p ≤ i → (atF' m i).big ≤ 4611686018427387000 := fun m hm i _ hi p hp hpi => by
     rw [at_drop hp hpi]; exact bigAll_at hbig hi
    simp only [s1, cond_true]
    refine .inr ⟨.done ((), (ded l l.length, ())), bind_eq (v := .done (.done (.done ((), (ded l l.length, ()))))) (abindv (fun d => ∃ (q j : Nat) (m : List Fm), d = (((), (), (q : Int), (k, l.length - k), (j : Int), ()), (m, ())) ∧ 1 ≤ j ∧ k + j ≤ l.length ∧ m.length = l.length ∧ q ≤ k + j - 1 ∧ m.drop (k + j - 1) = l.drop (k + j - 1) ∧ m.take q = ded l (k + j)) (fun d => l.length - d.1.2.2.2.2.1.toNat) ?_ ⟨k, 1, l, rfl, Nat.le_refl _, by omega, rfl, by omega, rfl, ?_⟩) rfl, rfl⟩
    ·rintro d ⟨q, j, m, rfl, hj1, hj, hm, hq, hdr, htk⟩
     simp only [Int.toNat_natCast]
     by_cases hj' : k + j < l.length
     ·have f1 : decide ((j : Int) < ((l.length - k : Nat) : Int)) = true := by apply decide_eq_true; omega
      have f2 : ixOK (j : Int) (l.length - k) = true := ixOK_iff.2 (by omega)
      have f3 : decide (k + j < m.length) = true := by apply decide_eq_true; omega
      have f4 : ixOK ((j - 1 : Nat) : Int) (l.length - k) = true := ixOK_iff.2 (by omega)
      have f5 : decide (k + (j - 1) < m.length) = true := by apply decide_eq_true; omega
      have f6 : ixOK (q : Int) m.length = true := ixOK_iff.2 (by omega)
      have f7 : decide (q < m.length) = true := by apply decide_eq_true; omega
      have a1 : atF' m (k + j) = atF' l (k + j) := at_drop hdr (by omega)
      have a2 : atF' m (k + (j - 1)) = atF' l (k + j - 1) := by rw [show k + (j - 1) = k + j - 1 by omega]; exact at_drop hdr (Nat.le_refl _)
      have hcmp2 : G_requalQ (m.getD (k + j) (Fm.mk 0 0 [] [])) (m.getD (k + (j - 1)) (Fm.mk 0 0 [] [])) = some (decide (cmpF (atF' l (k + j)) (atF' l (k + j - 1)) = 0)) := by
       rw [← a1, ← a2]
       exact requalQ_val (by rw [show m.getD (k + j) (Fm.mk 0 0 [] []) = atF' m (k + j) from rfl, a1]; exact bigAll_at hbig hj')
      have g1 : m.getD (k + j) (Fm.mk 0 0 [] []) = atF' l (k + j) := a1
      simp only [f1, f2, f3, f4, f5, f6, f7, hcmp2, cond_true, cond_false, Fm.eta_eq, Option.bind_some, Int.toNat_natCast, wrapS (show j < 4611686018427387904 by omega) hj1, wrapN (show j < 4611686018427387904 by omega), wrapN (show q < 4611686018427387904 by omega)]
      have hdr' : m.drop (k + j) = l.drop (k + j) := by
       have : (m.drop (k + j - 1)).drop 1 = (l.drop (k + j - 1)).drop 1 := by rw [hdr]
       rwa [List.drop_drop, List.drop_drop, show k + j - 1 + 1 = k + j by omega] at this
      by_cases hc2 : cmpF (atF' l (k + j)) (atF' l (k + j - 1)) = 0
      ·simp only [hc2, decide_true, Bool.not_true, cond_false, Option.bind_some, wrapN (show j < 4611686018427387904 by omega)]
       refine .inl ⟨_, rfl, ⟨q, j + 1, m, rfl, by omega, by omega, hm, by omega, by rw [show k + (j + 1) - 1 = k + j by omega]; exact hdr', ?_⟩, ?_⟩
       ·rw [show k + (j + 1) = (k + j) + 1 by omega, ded, if_pos ⟨by omega, hc2⟩]; exact htk
       ·simp only [Int.toNat_natCast]; omega
      ·simp only [hc2, decide_false, Bool.not_false, cond_true, Option.bind_some, wrapN (show j < 4611686018427387904 by omega)]
       refine .inl ⟨_, rfl, ⟨q + 1, j + 1, _, rfl, by omega, by omega, by rw [List.length_set]; exact hm, by omega, ?_, ?_⟩, ?_⟩
       ·rw [show k + (j + 1) - 1 = k + j by omega, List.drop_set_of_lt (by omega)]; exact hdr'
       ·rw [g1, show k + (j + 1) = (k + j) + 1 by omega, ded, if_neg (fun h => hc2 h.2), ← htk, List.take_succ_eq_append_getElem (by rw [List.length_set]; omega), List.take_set_of_le (Nat.le_refl _)]
        simp
       ·simp only [Int.toNat_natCast]; omega
     ·have f1 : decide ((j : Int) < ((l.length - k : Nat) : Int)) = false := by apply decide_eq_false; omega
      have hkj : k + j = l.length := by omega
      have s2 : slOK (q : Int) (m.length : Int) m.length = true := slOK_iff.2 (by omega)
      have s3 : decide (q + (m.length - q) ≤ m.length) = true := by apply decide_eq_true; omega
      have hlen3 : (m.take q ++ (List.replicate (m.length - q) (Fm.mk 0 0 [] []) ++ m.drop (q + (m.length - q)))).length = m.length := by simp; omega
      have s4 : hiOK (q : Int) m.length = true := hiOK_iff.2 (by omega)
      refine .inr ⟨_, by simp only [f1, cond_false]; rfl, ?_⟩
      simp only [s2, s3, s4, hlen3, cond_true, Int.toNat_natCast]
      rw [List.take_append_of_le_length (by simp; omega), List.take_take, Nat.min_self, htk, hkj]
    ·show l.take k = ded l (k + 1)
     rw [ded, if_pos ⟨hk1, hc⟩, ded_all l k (by omega) hd]
   ·simp only [hc, decide_false, cond_false, Option.bind_some, wrapN (show k < 4611686018427387904 by omega)]
    refine .inl ⟨_, rfl, ⟨k + 1, rfl, by omega, by omega, fun j a b => ?_⟩, ?_⟩
    ·by_cases hj : j = k
     ·subst hj; exact hc
     ·exact hd j a (by omega)
    ·simp only [Int.toNat_natCast]; omega
  ·have e1 : decide ((k : Int) < (l.length : Int)) = false := by apply decide_eq_false; omega
   refine .inr ⟨_, by simp only [e1, cond_false]; rfl, ?_⟩
   rw [ded_all l l.length (Nat.le_refl _) (fun j a b => hd j a (by omega)), List.take_length]
end Go.Ab

set_option maxRecDepth 100000
namespace Go.Ab
open Go Go.RowKit Go.Proofs
theorem abind {L R A : Type} {b : L → Option (Step L R)} {l0 : L} {F : R → Option A} {P : A → Prop} (I : L → Prop) (μ : L → Nat)
  (h : ∀ l, I l → (∃ l', b l = some (.next l') ∧ I l' ∧ μ l' < μ l) ∨ ∃ r, b l = some (.done r) ∧ ∃ v, F r = some v ∧ P v) (h0 : I l0) : ∃ v, Option.bind (loopM b l0) F = some v ∧ P v := by
 obtain ⟨r, h1, v, h2, h3⟩ := loop_wp I μ (fun r => ∃ v, F r = some v ∧ P v) (fun l hl => h l hl) l0 h0
 exact ⟨v, by rw [h1]; exact h2, h3⟩
theorem aAdd {i j : Nat} (h : i + j < 4611686018427387904) : IntKind.wrap .i64 ((i : Int) + (j : Int)) = ((i + j : Nat) : Int) := by
 rw [w64 (by omega) (by omega)]; omega
theorem aSub {i j : Nat} (h : i < 4611686018427387904) (h2 : j ≤ i) : IntKind.wrap .i64 ((i : Int) - (j : Int)) = ((i - j : Nat) : Int) := by
 rw [w64 (by omega) (by omega)]; omega
def swR (a b n : Nat) (g : Nat → Fm) (p : Nat) : Fm := if a ≤ p ∧ p < a + n then g (p + (b - a)) else if b ≤ p ∧ p < b + n then g (p - (b - a)) else g p
def rotG (a m b : Nat) (g : Nat → Fm) (p : Nat) : Fm := if a ≤ p ∧ p < a + (b - m) then g (p + (m - a)) else if a + (b - m) ≤ p ∧ p < b then g (p - (b - m)) else g p
theorem swR_step {a b i : Nat} (g : Nat → Fm) (h : a + i < b) (p : Nat) : swR a b (i + 1) g p = if p = b + i then swR a b i g (a + i) else if p = a + i then swR a b i g (b + i) else swR a b i g p := by
 have h1 : swR a b i g (a + i) = g (a + i) := by unfold swR; rw [if_neg (by omega), if_neg (by omega)]
 have h2 : swR a b i g (b + i) = g (b + i) := by unfold swR; rw [if_neg (by omega), if_neg (by omega)]
 rw [h1, h2]
 by_cases c1 : p = b + i
 ·subst c1
  rw [if_pos rfl]
  unfold swR
  rw [if_neg (by omega), if_pos (by omega)]
  exact congrArg g (by omega)
 ·rw [if_neg c1]
  by_cases c2 : p = a + i
  ·subst c2
   rw [if_pos rfl]
   unfold swR
   rw [if_pos (by omega)]
   exact congrArg g (by omega)
  ·rw [if_neg c2]
   unfold swR
   by_cases c3 : a ≤ p ∧ p < a + i
   ·rw [if_pos (by omega), if_pos c3]
   ·rw [if_neg (by omega), if_neg c3]
    by_cases c4 : b ≤ p ∧ p < b + i
    ·rw [if_pos (by omega), if_pos c4]
    ·rw [if_neg (by omega), if_neg c4]
theorem swapRange_val {a b n : Nat} {l : List Fm} (hab : a + n ≤ b) (hb : b + n ≤ l.length) (hln : l.length < 1000000000000) :
  ∃ m, G_swapRange (a : Int) (b : Int) (n : Int) l = some ((), (m, ())) ∧ SW a (b + n) l m ∧ ∀ p, atF' m p = swR a b n (atF' l) p := by
 unfold G_swapRange
 refine ret_of ?_
 refine loop_wp (fun d => ∃ (i : Nat) (m : List Fm), d = (((), (a : Int), (b : Int), (n : Int), (i : Int), ()), (m, ())) ∧ i ≤ n ∧ SW a (b + n) l m ∧ ∀ p, atF' m p = swR a b i (atF' l) p) (fun d => n - d.1.2.2.2.2.1.toNat) _ ?_ _
  ⟨0, l, rfl, Nat.zero_le _, .refl _, fun p => by unfold swR; rw [if_neg (by omega), if_neg (by omega)]⟩
 rintro d ⟨i, m, rfl, h1, hsw, hp⟩
 have hlen := hsw.length
 by_cases hi : i = n
 ·subst hi
  refine .inr ⟨_, by simp only [Int.lt_irrefl, decide_false, cond_false], m, rfl, hsw, hp⟩
 ·have e1 : decide ((i : Int) < (n : Int)) = true := by apply decide_eq_true; omega
  have wa : IntKind.wrap .i64 ((a : Int) + (i : Int)) = ((a + i : Nat) : Int) := aAdd (by omega)
  have wb : IntKind.wrap .i64 ((b : Int) + (i : Int)) = ((b + i : Nat) : Int) := aAdd (by omega)
  have i1 : ixOK ((a + i : Nat) : Int) m.length = true := ixOK_iff.2 (by omega)
  have i2 : decide (a + i < m.length) = true := by apply decide_eq_true; omega
  have i3 : ixOK ((b + i : Nat) : Int) m.length = true := ixOK_iff.2 (by omega)
  have i4 : decide (b + i < m.length) = true := by apply decide_eq_true; omega
  simp only [e1, wa, wb, i1, i2, i3, i4, Int.toNat_natCast, cond_true, Fm.eta_eq, List.length_set, wrapN (show i < 4611686018427387904 by omega)]
  refine .inl ⟨_, rfl, ⟨i + 1, swapL m (a + i) (b + i), rfl, by omega, .swap _ _ _ _ hsw (by omega) (by omega) (by omega) (by omega), fun p => ?_⟩, by simp only [Int.toNat_natCast]; omega⟩
  rw [swapL_at m (by omega) (by omega), hp, hp, hp, swR_step _ (by omega)]
theorem rot_left {m i j : Nat} (g : Nat → Fm) (hi : i ≤ m) (hji : j < i) (hj : 0 < j) (p : Nat) : rotG (m - (i - j)) m (m + j) (swR (m - i) m j g) p = rotG (m - i) m (m + j) g p := by
 unfold rotG
 by_cases c1 : m - (i - j) ≤ p ∧ p < m - (i - j) + (m + j - m)
 ·rw [if_pos c1]
  by_cases c2 : m - i ≤ p ∧ p < m - i + (m + j - m)
  ·omega
  ·rw [if_neg c2, if_pos (by omega)]
   unfold swR
   rw [if_neg (by omega)]
   by_cases c3 : m ≤ p + (m - (m - (i - j))) ∧ p + (m - (m - (i - j))) < m + j
   ·rw [if_pos c3]; exact congrArg g (by omega)
   ·omega
 ·rw [if_neg c1]
  by_cases c2 : m - (i - j) + (m + j - m) ≤ p ∧ p < m + j
  ·rw [if_pos c2, if_neg (by omega), if_pos (by omega)]
   unfold swR
   rw [if_neg (by omega), if_neg (by omega)]
  ·rw [if_neg c2]
   unfold swR
   by_cases c3 : m - i ≤ p ∧ p < m - i + j
   ·rw [if_pos c3, if_pos (by omega)]
    try exact congrArg g (by omega)
   ·rw [if_neg c3, if_neg (by omega), if_neg (by omega), if_neg (by omega)]
theorem rot_right {m i j : Nat} (g : Nat → Fm) (hi : i ≤ m) (hij : i < j) (h0 : 0 < i) (p : Nat) : rotG (m - i) m (m + (j - i)) (swR (m - i) (m + j - i) i g) p = rotG (m - i) m (m + j) g p := by
 unfold rotG
 by_cases c1 : m - i ≤ p ∧ p < m - i + (m + (j - i) - m)
 ·rw [if_pos c1, if_pos (by omega)]
  unfold swR
  rw [if_neg (by omega), if_neg (by omega)]
 ·rw [if_neg c1]
  by_cases c2 : m - i + (m + (j - i) - m) ≤ p ∧ p < m + (j - i)
  ·rw [if_pos c2]
   unfold swR
   rw [if_pos (by omega), if_pos (by omega)]
   exact congrArg g (by omega)
  ·rw [if_neg c2]
   unfold swR
   rw [if_neg (by omega)]
   by_cases c3 : m + j - i ≤ p ∧ p < m + j - i + i
   ·rw [if_pos c3, if_neg (by omega), if_pos (by omega)]; exact congrArg g (by omega)
   ·rw [if_neg c3, if_neg (by omega), if_neg (by omega)]
theorem rot_end {m i : Nat} (g : Nat → Fm) (hi : i ≤ m) (p : Nat) : swR (m - i) m i g p = rotG (m - i) m (m + i) g p := by
 unfold rotG swR
 by_cases c1 : m - i ≤ p ∧ p < m - i + i
 ·rw [if_pos c1, if_pos (by omega)]
 ·rw [if_neg c1]
  by_cases c2 : m ≤ p ∧ p < m + i
  ·rw [if_pos c2, if_neg (by omega), if_pos (by omega)]; exact congrArg g (by omega)
  ·rw [if_neg c2, if_neg (by omega), if_neg (by omega)]
theorem rotG_congr {a m b : Nat} {g h : Nat → Fm} (e : ∀ p, g p = h p) (p : Nat) : rotG a m b g p = rotG a m b h p := by
 have : g = h := funext e
 rw [this]
theorem rotate_val {a m b : Nat} {l : List Fm} (ham : a < m) (hmb : m < b) (hb : b ≤ l.length) (hln : l.length < 1000000000000) :
  ∃ d, G_rotateF (a : Int) (m : Int) (b : Int) l = some ((), (d, ())) ∧ SW a b l d ∧ ∀ p, atF' d p = rotG a m b (atF' l) p := by
 unfold G_rotateF
 have w1 : IntKind.wrap .i64 ((m : Int) - (a : Int)) = ((m - a : Nat) : Int) := aSub (by omega) (by omega)
 have w2 : IntKind.wrap .i64 ((b : Int) - (m : Int)) = ((b - m : Nat) : Int) := aSub (by omega) (by omega)
 refine ret_of ?_
 rw [w1, w2]
 refine abind (fun d => ∃ (i j : Nat) (e : List Fm), d = (((), (m : Int), (), (i : Int), (j : Int), ()), (e, ())) ∧ 0 < i ∧ 0 < j ∧ i ≤ m - a ∧ j ≤ b - m ∧ SW a b l e ∧ ∀ p, rotG (m - i) m (m + j) (atF' e) p = rotG a m b (atF' l) p) (fun d => d.1.2.2.2.1.toNat + d.1.2.2.2.2.1.toNat) ?_
  ⟨m - a, b - m, l, rfl, by omega, by omega, by omega, by omega, .refl _, fun p => by rw [show m - (m - a) = a by omega, show m + (b - m) = b by omega]⟩
 rintro d ⟨i, j, e, rfl, h1, h2, h3, h4, hsw, hp⟩
 have hlen := hsw.length
 have wm : IntKind.wrap .i64 ((m : Int) - (i : Int)) = ((m - i : Nat) : Int) := aSub (by omega) (by omega)
 simp only [wm]
 by_cases hij : i = j
 ·subst hij
  obtain ⟨e', q1, q2, q3⟩ := swapRange_val (a := m - i) (b := m) (n := i) (l := e) (by omega) (by omega) (by omega)
  refine .inr ⟨(((), (m : Int), (), (i : Int), ()), (e, ())), by simp only [decide_true, Bool.not_true, cond_false], ((), (e', ())), by simp only [wm, q1, Option.bind_some], e', rfl, hsw.trans (q2.mono (by omega) (by omega)), fun p => ?_⟩
  rw [q3, rot_end _ (by omega), hp]
 ·have c0 : decide ((i : Int) = (j : Int)) = false := by apply decide_eq_false; omega
  simp only [c0, Bool.not_false, cond_true]
  by_cases hgt : j < i
  ·have c1 : decide ((i : Int) > (j : Int)) = true := by apply decide_eq_true; omega
   obtain ⟨e', q1, q2, q3⟩ := swapRange_val (a := m - i) (b := m) (n := j) (l := e) (by omega) (by omega) (by omega)
   simp only [c1, cond_true, q1, Option.bind_some, aSub (show i < 4611686018427387904 by omega) (show j ≤ i by omega)]
   refine .inl ⟨_, rfl, ⟨i - j, j, e', rfl, by omega, h2, by omega, h4, hsw.trans (q2.mono (by omega) (by omega)), fun p => ?_⟩, by simp only [Int.toNat_natCast]; omega⟩
   rw [rotG_congr q3, rot_left _ (by omega) hgt h2, hp]
  ·have c1 : decide ((i : Int) > (j : Int)) = false := by apply decide_eq_false; omega
   have w3 : IntKind.wrap .i64 (IntKind.wrap .i64 ((m : Int) + (j : Int)) - (i : Int)) = ((m + j - i : Nat) : Int) := by rw [aAdd (by omega), aSub (by omega) (by omega)]
   obtain ⟨e', q1, q2, q3⟩ := swapRange_val (a := m - i) (b := m + j - i) (n := i) (l := e) (by omega) (by omega) (by omega)
   simp only [c1, cond_false, w3, q1, Option.bind_some, aSub (show j < 4611686018427387904 by omega) (show i ≤ j by omega)]
   refine .inl ⟨_, rfl, ⟨i, j - i, e', rfl, h1, by omega, h3, by omega, hsw.trans (q2.mono (by omega) (by omega)), fun p => ?_⟩, by simp only [Int.toNat_natCast]; omega⟩
   rw [rotG_congr q3, rot_right _ (by omega) (by omega) h1, hp]
end Go.Ab
