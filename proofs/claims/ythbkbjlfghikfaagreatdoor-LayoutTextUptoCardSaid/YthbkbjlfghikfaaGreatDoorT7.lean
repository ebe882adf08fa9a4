/- merged by minib.py -/
import Derived.Test.YthbkbjlfghikfaaGreatDoorT6
import Derived.Test.YthbkbjlfghikfaaGreatDoorT5
import Derived.Shelf.Strings.Repeat
import Derived.Lib.AtoiAllCases
set_option linter.unusedVariables false
set_option linter.unusedSimpArgs false
set_option maxRecDepth 100000
noncomputable section
namespace Go.Ab
open Go Go.RowKit Go.Proofs
mutual
def wr : Fm -> List UInt8
 | .mk k n t l => if k = 0 then Lib.itoa n else if k = 1 then t else if k = 2 then 34 :: (escS t ++ [34]) else 40 :: (wrL true l ++ [41])
def wrL : Bool -> List Fm -> List UInt8
 | _, [] => []
 | b, f :: r => (if b = true then [] else [32]) ++ (wr f ++ wrL false r)
end
theorem Z4L (f : Fm) : wr f = if f.k = 0 then Lib.itoa f.n else if f.k = 1 then f.t else if f.k = 2 then 34 :: (escS f.t ++ [34]) else 40 :: (wrL true f.l ++ [41]) := by
 cases f; rw [wr]; rfl
theorem Y0P : ∀ (a c : List Fm) (b : Bool), wrL b (a ++ c) = wrL b a ++ wrL (b && a.isEmpty) c
 | [], c, b => by simp [wrL]
 | f :: a, c, b => by
  simp only [List.cons_append, wrL, Y0P a c false, List.isEmpty_cons, Bool.and_false, Bool.false_and, List.append_assoc]
theorem Y6K (l : List Fm) {i : Nat} (h : i < l.length) : wrL true (l.take (i + 1)) = wrL true (l.take i) ++ ((if i = 0 then [] else [32]) ++ wr l[i]) := by
 rw [List.take_add_one, List.getElem?_eq_getElem h, Y0P]
 congr 1
 simp only [Option.toList_some, wrL, List.append_nil, Bool.true_and]
 by_cases hi : i = 0
 ·subst hi; simp
 have : (l.take i).isEmpty = false := by
  cases hl : l.take i with
  | nil =>
   have := congrArg List.length hl;rw [List.length_take, Nat.min_eq_left (by omega)] at this;exact absurd this hi
  | cons a r => rfl
 rw [this]; simp [hi]
theorem X6y : ∀ (k u : Nat), u < 10 ^ k -> Lib.nDigits u <= k + 1
 | 0, u, h => by rw [Lib.nDigits_small (by simp at h; omega)]; omega
 | k + 1, u, h => by
  by_cases h10 : u < 10
  ·rw [Lib.nDigits_small h10]; omega
  rw [Lib.nDigits_big h10];have := X6y k (u / 10) (by rw [Nat.pow_succ] at h; omega);omega
theorem Z1S {n : Int} (h1 : -1152921504606846976 <= n) (h2 : n <= 1152921504606846976) : (Lib.itoa n).length <= 21 := by
 unfold Lib.itoa;split
 ·rw [List.length_cons, Lib.decDigits_length];have := X6y 19 n.natAbs (by omega);omega
 rw [Lib.decDigits_length];have := X6y 19 n.toNat (by omega);omega
theorem Y4J (t : List UInt8) : (escS t).length <= 2 * t.length := by
 rw [Y1w];have := Y4E t;omega
theorem X2N : ∀ f : Fm, X0w f = true -> (wr f).length + 1 <= 4101 * f.size := Fm.ind fun k n t l ih hf => by
 rw [X1Y] at hf;simp only [Bool.and_eq_true] at hf;obtain ⟨h1, h2⟩ := hf;simp only [Fm.k, Fm.n, Fm.t, Fm.l] at h1 h2;have hs : 1 <= (Fm.mk k n t l).size := by rw [Fm.size_eq]; omega
 rw [wr];unfold X1J at h1
 by_cases c0 : k = 0
 ·rw [if_pos c0] at h1 ⊢;simp only [Bool.and_eq_true, decide_eq_true_eq] at h1;have := Z1S h1.2.2.1 h1.2.2.2;omega
 rw [if_neg c0] at h1 ⊢
 by_cases c1 : k = 1
 ·rw [if_pos c1] at h1 ⊢;simp only [X9o, Bool.and_eq_true, decide_eq_true_eq] at h1;omega
 rw [if_neg c1] at h1 ⊢
 by_cases c2 : k = 2
 ·rw [if_pos c2] at h1 ⊢;simp only [Bool.and_eq_true, decide_eq_true_eq] at h1;have := Y4J t;simp only [List.length_cons, List.length_append, List.length_nil];omega
 rw [if_neg c2] at h1 ⊢
 by_cases c3 : k = 3
 ·have key : ∀ (l : List Fm) (b : Bool), (∀ f ∈ l, X0w f = true -> (wr f).length + 1 <= 4101 * f.size) -> X0s l = true -> (wrL b l).length <= 4101 * Fm.sizeL l := by
   intro l
   induction l with
   | nil => intro b _ _; simp [wrL]
   | cons f r ihr =>
    intro b hi hl;simp only [X0s, Bool.and_eq_true] at hl;have e1 := hi f (by simp) hl.1;have e2 := ihr false (fun g hg => hi g (List.mem_cons_of_mem _ hg)) hl.2;simp only [wrL, List.length_append, Fm.sizeL];have : (if b = true then [] else [32] : List UInt8).length <= 1 := by split <;> simp
    omega
  have := key l true ih h2;rw [Fm.size_eq];have e3 : (if (Fm.mk k n t l).k = 3 then (Fm.mk k n t l).l else []) = l := if_pos c3;rw [e3];simp only [List.length_cons, List.length_append, List.length_nil];omega
 rw [if_neg c3] at h1; cases h1
theorem Y5I : ∀ (l : List Fm) (b : Bool), X0s l = true -> (wrL b l).length <= 4101 * Fm.sizeL l
 | [], b, _ => by simp [wrL]
 | f :: r, b, hl => by
  simp only [X0s, Bool.and_eq_true] at hl;have e1 := X2N f hl.1;have e2 := Y5I r false hl.2;simp only [wrL, List.length_append, Fm.sizeL];have : (if b = true then [] else [32] : List UInt8).length <= 1 := by split <;> simp
  omega
theorem X0k (a b : List UInt8) : X0f a ++ X0f b = X0f (a ++ b) := by unfold X0f; rw [List.map_append]
theorem X24 {x : List UInt8} {b : Bool} {l : List Int} (h : l.length + x.length <= 140737488355328) : X13 x (b, (), ()) l = some (((x.length : Int), true, ()), ((true, (), ()), l ++ X0f x, ())) := by
 unfold X13;simp only [Option.bind_some, List.length_map, Nat.mul_one];rw [decide_eq_true h];rfl
theorem X1A {c : Int} {b : Bool} {l : List Int} (h : l.length + 1 <= 140737488355328) : X06 c (b, (), ()) l = some (true, ((true, (), ()), l ++ [c], ())) := by
 unfold X06;simp only [Option.bind_some, List.length_cons, List.length_nil, Nat.mul_one, Nat.zero_add];rw [decide_eq_true h];rfl
theorem X2I : ∀ {l : List Fm}, X0s l = true -> ∀ f ∈ l, X0w f = true
 | [], _, f, h => by cases h
 | g :: r, hl, f, h => by
  simp only [X0s, Bool.and_eq_true] at hl;rcases List.mem_cons.1 h with rfl | h
  ·exact hl.1
  exact X2I hl.2 f h
theorem Y7l {l : List Fm} (h : ∀ f ∈ l, X0w f = true) : X0s l = true := by
 induction l with
 | nil => simp [X0s]
 | cons f r ih => simp only [X0s, Bool.and_eq_true]; exact ⟨h f (by simp), ih fun g hg => h g (List.mem_cons_of_mem _ hg)⟩
theorem X62 {l : List Fm} (h : X0s l = true) (i : Nat) : X0s (l.take i) = true := Y7l fun f hf => X2I h f (List.mem_of_mem_take hf)
theorem Y7w : X7o ([[92], [92, 92], [34], [92, 34], [10], [92, 110]]) = some ((), ((0, 0, 0, (), (), ()), old6, ())) := by
 unfold X7o;rfl
theorem Z0h {s : List UInt8} (h : s.length <= 1000000) : Y7G (0, 0, 0, (), (), ()) old6 s = some (escS s, ()) := by
 unfold Y7G;rw [if_pos ⟨rfl, rfl, rfl, h⟩]
theorem Y3j {n : Int} (h1 : -1152921504606846976 <= n) (h2 : n <= 1152921504606846976) : Y4S n = some (Lib.itoa n) := by
 unfold Y4S;rw [if_pos ⟨by omega, by omega⟩]
theorem Y6N : ∀ k, ∀ (f : Fm) (b : Bool) (l : List Int), X0w f = true -> f.big <= 4611686018427387000 -> l.length + 4101 * f.size <= 100000000000 -> Up (k < f.big) (X3W k f (b, (), ()) l) ((), ((true, (), ()), l ++ X0f (wr f), ()))
 | 0 => fun f b l hf hb hl => .inr ⟨by unfold X3W; rfl, by have := X2s f; omega⟩
 | k + 1 => fun f b l hf hb hl => by
  have hlen := X2N f hf;have hw := Z4L f;have hf' := hf;rw [X1Y] at hf';simp only [Bool.and_eq_true] at hf';obtain ⟨h1, h2⟩ := hf';unfold X1J at h1;unfold X3W
  by_cases c0 : f.k = 0
  ·rw [if_pos c0] at h1 hw;simp only [Bool.and_eq_true, decide_eq_true_eq] at h1;rw [decide_eq_true c0, cond_true, Y3j h1.2.2.1 h1.2.2.2];simp only [Option.bind_some];rw [hw] at hlen ⊢;rw [X24 (by omega)];exact .of rfl
  rw [if_neg c0] at h1 hw;rw [decide_eq_false c0, cond_false]
  by_cases c1 : f.k = 1
  ·rw [if_pos c1] at h1 hw;rw [decide_eq_true c1, cond_true];rw [hw] at hlen ⊢;rw [X24 (by omega)];exact .of rfl
  rw [if_neg c1] at h1 hw;rw [decide_eq_false c1, cond_false]
  by_cases c2 : f.k = 2
  ·rw [if_pos c2] at h1 hw;simp only [Bool.and_eq_true, decide_eq_true_eq] at h1;rw [decide_eq_true c2, cond_true];rw [hw] at hlen ⊢;simp only [List.length_cons, List.length_append, List.length_nil] at hlen;rw [X1A (by omega)];simp only [Option.bind_some, Y7w];rw [Z0h (by omega)];simp only [Option.bind_some];rw [X24 (by simp only [List.length_append, List.length_cons, List.length_nil]; omega)];simp only [Option.bind_some];rw [X1A (by simp only [List.length_append, List.length_cons, List.length_nil, X0J]; omega)];refine .of ?_;simp only [Option.bind_some];have : l ++ [34] ++ X0f (escS f.t) ++ [34] = l ++ X0f (34 :: (escS f.t ++ [34])) := by
    have e1 : X0f (34 :: (escS f.t ++ [34])) = [34] ++ (X0f (escS f.t) ++ [34]) := by
     rw [show (34 :: (escS f.t ++ [34]) : List UInt8) = [34] ++ (escS f.t ++ [34]) from rfl, <- X0k, <- X0k];rfl
    rw [e1];simp only [List.append_assoc]
   rw [this]
  rw [if_neg c2] at h1 hw;rw [decide_eq_false c2, cond_false];have c3 : f.k = 3 := by
   by_cases c3 : f.k = 3
   ·exact c3
   rw [if_neg c3] at h1; cases h1
  have hsz : f.size = 1 + Fm.sizeL f.l := by rw [Fm.size_eq, if_pos c3]
  have hbk := X2h f;have hll := X07 f.l;rw [hw] at hlen ⊢;simp only [List.length_cons, List.length_append, List.length_nil] at hlen;rw [X1A (by omega)];simp only [Option.bind_some];refine X2x (A := Unit × ((Bool × Unit × Unit) × (List Int) × Unit)) (fun i => (((), f.l, (f.l.length : Int), (i : Int), ()), ((true, (), ()), l ++ X0f (40 :: wrL true (f.l.take i)), ()))) (fun i => ((), ((true, (), ()), l ++ X0f (40 :: (wrL true f.l ++ [41])), ()))) f.l.length (fun i hi => ?_) ?_
  ·have e1 : decide ((i : Int) < (f.l.length : Int)) = true := by simp [hi]
   have e2 : ixOK (i : Int) f.l.length = true := X0e.2 (by omega);have hg := X2r (List.getElem_mem hi);have hgf := X2I h2 _ (List.getElem_mem hi);have hs1 := X3i f.l hi;have hs2 := X1T f.l (i + 1);have hw1 := Y5I (f.l.take i) true (X62 h2 i);simp only [e1, e2, cond_true, Int.toNat_natCast, X09 hi]
   have step : ∀ (l' : List Int), l'.length + 4101 * f.l[i].size <= 100000000000 -> l' ++ X0f (wr f.l[i]) = l ++ X0f (40 :: wrL true (f.l.take (i + 1))) ->
     (Option.bind (α := Unit × ((Bool × Unit × Unit) × (List Int) × Unit)) (X3W k (Fm.mk f.l[i].k f.l[i].n f.l[i].t f.l[i].l) (true, (), ()) l') fun r25 =>
      some (Step.next (R := (Unit × Unit) × ((Bool × Unit × Unit) × (List Int) × Unit)) (((), f.l, (f.l.length : Int), IntKind.wrap .i64 ((i : Int) + 1), ()), ((r25.2.1.1, (), ()), r25.2.2.1, ())))) =
      some (.next (((), f.l, (f.l.length : Int), ((i + 1 : Nat) : Int), ()), ((true, (), ()), l ++ X0f (40 :: wrL true (f.l.take (i + 1))), ()))) \/
     (Option.bind (α := Unit × ((Bool × Unit × Unit) × (List Int) × Unit)) (X3W k (Fm.mk f.l[i].k f.l[i].n f.l[i].t f.l[i].l) (true, (), ()) l') fun r25 =>
      some (Step.next (R := (Unit × Unit) × ((Bool × Unit × Unit) × (List Int) × Unit)) (((), f.l, (f.l.length : Int), IntKind.wrap .i64 ((i : Int) + 1), ()), ((r25.2.1.1, (), ()), r25.2.2.1, ())))) = none /\ k + 1 < f.big := by
    intro l' hl' he;rw [show Fm.mk f.l[i].k f.l[i].n f.l[i].t f.l[i].l = f.l[i] from Fm.eta_eq _, wrapN (show i < 4611686018427387904 by omega)];rcases Y6N k f.l[i] true l' hgf (by omega) hl' with h | ⟨h, hn⟩
    ·rw [h, he]; exact .inl rfl
    rw [h]; exact .inr ⟨rfl, by omega⟩
   have hcl : (l ++ X0f (40 :: wrL true (f.l.take i))).length = l.length + 1 + (wrL true (f.l.take i)).length := by
    rw [List.length_append, X0J, List.length_cons]; omega
   have htk := Y6K f.l hi
   by_cases hi0 : i = 0
   ·subst hi0;have e3 : decide (((0 : Nat) : Int) > 0) = false := rfl;rw [e3, cond_false];simp only [Option.bind_some]
    rcases step (l ++ X0f (40 :: wrL true (f.l.take 0))) (by rw [hcl]; omega) (by
     rw [List.append_assoc, X0k]
     congr 2
     rw [htk];simp) with h | h
    ·rw [h]; exact .inl ⟨rfl, trivial⟩
    rw [h.1]; exact .inr (.inr ⟨rfl, h.2⟩)
   have e3 : decide ((i : Int) > 0) = true := decide_eq_true (by omega);rw [e3, cond_true, X1A (by rw [hcl]; omega)];simp only [Option.bind_some]
   rcases step (l ++ X0f (40 :: wrL true (f.l.take i)) ++ [32]) (by rw [List.length_append, hcl]; simp only [List.length_cons, List.length_nil]; omega) (by
    rw [htk, if_neg hi0];rw [show (40 :: (wrL true (f.l.take i) ++ ([32] ++ wr f.l[i])) : List UInt8) = (40 :: wrL true (f.l.take i)) ++ ([32] ++ wr f.l[i]) from rfl, <- X0k, <- X0k];simp only [List.append_assoc];rfl) with h | h
   ·rw [h]; exact .inl ⟨rfl, trivial⟩
   rw [h.1]; exact .inr (.inr ⟨rfl, h.2⟩)
  have e1 : decide ((f.l.length : Int) < (f.l.length : Int)) = false := by simp
  refine ⟨_, by simp only [e1, cond_false]; rfl, ?_⟩;simp only [List.take_length];rw [X1A (by rw [List.length_append, X0J, List.length_cons]; omega)];refine .of ?_;simp only [Option.bind_some];rw [show (40 :: (wrL true f.l ++ [41]) : List UInt8) = (40 :: wrL true f.l) ++ [41] from rfl, <- X0k, <- List.append_assoc];rfl
theorem Z0O {f : Fm} {b : Bool} {l : List Int} (hf : X0w f = true) (hb : f.big <= 4611686018427387000) (hl : l.length + 4101 * f.size <= 100000000000) : Y4d f (b, (), ()) l = some ((), ((true, (), ()), l ++ X0f (wr f), ())) := X4g (b := f.big) fun k => Y6N k f b l hf hb hl
theorem Y3U (b : List UInt8) : strOf (X0f b) = b := by
 unfold strOf X0f;rw [List.map_map];refine List.map_id'' (fun c => ?_) b;simp
theorem Z3Q (c : UInt8) (n : Nat) (h : n < 256) : decide (((c.toNat : Nat) : Int) = ((n : Nat) : Int)) = decide (c = UInt8.ofNat n) := X0u c n h
theorem Y7F {c : UInt8} (h1 : c ≠ 10) (h2 : c ≠ 34) (h3 : c ≠ 92) : repB c.toNat = none := by
 have key : ∀ d : UInt8, c ≠ d -> Nat.beq c.toNat d.toNat = false := fun d h => by
  cases hb : Nat.beq c.toNat d.toNat with
  | false => rfl
  | true => exact absurd (UInt8.toNat_inj.1 (Nat.eq_of_beq_eq_true hb)) h
 have k1 : Nat.beq c.toNat 10 = false := key 10 h1;have k2 : Nat.beq c.toNat 34 = false := key 34 h2;have k3 : Nat.beq c.toNat 92 = false := key 92 h3;simp [repB, k1, k2, k3]
theorem Y6z : ∀ k, ∀ (f : Fm), X0w f = true -> f.big <= 4611686018427387000 -> 4101 * f.size <= 100000000000 -> Up (k < f.big) (X6j k f) (wr f)
 | 0 => fun f hf hb hl => .inr ⟨by unfold X6j; rfl, by have := X2s f; omega⟩
 | k + 1 => fun f hf hb hl => by
  have hlen := X2N f hf;have hw := Z4L f;have hf' := hf;rw [X1Y] at hf';simp only [Bool.and_eq_true] at hf';obtain ⟨h1, h2⟩ := hf';unfold X1J at h1;unfold X6j
  by_cases c0 : f.k = 0
  ·rw [if_pos c0] at h1 hw;simp only [Bool.and_eq_true, decide_eq_true_eq] at h1;rw [decide_eq_true c0, cond_true, Y3j h1.2.2.1 h1.2.2.2, hw];exact .of rfl
  rw [if_neg c0] at h1 hw;rw [decide_eq_false c0, cond_false]
  by_cases c1 : f.k = 1
  ·rw [if_pos c1] at h1 hw;rw [decide_eq_true c1, cond_true, hw];exact .of rfl
  rw [if_neg c1] at h1 hw;rw [decide_eq_false c1, cond_false]
  by_cases c2 : f.k = 2
  ·rw [if_pos c2] at h1 hw;simp only [Bool.and_eq_true, decide_eq_true_eq] at h1;rw [decide_eq_true c2, cond_true];have ht := h1.1;refine Up.bind (v := Step.done (wr f)) ?_ (.of rfl);rw [hw];generalize f.t = t at ht;refine X2x (A := Step (((Int × Int × List UInt8 × (List Fm) × Unit) × Unit) × (Unit)) (List UInt8)) (fun i => (((f.k, f.n, t, f.l, ()), (), (i : Int), ()), (X0f (escS (t.take i)), ()))) (fun i => Step.done (34 :: (escS t ++ [34]))) t.length (fun i hi => ?_) ?_
   ·have e1 : decide ((i : Int) < (t.length : Int)) = true := by simp [hi]
    have e2 : ixOK (i : Int) t.length = true := X0e.2 (by omega);have hle := Y4J (t.take i);rw [List.length_take, Nat.min_eq_left (by omega)] at hle;have hes := Y28 t i t[i] (List.getElem?_eq_getElem hi);have d1 : decide ((X0f (escS (t.take i))).length + 2 <= 140737488355328) = true := decide_eq_true (by rw [X0J]; omega);have d2 : decide ((X0f (escS (t.take i))).length + 1 <= 140737488355328) = true := decide_eq_true (by rw [X0J]; omega);have d3 : decide (((t[i].toNat : Nat) : Int) = 10) = decide (t[i] = UInt8.ofNat 10) := Z3Q t[i] 10 (by omega);have d4 : decide (((t[i].toNat : Nat) : Int) = 34) = decide (t[i] = UInt8.ofNat 34) := Z3Q t[i] 34 (by omega);have d5 : decide (((t[i].toNat : Nat) : Int) = 92) = decide (t[i] = UInt8.ofNat 92) := Z3Q t[i] 92 (by omega);refine .inl ⟨?_, rfl⟩;simp only [e1, e2, cond_true, X2d hi, List.length_cons, List.length_nil, Nat.zero_add, Nat.mul_one, wrapN (show i < 4611686018427387904 by omega)];rw [hes];generalize t[i] = c at d3 d4 d5;generalize escS (t.take i) = p at d1 d2;rw [d3, d4, d5]
    by_cases x1 : c = 10
    ·subst x1;simp only [show decide ((10 : UInt8) = UInt8.ofNat 10) = true from rfl, cond_true, Option.bind_some, d1, wrapN (show i < 4611686018427387904 by omega)];rw [<- X0k];rfl
    rw [decide_eq_false (show ¬ c = UInt8.ofNat 10 from x1)]
    by_cases x2 : c = 34
    ·subst x2;simp only [show decide ((34 : UInt8) = UInt8.ofNat 34) = true from rfl, cond_true, cond_false, Option.bind_some, d1, wrapN (show i < 4611686018427387904 by omega)];rw [<- X0k];rfl
    rw [decide_eq_false (show ¬ c = UInt8.ofNat 34 from x2)]
    by_cases x3 : c = 92
    ·subst x3;simp only [show decide ((92 : UInt8) = UInt8.ofNat 92) = true from rfl, cond_true, cond_false, Option.bind_some, d1, wrapN (show i < 4611686018427387904 by omega)];rw [<- X0k];rfl
    rw [decide_eq_false (show ¬ c = UInt8.ofNat 92 from x3), Y7F x1 x2 x3];simp only [cond_true, cond_false, Option.bind_some, d2, wrapN (show i < 4611686018427387904 by omega)];rw [<- X0k];rfl
   have e1 : decide ((t.length : Int) < (t.length : Int)) = false := by simp
   refine ⟨_, by simp only [e1, cond_false]; rfl, ?_⟩;have hle := Y4J t;simp only [List.take_length, Y3U, List.length_cons, List.length_nil, List.length_append];rw [decide_eq_true (by omega), decide_eq_true (by omega)];exact .of rfl
  rw [if_neg c2] at h1 hw;rw [decide_eq_false c2, cond_false];have c3 : f.k = 3 := by
   by_cases c3 : f.k = 3
   ·exact c3
   rw [if_neg c3] at h1; cases h1
  have hsz : f.size = 1 + Fm.sizeL f.l := by rw [Fm.size_eq, if_pos c3]
  have hbk := X2h f;have hll := X07 f.l;rw [hw] at hlen ⊢;simp only [List.length_cons, List.length_append, List.length_nil] at hlen;refine Up.bind (v := _) (.of rfl) ?_;simp only;refine X2x (A := List UInt8) (fun i => (((f.k, f.n, f.t, f.l, ()), (), (i : Int), ()), (X0f (40 :: wrL true (f.l.take i)), ()))) (fun i => 40 :: (wrL true f.l ++ [41])) f.l.length (fun i hi => ?_) ?_
  ·have e1 : decide ((i : Int) < (f.l.length : Int)) = true := by simp [hi]
   have e2 : ixOK (i : Int) f.l.length = true := X0e.2 (by omega);have hg := X2r (List.getElem_mem hi);have hgf := X2I h2 _ (List.getElem_mem hi);have hs1 := X3i f.l hi;have hs2 := X1T f.l (i + 1);have hw1 := Y5I (f.l.take i) true (X62 h2 i);have hgl := X2N _ hgf;have htk := Y6K f.l hi;simp only [e1, e2, cond_true, Int.toNat_natCast, X09 hi, Fm.eta_eq, List.length_cons, List.length_nil, Nat.zero_add, Nat.mul_one];rcases Y6z k f.l[i] hgf (by omega) (by omega) with h | ⟨h, hn⟩
   ·refine .inl ⟨?_, trivial⟩
    by_cases hi0 : i = 0
    ·subst hi0;have e3 : decide (((0 : Nat) : Int) > 0) = false := rfl;simp only [e2, e3, cond_false, cond_true, Option.bind_some, Int.toNat_natCast, X09 hi, Fm.eta_eq, h, List.length_map];rw [decide_eq_true (by rw [X0J, List.length_cons]; omega), wrapN (show 0 < 4611686018427387904 by omega), htk];simp only [cond_true, if_true, List.nil_append];rw [show (40 :: (wrL true (f.l.take 0) ++ wr f.l[0]) : List UInt8) = (40 :: wrL true (f.l.take 0)) ++ wr f.l[0] from rfl, <- X0k];rfl
    have e3 : decide ((i : Int) > 0) = true := decide_eq_true (by omega);have e4 : decide ((X0f (40 :: wrL true (f.l.take i))).length + 1 <= 140737488355328) = true := decide_eq_true (by rw [X0J, List.length_cons]; omega);simp only [e2, e3, e4, cond_true, Option.bind_some, Int.toNat_natCast, X09 hi, Fm.eta_eq, h, List.length_map];rw [decide_eq_true (by rw [List.length_append, X0J, List.length_cons]; simp only [List.length_cons, List.length_nil]; omega), wrapN (show i < 4611686018427387904 by omega), htk, if_neg hi0];simp only [cond_true];rw [show (40 :: (wrL true (f.l.take i) ++ ([32] ++ wr f.l[i])) : List UInt8) = (40 :: wrL true (f.l.take i)) ++ ([32] ++ wr f.l[i]) from rfl, <- X0k, <- X0k, <- List.append_assoc];rfl
   refine .inr (.inr ⟨?_, by omega⟩)
   by_cases hi0 : i = 0
   ·subst hi0;have e3 : decide (((0 : Nat) : Int) > 0) = false := rfl;simp only [e2, e3, cond_false, cond_true, Option.bind_some, Option.bind_none, Int.toNat_natCast, X09 hi, Fm.eta_eq, h]
   have e3 : decide ((i : Int) > 0) = true := decide_eq_true (by omega);have e4 : decide ((X0f (40 :: wrL true (f.l.take i))).length + 1 <= 140737488355328) = true := decide_eq_true (by rw [X0J, List.length_cons]; omega);simp only [e2, e3, e4, cond_true, Option.bind_some, Option.bind_none, Int.toNat_natCast, X09 hi, Fm.eta_eq, h]
  have e1 : decide ((f.l.length : Int) < (f.l.length : Int)) = false := by simp
  refine ⟨_, by simp only [e1, cond_false]; rfl, ?_⟩;simp only [List.take_length, List.length_cons, List.length_nil, Nat.zero_add, Nat.mul_one];rw [decide_eq_true (by rw [X0J, List.length_cons]; omega), cond_true];refine .of ?_;rw [show (X0f (40 :: wrL true f.l) ++ [41]) = X0f (40 :: (wrL true f.l ++ [41])) by
   rw [show (40 :: (wrL true f.l ++ [41]) : List UInt8) = (40 :: wrL true f.l) ++ [41] from rfl, <- X0k];rfl, Y3U]
theorem Z0n {f : Fm} (hf : X0w f = true) (hb : f.big <= 4611686018427387000) (hl : 4101 * f.size <= 100000000000) : Y4b f = some (wr f) := X4g (b := f.big) fun k => Y6z k f hf hb hl
def wrV (f : Fm) : List UInt8 := if X0H f = true then wr f else []
theorem X6L (f : Fm) : X0H f = (X0w f && (decide ((f.size : Int) <= 20000) && decide ((f.depth : Int) <= 100))) := (Y0O f 20000 100 (by omega) (by omega)).1
theorem X0E {f : Fm} (h : X0H f = true) : X0w f = true /\ f.size <= 20000 := by
 rw [X6L] at h;simp only [Bool.and_eq_true, decide_eq_true_eq] at h;exact ⟨h.1, by omega⟩
theorem Y0x {f : Fm} (hb : f.big <= 4611686018427387000) : X5A f = some (wrV f) := by
 unfold X5A wrV;simp only [Fm.eta_eq, X6G hb, Option.bind_some]
 by_cases hv : X0H f = true
 ·obtain ⟨h1, h2⟩ := X0E hv;rw [hv, if_pos rfl];simp only [Bool.not_true, cond_false];rw [Z0O h1 hb (by simp only [List.length_nil]; omega)];simp only [Option.bind_some, List.nil_append, X4H, Option.map_some]
 rw [if_neg hv, eq_false_of_ne_true hv];rfl
theorem X66 {f : Fm} (hb : f.big <= 4611686018427387000) : X20 f = some (wrV f) := by
 unfold X20 wrV;simp only [Fm.eta_eq, X65 hb, Option.bind_some]
 by_cases hv : X0H f = true
 ·obtain ⟨h1, h2⟩ := X0E hv;rw [hv, if_pos rfl];simp only [Bool.not_true, cond_false];rw [Z0n h1 hb (by omega)];rfl
 rw [if_neg hv, eq_false_of_ne_true hv];rfl
def hdW (f : Fm) : List UInt8 := match (if f.k = 3 then f.l else []) with | [] => [] | g :: _ => if g.k = 1 then g.t else []
def X3Q (x0 : List UInt8) : Option (Int × Int × Unit) := (
 cond ((ixOK 0 (X12 (x0) ([45])).length) || !(decide (((X12 (x0) ([45])).length : Int) > 1))) (cond (cond (cond (decide (((X12 (x0) ([45])).length : Int) > 1)) (decide (X0b (X12 (x0) ([45])) 0 = 48)) false) true (decide (x0 = [45, 48]))) (some (0, 4, ())) (Option.bind (α := Int × Bool × Unit) (Y9m (x0)) fun r1 => (
 cond (cond (cond (!r1.2.1) true (decide (r1.1 < (-1152921504606846976)))) true (decide (r1.1 > 1152921504606846976))) (some (0, 5, ())) (some (r1.1, 0, ()))))) none)
def Y8e : An := .leaf
def Y2h : Sig := .n [(.d .str)] (.tup [(.d (.int .i64)), (.d (.int .i64))]) (fun x => X3Q x.1)
theorem Y2i : SigOK CX 125 Y2h := X0i (l := [(129, X6W), (143, X7Z)]) ⟨X8j, Y2a, trivial⟩ (hint := fun _ => {}) (an := Y8e) (fun x => by kernel_rfl)
def Y0W (o0 : (List UInt8) × Int × Unit) : Option (((Int × Fm) × Bool × Int × Unit) × ((List UInt8 × Int × Unit) × Unit)) := (
 Option.bind (α := (Unit) × ((List UInt8 × Int × Unit) × Unit)) (X9K (o0.1, o0.2.1, ())) fun r1 => (
 cond (decide (r1.2.1.2.1 = (r1.2.1.1.length : Int))) (some (((0, (Fm.mk 0 0 ([]) ([] : List Fm))), false, 0, ()), ((r1.2.1.1, r1.2.1.2.1, ()), ()))) (cond (ixOK r1.2.1.2.1 r1.2.1.1.length) (cond (cond (decide (X0b r1.2.1.1 r1.2.1.2.1 = 40)) true (decide (X0b r1.2.1.1 r1.2.1.2.1 = 41))) (some (((X0b r1.2.1.1 r1.2.1.2.1, (Fm.mk 0 0 ([]) ([] : List Fm))), true, 0, ()), ((r1.2.1.1, IntKind.wrap .i64 (r1.2.1.2.1 + 1), ()), ()))) (cond (decide (X0b r1.2.1.1 r1.2.1.2.1 = 34)) (Option.bind (α := (List UInt8 × Int × Unit) × ((List UInt8 × Int × Unit) × Unit)) (Y5O (r1.2.1.1, r1.2.1.2.1, ())) fun r2 => (
 some (((0, (Fm.mk 2 0 r2.1.1 ([] : List Fm))), true, r2.1.2.1, ()), ((r2.2.1.1, r2.2.1.2.1, ()), ())))) (Option.bind (α := Bool) (X1r (X0b r1.2.1.1 r1.2.1.2.1)) fun r3 => (
 cond r3 (some (((0, (Fm.mk 0 0 ([]) ([] : List Fm))), true, 4, ()), ((r1.2.1.1, r1.2.1.2.1, ()), ()))) (Option.bind (α := (Unit × Unit × Int × Unit) × ((List UInt8 × Int × Unit) × (Int × Int × Int × List UInt8 × Unit × Unit) × Unit))
 (X0v (L := (Unit × Unit × Int × Unit) × ((List UInt8 × Int × Unit) × (Int × Int × Int × List UInt8 × Unit × Unit) × Unit)) (R := (Unit × Unit × Int × Unit) × ((List UInt8 × Int × Unit) × (Int × Int × Int × List UInt8 × Unit × Unit) × Unit)) (fun d4 => (
 let c5 := d4.2.1.1
 let c6 := d4.2.1.2.1
 let v8_7 := d4.1.2.2.1
 cond ((ixOK c6 c5.length) || !(decide (c6 < (c5.length : Int)))) (Option.bind (α := Bool) (cond (decide (c6 < (c5.length : Int))) (X1r (X0b c5 c6)) (some false)) fun r8 => (
 cond (cond (decide (c6 < (c5.length : Int))) (!r8) false) (some (Step.next (((), (), v8_7, ()), ((c5, IntKind.wrap .i64 (c6 + 1), ()), (d4.2.2.1.1, d4.2.2.1.2.1, d4.2.2.1.2.2.1, d4.2.2.1.2.2.2.1, (), ()), ())))) (some (Step.done (((), (), v8_7, ()), ((c5, c6, ()), (d4.2.2.1.1, d4.2.2.1.2.1, d4.2.2.1.2.2.1, d4.2.2.1.2.2.2.1, (), ()), ())))))) none)) (((), (), r1.2.1.2.1, ()), ((r1.2.1.1, r1.2.1.2.1, ()), (0, 0, 0, [], (), ()), ()))) fun d9 => (
 let c10 := d9.2.1.1
 let c11 := d9.2.1.2.1
 let v8_12 := d9.1.2.2.1
 cond (slOK v8_12 c11 c10.length) (Option.bind (α := Bool) (X1P ((c10.drop v8_12.toNat).take (c11.toNat - v8_12.toNat))) fun r13 => (
 cond r13 (Option.bind (α := Int × Int × Unit) (X3Q ((c10.drop v8_12.toNat).take (c11.toNat - v8_12.toNat))) fun r14 => (
 some (((0, (Fm.mk 0 r14.1 ([]) ([] : List Fm))), true, r14.2.1, ()), ((c10, c11, ()), ())))) (cond (decide ((((c10.drop v8_12.toNat).take (c11.toNat - v8_12.toNat)).length : Int) > 30)) (some (((d9.2.2.1.1, (Fm.mk d9.2.2.1.2.1 d9.2.2.1.2.2.1 d9.2.2.1.2.2.2.1 ([] : List Fm))), true, 4, ()), ((c10, c11, ()), ()))) (some (((0, (Fm.mk 1 0 ((c10.drop v8_12.toNat).take (c11.toNat - v8_12.toNat)) ([] : List Fm))), true, 0, ()), ((c10, c11, ()), ())))))) none)))))) none)))
def Z3a : An := .seq (.leaf) (.seq (.leaf) (.seq (.leaf) (.seq (.leaf) (.seq (.leaf) (.join false { env := [(0, (.ref 0 0)), (2, (.ref 1 0)), (8, (.d (.int .i64)))], objs := [(true, .cells 110 [(.d .str), (.d (.int .i64))]), (false, .cells 112 [(.d (.int .u8)), (.d (.int .i64)), (.d (.int .i64)), (.d .str), (.c (.base (.slice none 0 0)))])] } (.block (.loop { env := [(0, (.ref 0 0)), (2, (.ref 1 0)), (8, (.d (.int .i64)))], objs := [(true, .cells 110 [(.d .str), (.d (.int .i64))]), (false, .cells 112 [(.d (.int .u8)), (.d (.int .i64)), (.d (.int .i64)), (.d .str), (.c (.base (.slice none 0 0)))])] } (.leaf))) (.leaf))))))
def Z3o : Nat -> RH := fun r => match r with
 | 1 => { H := { ac := [13] } }
 | 9 => { H := { ac := [55] } }
 | _ => {}
def Y8M : Sig := .o { pre := [(false, .cells 110 [(.d .str), (.d (.int .i64))])], args := [(.ref 0 0)], post := [(true, .cells 110 [(.d .str), (.d (.int .i64))])], res := (.tup [(.d (.pr (.int .u8) .form)), (.d .bool), (.d (.int .i64))]), f := fun x => Y0W x.2.1 }
theorem Y61 : SigOK CX 86 Y8M := X1h (l := [(123, Z2P), (124, Z2Q), (95, X5G), (94, X76), (125, Y2h)]) ⟨Y8X, Y8Z, X31, X6Q, Y2i, trivial⟩ (hint := Z3o) (an := Z3a) (by kernel_rfl) (fun x => by kernel_rfl)
def X4A (x0 : Int) : Option (Bool) := (
 some (cond (cond (cond (cond (cond (decide (x0 >= 33)) (decide (x0 <= 126)) false) (!decide (x0 = 40)) false) (!decide (x0 = 41)) false) (!decide (x0 = 34)) false) (!decide (x0 = 59)) false))
def Y6X : An := .leaf
def X6o : Sig := .n [(.d (.int .u8))] (.d .bool) (fun x => X4A x.1)
theorem X5I : SigOK CX 83 X6o := X0i (l := []) trivial (hint := fun _ => {}) (an := Y6X) (fun x => by kernel_rfl)
def X7O (x0 : List UInt8) : Option (Bool) := (
 Option.bind (α := (List UInt8 × Unit) × (Unit))
 (cond ((ixOK 0 x0.length) || !(decide ((x0.length : Int) > 1))) (cond (cond (decide ((x0.length : Int) > 1)) (decide (X0b x0 0 = 45)) false) (cond (slOK 1 (x0.length : Int) x0.length) (some (((x0.drop (1 : Int).toNat).take ((x0.length : Int).toNat - (1 : Int).toNat), ()), ())) none) (some ((x0, ()), ()))) none) fun d1 => (
 let v0_2 := d1.1.1
 Option.bind (α := Step ((List UInt8 × Unit) × (Unit)) (Bool))
 (X0v (L := (List UInt8 × Int × Unit) × (Unit)) (R := Step ((List UInt8 × Unit) × (Unit)) (Bool)) (fun d3 => (
 let v0_4 := d3.1.1
 let v3_5 := d3.1.2.1
 cond (decide (v3_5 < (v0_4.length : Int))) (cond (ixOK v3_5 v0_4.length) (cond ((ixOK v3_5 v0_4.length) || !(!(decide (X0b v0_4 v3_5 < 48)))) (cond (cond (decide (X0b v0_4 v3_5 < 48)) true (decide (X0b v0_4 v3_5 > 57))) (some (Step.done (Step.done false))) (some (Step.next ((v0_4, IntKind.wrap .i64 (v3_5 + 1), ()), ())))) none) none) (some (Step.done (Step.next ((v0_4, ()), ())))))) ((v0_2, 0, ()), ())) fun qd6 => match qd6 with
 | .next d6 => (
 let v0_7 := d6.1.1
 some (!decide (v0_7 = [])))
 | .done r => some r))
def Y8i : An := .seq (.leaf) (.join false ⟨[(0, (.d .str))], []⟩ (.leaf) (.join true ⟨[(0, (.d .str))], []⟩ (.seq (.leaf) (.block (.loop ⟨[(0, (.d .str)), (3, (.d (.int .i64)))], []⟩ (.leaf)))) (.leaf)))
def Y2m : Sig := .n [(.d .str)] (.d .bool) (fun x => X7O x.1)
theorem Y2n : SigOK CX 106 Y2m := X0i (l := []) trivial (hint := fun _ => {}) (an := Y8i) (fun x => by kernel_rfl)
def X5B (x0 : List UInt8) : Option (Int × Bool × Bool × Unit) := (
 Option.bind (α := (List UInt8 × Bool × Unit) × (Unit))
 (cond (ixOK 0 x0.length) (cond (decide (X0b x0 0 = 45)) (cond (slOK 1 (x0.length : Int) x0.length) (some (((x0.drop (1 : Int).toNat).take ((x0.length : Int).toNat - (1 : Int).toNat), true, ()), ())) none) (some ((x0, false, ()), ()))) none) fun d1 => (
 let v5_2 := d1.1.1
 let v6_3 := d1.1.2.1
 cond (ixOK 0 v5_2.length) (cond (cond (decide (X0b v5_2 0 = 48)) (cond (decide ((v5_2.length : Int) > 1)) true v6_3) false) (some (0, false, true, ())) (Option.bind (α := Step ((Bool × Int × Unit) × (Unit)) (Int × Bool × Bool × Unit))
 (X0v (L := (List UInt8 × Bool × Int × Int × Unit) × (Unit)) (R := Step ((Bool × Int × Unit) × (Unit)) (Int × Bool × Bool × Unit)) (fun d4 => (
 let v5_5 := d4.1.1
 let v6_6 := d4.1.2.1
 let v7_7 := d4.1.2.2.1
 let v8_8 := d4.1.2.2.2.1
 cond (decide (v8_8 < (v5_5.length : Int))) (cond (decide (v7_7 > 115292150460684697)) (some (Step.done (Step.done (0, true, false, ())))) (cond (ixOK v8_8 v5_5.length) (some (Step.next ((v5_5, v6_6, IntKind.wrap .i64 (IntKind.wrap .i64 (10 * v7_7) + IntKind.wrap .i64 (IntKind.wrap .u8 (X0b v5_5 v8_8 - 48))), IntKind.wrap .i64 (v8_8 + 1), ()), ()))) none)) (some (Step.done (Step.next ((v6_6, v7_7, ()), ())))))) ((v5_2, v6_3, 0, 0, ()), ())) fun qd9 => match qd9 with
 | .next d9 => (
 let v6_10 := d9.1.1
 let v7_11 := d9.1.2.1
 cond (decide (v7_11 > 1152921504606846976)) (some (0, true, false, ())) (Option.bind (α := (Int × Unit) × (Unit))
 (cond v6_10 (some ((IntKind.wrap .i64 (0 - v7_11), ()), ())) (some ((v7_11, ()), ()))) fun d12 => (
 let v7_13 := d12.1.1
 some (v7_13, true, true, ()))))
 | .done r => some r)) none))
def Y8n : An := .seq (.leaf) (.seq (.leaf) (.join false ⟨[(5, (.d .str)), (6, (.d .bool))], []⟩ (.leaf) (.seq (.leaf) (.seq (.leaf) (.join true ⟨[(6, (.d .bool)), (7, (.d (.int .i64)))], []⟩ (.seq (.leaf) (.block (.loop ⟨[(5, (.d .str)), (6, (.d .bool)), (7, (.d (.int .i64))), (8, (.d (.int .i64)))], []⟩ (.leaf)))) (.seq (.leaf) (.join false ⟨[(7, (.d (.int .i64)))], []⟩ (.leaf) (.leaf))))))))
def Y2x : Sig := .n [(.d .str)] (.tup [(.d (.int .i64)), (.d .bool), (.d .bool)]) (fun x => X5B x.1)
theorem Y2y : SigOK CX 121 Y2x := X0i (l := []) trivial (hint := fun _ => {}) (an := Y8n) (fun x => by kernel_rfl)
def Y37 (x0 : List UInt8) : Option (Fm) := (
 some (Fm.mk 1 0 x0 ([] : List Fm)))
def Z3k : An := .leaf
def Y8V : Sig := .n [(.d .str)] (.d .form) (fun x => Y37 x.1)
theorem Y69 : SigOK CX 120 Y8V := X0i (l := []) trivial (hint := fun _ => {}) (an := Z3k) (fun x => by kernel_rfl)
def Y19 (x0 : Int) : Option (Fm) := (
 some (Fm.mk 0 x0 ([]) ([] : List Fm)))
def Z5p : An := .leaf
def Z2N : Sig := .n [(.d (.int .i64))] (.d .form) (fun x => Y19 x.1)
theorem Y8R : SigOK CX 122 Z2N := X0i (l := []) trivial (hint := fun _ => {}) (an := Z5p) (fun x => by kernel_rfl)
def Y0X (x0 : List UInt8) : Option ((List Fm) × Int × Unit) := (
 X0v (L := (Unit × Unit × Unit) × ((List UInt8 × Int × Unit) × (List (List Fm)) × Unit)) (R := (List Fm) × Int × Unit) (fun d1 => (
 let c2 := d1.2.1.1
 let c3 := d1.2.1.2.1
 let l4 := d1.2.2.1
 Option.bind (α := ((Int × Fm) × Bool × Int × Unit) × ((List UInt8 × Int × Unit) × Unit)) (Y0W (c2, c3, ())) fun r5 => (
 Option.bind (α := Step ((Unit × Unit × (Int × Int × Int × List UInt8 × (List Fm) × Unit) × Unit) × ((List UInt8 × Int × Unit) × (List (List Fm)) × Unit)) (Step ((Unit × Unit × Unit) × ((List UInt8 × Int × Unit) × (List (List Fm)) × Unit)) ((List Fm) × Int × Unit)))
 (cond (!decide (r5.1.2.2.1 = 0)) (some (Step.done (Step.done (([] : List Fm), r5.1.2.2.1, ())))) (cond (cond (!r5.1.2.1) (decide (IntKind.wrap .i64 ((l4.length : Int) - 1) > 0)) false) (some (Step.done (Step.done (([] : List Fm), 12, ())))) (cond (!r5.1.2.1) (cond (ixOK 0 l4.length) (cond (decide ((0 : Int).toNat < l4.length)) (some (Step.done (Step.done ((l4.getD ((0 : Int).toNat) ([] : List Fm)), 0, ())))) none) none) (cond (decide (r5.1.1.1 = 40)) (cond (decide ((l4.length + 1) * 24 <= 140737488355328)) (some (Step.next (((), (), (r5.1.1.1, r5.1.1.2.k, r5.1.1.2.n, r5.1.1.2.t, r5.1.1.2.l, ()), ()), ((r5.2.1.1, r5.2.1.2.1, ()), l4 ++ [([] : List Fm)], ())))) none) (cond (cond (decide (r5.1.1.1 = 41)) (decide (IntKind.wrap .i64 ((l4.length : Int) - 1) = 0)) false) (some (Step.done (Step.done (([] : List Fm), 4, ())))) (cond (decide (r5.1.1.1 = 41)) (cond (ixOK (IntKind.wrap .i64 ((l4.length : Int) - 1)) l4.length) (cond (decide ((IntKind.wrap .i64 ((l4.length : Int) - 1)).toNat < l4.length)) (cond (hiOK (IntKind.wrap .i64 ((l4.length : Int) - 1)) l4.length) (mgC (cond (ixOK (IntKind.wrap .i64 (IntKind.wrap .i64 ((l4.length : Int) - 1) - 1)) ((IntKind.wrap .i64 ((l4.length : Int) - 1)).toNat)) (cond (decide ((IntKind.wrap .i64 (IntKind.wrap .i64 ((l4.length : Int) - 1) - 1)).toNat < (l4.take (IntKind.wrap .i64 ((l4.length : Int) - 1)).toNat).length)) (cond (decide ((IntKind.wrap .i64 (IntKind.wrap .i64 ((l4.length : Int) - 1) - 1)).toNat < (l4.take (IntKind.wrap .i64 ((l4.length : Int) - 1)).toNat).length) && decide ((((l4.take (IntKind.wrap .i64 ((l4.length : Int) - 1)).toNat).getD ((IntKind.wrap .i64 (IntKind.wrap .i64 ((l4.length : Int) - 1) - 1)).toNat) ([] : List Fm)).length + ([(Fm.mk 3 0 ([]) (l4.getD ((IntKind.wrap .i64 ((l4.length : Int) - 1)).toNat) ([] : List Fm)))]).length) * 56 <= 140737488355328)) (cond (ixOK (IntKind.wrap .i64 (IntKind.wrap .i64 ((l4.length : Int) - 1) - 1)) ((IntKind.wrap .i64 ((l4.length : Int) - 1)).toNat)) (cond (decide ((IntKind.wrap .i64 (IntKind.wrap .i64 ((l4.length : Int) - 1) - 1)).toNat = (IntKind.wrap .i64 (IntKind.wrap .i64 ((l4.length : Int) - 1) - 1)).toNat) && decide ((IntKind.wrap .i64 (IntKind.wrap .i64 ((l4.length : Int) - 1) - 1)).toNat < (l4.take (IntKind.wrap .i64 ((l4.length : Int) - 1)).toNat).length)) (some (Step.next (((), (), (r5.1.1.1, r5.1.1.2.k, r5.1.1.2.n, r5.1.1.2.t, r5.1.1.2.l, ()), ()), ((r5.2.1.1, r5.2.1.2.1, ()), (l4.take (IntKind.wrap .i64 ((l4.length : Int) - 1)).toNat).set ((IntKind.wrap .i64 (IntKind.wrap .i64 ((l4.length : Int) - 1) - 1)).toNat) (((l4.take (IntKind.wrap .i64 ((l4.length : Int) - 1)).toNat).getD ((IntKind.wrap .i64 (IntKind.wrap .i64 ((l4.length : Int) - 1) - 1)).toNat) ([] : List Fm)) ++ ([(Fm.mk 3 0 ([]) (l4.getD ((IntKind.wrap .i64 ((l4.length : Int) - 1)).toNat) ([] : List Fm)))])), ())))) none) none) none) none) none) (cond (ixOK (IntKind.wrap .i64 (IntKind.wrap .i64 ((l4.length : Int) - 1) - 1)) ((IntKind.wrap .i64 ((l4.length : Int) - 1)).toNat)) (cond (decide ((IntKind.wrap .i64 (IntKind.wrap .i64 ((l4.length : Int) - 1) - 1)).toNat < (l4.take (IntKind.wrap .i64 ((l4.length : Int) - 1)).toNat).length)) (cond (decide ((IntKind.wrap .i64 (IntKind.wrap .i64 ((l4.length : Int) - 1) - 1)).toNat < (l4.take (IntKind.wrap .i64 ((l4.length : Int) - 1)).toNat).length) && decide ((((l4.take (IntKind.wrap .i64 ((l4.length : Int) - 1)).toNat).getD ((IntKind.wrap .i64 (IntKind.wrap .i64 ((l4.length : Int) - 1) - 1)).toNat) ([] : List Fm)).length + ([(Fm.mk 0 0 ([]) ([] : List Fm))]).length) * 56 <= 140737488355328)) (cond (ixOK (IntKind.wrap .i64 (IntKind.wrap .i64 ((l4.length : Int) - 1) - 1)) ((IntKind.wrap .i64 ((l4.length : Int) - 1)).toNat)) (cond (decide ((IntKind.wrap .i64 (IntKind.wrap .i64 ((l4.length : Int) - 1) - 1)).toNat = (IntKind.wrap .i64 (IntKind.wrap .i64 ((l4.length : Int) - 1) - 1)).toNat) && decide ((IntKind.wrap .i64 (IntKind.wrap .i64 ((l4.length : Int) - 1) - 1)).toNat < (l4.take (IntKind.wrap .i64 ((l4.length : Int) - 1)).toNat).length)) (cond (ixOK (((l4.take (IntKind.wrap .i64 ((l4.length : Int) - 1)).toNat).getD ((IntKind.wrap .i64 (IntKind.wrap .i64 ((l4.length : Int) - 1) - 1)).toNat) ([] : List Fm)).length : Int) (((l4.take (IntKind.wrap .i64 ((l4.length : Int) - 1)).toNat).getD ((IntKind.wrap .i64 (IntKind.wrap .i64 ((l4.length : Int) - 1) - 1)).toNat) ([] : List Fm)).length + ([(Fm.mk 0 0 ([]) ([] : List Fm))]).length)) (cond ((decide (((l4.take (IntKind.wrap .i64 ((l4.length : Int) - 1)).toNat).getD ((IntKind.wrap .i64 (IntKind.wrap .i64 ((l4.length : Int) - 1) - 1)).toNat) ([] : List Fm)).length <= (((l4.take (IntKind.wrap .i64 ((l4.length : Int) - 1)).toNat).getD ((IntKind.wrap .i64 (IntKind.wrap .i64 ((l4.length : Int) - 1) - 1)).toNat) ([] : List Fm)).length : Int).toNat) && decide ((((l4.take (IntKind.wrap .i64 ((l4.length : Int) - 1)).toNat).getD ((IntKind.wrap .i64 (IntKind.wrap .i64 ((l4.length : Int) - 1) - 1)).toNat) ([] : List Fm)).length : Int).toNat < ((l4.take (IntKind.wrap .i64 ((l4.length : Int) - 1)).toNat).getD ((IntKind.wrap .i64 (IntKind.wrap .i64 ((l4.length : Int) - 1) - 1)).toNat) ([] : List Fm)).length + ([(Fm.mk 0 0 ([]) ([] : List Fm))]).length)) && decide ((IntKind.wrap .i64 (IntKind.wrap .i64 ((l4.length : Int) - 1) - 1)).toNat < (l4.take (IntKind.wrap .i64 ((l4.length : Int) - 1)).toNat).length)) (some (Step.next (((), (), (r5.1.1.1, r5.1.1.2.k, r5.1.1.2.n, r5.1.1.2.t, r5.1.1.2.l, ()), ()), ((r5.2.1.1, r5.2.1.2.1, ()), (l4.take (IntKind.wrap .i64 ((l4.length : Int) - 1)).toNat).set ((IntKind.wrap .i64 (IntKind.wrap .i64 ((l4.length : Int) - 1) - 1)).toNat) (((l4.take (IntKind.wrap .i64 ((l4.length : Int) - 1)).toNat).getD ((IntKind.wrap .i64 (IntKind.wrap .i64 ((l4.length : Int) - 1) - 1)).toNat) ([] : List Fm)) ++ (([(Fm.mk 0 0 ([]) ([] : List Fm))]).set ((((l4.take (IntKind.wrap .i64 ((l4.length : Int) - 1)).toNat).getD ((IntKind.wrap .i64 (IntKind.wrap .i64 ((l4.length : Int) - 1) - 1)).toNat) ([] : List Fm)).length : Int).toNat - ((l4.take (IntKind.wrap .i64 ((l4.length : Int) - 1)).toNat).getD ((IntKind.wrap .i64 (IntKind.wrap .i64 ((l4.length : Int) - 1) - 1)).toNat) ([] : List Fm)).length) (Fm.mk 3 0 ([]) (l4.getD ((IntKind.wrap .i64 ((l4.length : Int) - 1)).toNat) ([] : List Fm))))), ())))) none) none) none) none) none) none) none)) none) none) none) (cond (ixOK (IntKind.wrap .i64 ((l4.length : Int) - 1)) l4.length) (cond (decide ((IntKind.wrap .i64 ((l4.length : Int) - 1)).toNat < l4.length)) (cond (decide ((IntKind.wrap .i64 ((l4.length : Int) - 1)).toNat < l4.length) && decide (((l4.getD ((IntKind.wrap .i64 ((l4.length : Int) - 1)).toNat) ([] : List Fm)).length + ([(Fm.mk 0 0 ([]) ([] : List Fm))]).length) * 56 <= 140737488355328)) (cond (ixOK ((l4.getD ((IntKind.wrap .i64 ((l4.length : Int) - 1)).toNat) ([] : List Fm)).length : Int) ((l4.getD ((IntKind.wrap .i64 ((l4.length : Int) - 1)).toNat) ([] : List Fm)).length + ([(Fm.mk 0 0 ([]) ([] : List Fm))]).length)) (cond (ixOK (IntKind.wrap .i64 ((l4.length : Int) - 1)) l4.length) (mgC (cond ((decide ((l4.getD ((IntKind.wrap .i64 ((l4.length : Int) - 1)).toNat) ([] : List Fm)).length <= ((l4.getD ((IntKind.wrap .i64 ((l4.length : Int) - 1)).toNat) ([] : List Fm)).length : Int).toNat) && decide (((l4.getD ((IntKind.wrap .i64 ((l4.length : Int) - 1)).toNat) ([] : List Fm)).length : Int).toNat < (l4.getD ((IntKind.wrap .i64 ((l4.length : Int) - 1)).toNat) ([] : List Fm)).length + ([(Fm.mk 0 0 ([]) ([] : List Fm))]).length)) && decide ((IntKind.wrap .i64 ((l4.length : Int) - 1)).toNat < l4.length)) (cond (decide ((IntKind.wrap .i64 ((l4.length : Int) - 1)).toNat = (IntKind.wrap .i64 ((l4.length : Int) - 1)).toNat) && decide ((IntKind.wrap .i64 ((l4.length : Int) - 1)).toNat < l4.length)) (some (Step.next (((), (), (r5.1.1.1, r5.1.1.2.k, r5.1.1.2.n, r5.1.1.2.t, r5.1.1.2.l, ()), ()), ((r5.2.1.1, r5.2.1.2.1, ()), l4.set ((IntKind.wrap .i64 ((l4.length : Int) - 1)).toNat) ((l4.getD ((IntKind.wrap .i64 ((l4.length : Int) - 1)).toNat) ([] : List Fm)) ++ (([(Fm.mk 0 0 ([]) ([] : List Fm))]).set (((l4.getD ((IntKind.wrap .i64 ((l4.length : Int) - 1)).toNat) ([] : List Fm)).length : Int).toNat - (l4.getD ((IntKind.wrap .i64 ((l4.length : Int) - 1)).toNat) ([] : List Fm)).length) (Fm.eta r5.1.1.2))), ())))) none) none) (cond (decide ((IntKind.wrap .i64 ((l4.length : Int) - 1)).toNat = (IntKind.wrap .i64 ((l4.length : Int) - 1)).toNat) && decide ((IntKind.wrap .i64 ((l4.length : Int) - 1)).toNat < l4.length)) (cond ((decide ((l4.getD ((IntKind.wrap .i64 ((l4.length : Int) - 1)).toNat) ([] : List Fm)).length <= ((l4.getD ((IntKind.wrap .i64 ((l4.length : Int) - 1)).toNat) ([] : List Fm)).length : Int).toNat) && decide (((l4.getD ((IntKind.wrap .i64 ((l4.length : Int) - 1)).toNat) ([] : List Fm)).length : Int).toNat < (l4.getD ((IntKind.wrap .i64 ((l4.length : Int) - 1)).toNat) ([] : List Fm)).length + ([(Fm.mk 0 0 ([]) ([] : List Fm))]).length)) && decide ((IntKind.wrap .i64 ((l4.length : Int) - 1)).toNat < l4.length)) (some (Step.next (((), (), (r5.1.1.1, r5.1.1.2.k, r5.1.1.2.n, r5.1.1.2.t, r5.1.1.2.l, ()), ()), ((r5.2.1.1, r5.2.1.2.1, ()), l4.set ((IntKind.wrap .i64 ((l4.length : Int) - 1)).toNat) ((l4.getD ((IntKind.wrap .i64 ((l4.length : Int) - 1)).toNat) ([] : List Fm)) ++ (([(Fm.mk 0 0 ([]) ([] : List Fm))]).set (((l4.getD ((IntKind.wrap .i64 ((l4.length : Int) - 1)).toNat) ([] : List Fm)).length : Int).toNat - (l4.getD ((IntKind.wrap .i64 ((l4.length : Int) - 1)).toNat) ([] : List Fm)).length) (Fm.eta r5.1.1.2))), ())))) none) none)) none) none) none) none) none))))))) fun qd6 => match qd6 with
 | .next d6 => (
 let c7 := d6.2.1.1
 let c8 := d6.2.1.2.1
 let l9 := d6.2.2.1
 cond ((ixOK c8 c7.length) || !(cond (decide (d6.1.2.2.1.1 = 0)) (decide (c8 < (c7.length : Int))) false)) (Option.bind (α := Bool) (cond (cond (decide (d6.1.2.2.1.1 = 0)) (decide (c8 < (c7.length : Int))) false) (X3V (X0b c7 c8)) (some false)) fun r10 => (
 cond (cond (cond (decide (d6.1.2.2.1.1 = 0)) (decide (c8 < (c7.length : Int))) false) r10 false) (some (Step.done (([] : List Fm), 4, ()))) (some (Step.next (((), (), ()), ((c7, c8, ()), l9, ())))))) none)
 | .done r => some r))) (((), (), ()), ((x0, 0, ()), [([] : List Fm)], ())))
def Z3b : An := .seq (.leaf) (.seq (.leaf) (.seq (.leaf) (.block (.loop { env := [(4, (.ref 0 0)), (5, (.gs 1 (.slice .form)))], objs := [(false, .cells 110 [(.d .str), (.d (.int .i64))]), (false, .stk .form 22)] } (.block (.seq (.leaf) (.frz [2] (.join true { env := [(4, (.ref 0 0)), (5, (.gs 1 (.slice .form))), (6, (.rptr [(.d (.int .u8)), (.d (.int .i64)), (.d (.int .i64)), (.d .str), (.d (.slice .form))]))], objs := [(false, .cells 110 [(.d .str), (.d (.int .i64))]), (false, .stk .form 22)] } (.block (.seq (.leaf) (.cond (.leaf) (.seq (.leaf) (.cond (.leaf) (.seq (.leaf) (.cond (.leaf) (.seq (.leaf) (.cond (.leaf) (.seq (.leaf) (.cond (.leaf) (.seq (.leaf) (.cond (.seq (.leaf) (.frz [4] (.leaf))) (.leaf)))))))))))))) (.leaf)))))))))
def Z3p : Nat -> RH := fun r => match r with
 | 1 => { H := { mb := [13] } }
 | 2 => { H := { mb := [14], ty := [(14, (.pr (.slice .form) .un))] } }
 | 3 => { H := { ac := [17] } }
 | 5 => { H := { mb := [27], pl := [29], ty := [(27, (.pr (.slice .form) .un)), (32, (.pr (.slice .form) (.pr .un .un)))] }, pair := some ([0, 1, 2, 3, 4, 5, 6, 7, 8, 9, 11], 10, 12, []) }
 | 13 => { H := { ty := [(58, (.pr (.slice .form) .un))] } }
 | 18 => { H := { mb := [78], ty := [(78, (.pr (.slice .form) .un))] } }
 | 19 => { pair := some ([0], 1, 2, [3]) }
 | 20 => { H := { mb := [88], pl := [89], ty := [(88, (.pr (.slice .form) .un)), (92, (.pr (.slice .form) (.pr .un .un)))] } }
 | 22 => { H := { mb := [102], pl := [103], ty := [(102, (.pr (.slice .form) .un)), (105, (.pr (.slice .form) .un))] } }
 | 23 => { H := { pl := [108] } }
 | _ => {}
def Y8O : Sig := .n [(.d .str)] (.tup [(.d (.slice .form)), (.d (.int .i64))]) (fun x => Y0X x.1)
theorem Y62 : SigOK CX 58 Y8O := X0i (l := [(86, Y8M), (87, Y2F)]) ⟨Y61, Y2G, trivial⟩ (hint := Z3p) (an := Z3b) (fun x => by kernel_rfl)
def X7T (x1 : Fm) (o0 : (List UInt8) × Int × Unit × Bool × Int × Unit) (o1 : List (List Fm)) : Option ((Unit) × ((List UInt8 × Int × Unit × Bool × Int × Unit) × (List (List Fm)) × Unit)) := (
 mgC (cond (ixOK (IntKind.wrap .i64 ((o1.length : Int) - 1)) o1.length) (cond (decide ((IntKind.wrap .i64 ((o1.length : Int) - 1)).toNat < o1.length)) (cond (decide ((IntKind.wrap .i64 ((o1.length : Int) - 1)).toNat < o1.length) && decide (((o1.getD ((IntKind.wrap .i64 ((o1.length : Int) - 1)).toNat) ([] : List Fm)).length + ([(Fm.eta x1)]).length) * 56 <= 140737488355328)) (cond (ixOK (IntKind.wrap .i64 ((o1.length : Int) - 1)) o1.length) (cond (decide ((IntKind.wrap .i64 ((o1.length : Int) - 1)).toNat = (IntKind.wrap .i64 ((o1.length : Int) - 1)).toNat) && decide ((IntKind.wrap .i64 ((o1.length : Int) - 1)).toNat < o1.length)) (some ((), ((o0.1, o0.2.1, (), o0.2.2.2.1, o0.2.2.2.2.1, ()), o1.set ((IntKind.wrap .i64 ((o1.length : Int) - 1)).toNat) ((o1.getD ((IntKind.wrap .i64 ((o1.length : Int) - 1)).toNat) ([] : List Fm)) ++ ([(Fm.eta x1)])), ()))) none) none) none) none) none) (cond (ixOK (IntKind.wrap .i64 ((o1.length : Int) - 1)) o1.length) (cond (decide ((IntKind.wrap .i64 ((o1.length : Int) - 1)).toNat < o1.length)) (cond (decide ((IntKind.wrap .i64 ((o1.length : Int) - 1)).toNat < o1.length) && decide (((o1.getD ((IntKind.wrap .i64 ((o1.length : Int) - 1)).toNat) ([] : List Fm)).length + ([(Fm.mk 0 0 ([]) ([] : List Fm))]).length) * 56 <= 140737488355328)) (cond (ixOK (IntKind.wrap .i64 ((o1.length : Int) - 1)) o1.length) (cond (decide ((IntKind.wrap .i64 ((o1.length : Int) - 1)).toNat = (IntKind.wrap .i64 ((o1.length : Int) - 1)).toNat) && decide ((IntKind.wrap .i64 ((o1.length : Int) - 1)).toNat < o1.length)) (cond (ixOK ((o1.getD ((IntKind.wrap .i64 ((o1.length : Int) - 1)).toNat) ([] : List Fm)).length : Int) ((o1.getD ((IntKind.wrap .i64 ((o1.length : Int) - 1)).toNat) ([] : List Fm)).length + ([(Fm.mk 0 0 ([]) ([] : List Fm))]).length)) (cond ((decide ((o1.getD ((IntKind.wrap .i64 ((o1.length : Int) - 1)).toNat) ([] : List Fm)).length <= ((o1.getD ((IntKind.wrap .i64 ((o1.length : Int) - 1)).toNat) ([] : List Fm)).length : Int).toNat) && decide (((o1.getD ((IntKind.wrap .i64 ((o1.length : Int) - 1)).toNat) ([] : List Fm)).length : Int).toNat < (o1.getD ((IntKind.wrap .i64 ((o1.length : Int) - 1)).toNat) ([] : List Fm)).length + ([(Fm.mk 0 0 ([]) ([] : List Fm))]).length)) && decide ((IntKind.wrap .i64 ((o1.length : Int) - 1)).toNat < o1.length)) (some ((), ((o0.1, o0.2.1, (), o0.2.2.2.1, o0.2.2.2.2.1, ()), o1.set ((IntKind.wrap .i64 ((o1.length : Int) - 1)).toNat) ((o1.getD ((IntKind.wrap .i64 ((o1.length : Int) - 1)).toNat) ([] : List Fm)) ++ (([(Fm.mk 0 0 ([]) ([] : List Fm))]).set (((o1.getD ((IntKind.wrap .i64 ((o1.length : Int) - 1)).toNat) ([] : List Fm)).length : Int).toNat - (o1.getD ((IntKind.wrap .i64 ((o1.length : Int) - 1)).toNat) ([] : List Fm)).length) (Fm.eta x1))), ()))) none) none) none) none) none) none) none))
def Z5q : An := .leaf
def Z5v : Nat -> RH := fun r => match r with
 | 2 => { pair := some ([0], 1, 2, [3]) }
 | 3 => { H := { mb := [19], pl := [20], ty := [(19, (.pr (.slice .form) .un)), (23, (.pr (.slice .form) (.pr .un .un)))] } }
 | 5 => { H := { mb := [37], pl := [29, 38], cl := [29], ty := [(37, (.pr (.slice .form) .un)), (40, (.pr (.slice .form) .un))] } }
 | _ => {}
def Y5X : Sig := .o { pre := [(false, .cells 91 [(.d .str), (.d (.int .i64)), (.gs 1 (.slice .form)), (.d .bool), (.d (.int .i64))]), (false, .stk .form 22)], args := [(.ref 0 0), (.d .form)], post := [(true, .cells 91 [(.d .str), (.d (.int .i64)), (.gs 1 (.slice .form)), (.d .bool), (.d (.int .i64))]), (false, .stk .form 22)], res := (.tup []), f := fun x => X7T x.1.2.1 x.2.1 x.2.2.1 }
theorem X8e : SigOK CX 81 Y5X := X1h (l := []) trivial (hint := Z5v) (an := Z5q) (by kernel_rfl) (fun x => by kernel_rfl)
def X5C (o0 : (List UInt8) × Int × Unit × Bool × Int × Unit) (o1 : List (List Fm)) : Option ((Unit) × ((List UInt8 × Int × Unit × Bool × Int × Unit) × (List (List Fm)) × Unit)) := (
 Option.bind (α := Step ((Unit × Unit × Unit) × ((List UInt8 × Int × Unit × Bool × Int × Unit) × (List (List Fm)) × (List Int) × Unit)) ((Unit) × ((List UInt8 × Int × Unit × Bool × Int × Unit) × (List (List Fm)) × Unit)))
 (X0v (L := (Unit × Unit × Unit) × ((List UInt8 × Int × Unit × Bool × Int × Unit) × (List (List Fm)) × (List Int) × Unit)) (R := Step ((Unit × Unit × Unit) × ((List UInt8 × Int × Unit × Bool × Int × Unit) × (List (List Fm)) × (List Int) × Unit)) ((Unit) × ((List UInt8 × Int × Unit × Bool × Int × Unit) × (List (List Fm)) × Unit))) (fun d1 => (
 let l2 := d1.2.2.1
 let l3 := d1.2.2.2.1
 cond ((ixOK d1.2.1.2.1 d1.2.1.1.length) || !(decide (d1.2.1.2.1 < (d1.2.1.1.length : Int)))) (cond (cond (decide (d1.2.1.2.1 < (d1.2.1.1.length : Int))) (!decide (X0b d1.2.1.1 d1.2.1.2.1 = 34)) false) (cond (ixOK d1.2.1.2.1 d1.2.1.1.length) (Option.bind (α := Step ((Unit × Unit × Int × Unit) × ((List UInt8 × Int × Unit × Bool × Int × Unit) × (List (List Fm)) × (List Int) × Unit)) (Step ((Unit × Unit × Unit) × ((List UInt8 × Int × Unit × Bool × Int × Unit) × (List (List Fm)) × (List Int) × Unit)) (Step ((Unit × Unit × Unit) × ((List UInt8 × Int × Unit × Bool × Int × Unit) × (List (List Fm)) × (List Int) × Unit)) ((Unit) × ((List UInt8 × Int × Unit × Bool × Int × Unit) × (List (List Fm)) × Unit)))))
 (cond (decide (X0b d1.2.1.1 d1.2.1.2.1 = 92)) (cond (decide (IntKind.wrap .i64 (d1.2.1.2.1 + 1) = (d1.2.1.1.length : Int))) (some (Step.done (Step.done (Step.next (((), (), ()), ((d1.2.1.1, IntKind.wrap .i64 (d1.2.1.2.1 + 1), (), d1.2.1.2.2.2.1, d1.2.1.2.2.2.2.1, ()), l2, l3, ())))))) (cond (ixOK (IntKind.wrap .i64 (d1.2.1.2.1 + 1)) d1.2.1.1.length) (cond (decide (X0b d1.2.1.1 (IntKind.wrap .i64 (d1.2.1.2.1 + 1)) = 110)) (some (Step.next (((), (), 10, ()), ((d1.2.1.1, IntKind.wrap .i64 (IntKind.wrap .i64 (d1.2.1.2.1 + 1) + 1), (), d1.2.1.2.2.2.1, d1.2.1.2.2.2.2.1, ()), l2, l3, ())))) (Option.bind (α := (Unit × Unit × Int × Bool × Unit) × ((List UInt8 × Int × Unit × Bool × Int × Unit) × (List (List Fm)) × (List Int) × Unit))
 (cond (decide (X0b d1.2.1.1 (IntKind.wrap .i64 (d1.2.1.2.1 + 1)) = 34)) (some (((), (), X0b d1.2.1.1 (IntKind.wrap .i64 (d1.2.1.2.1 + 1)), decide (X0b d1.2.1.1 (IntKind.wrap .i64 (d1.2.1.2.1 + 1)) = 34), ()), ((d1.2.1.1, IntKind.wrap .i64 (IntKind.wrap .i64 (d1.2.1.2.1 + 1) + 1), (), d1.2.1.2.2.2.1, d1.2.1.2.2.2.2.1, ()), l2, l3, ()))) (some (((), (), X0b d1.2.1.1 (IntKind.wrap .i64 (d1.2.1.2.1 + 1)), decide (X0b d1.2.1.1 (IntKind.wrap .i64 (d1.2.1.2.1 + 1)) = 92), ()), ((d1.2.1.1, IntKind.wrap .i64 (IntKind.wrap .i64 (d1.2.1.2.1 + 1) + 1), (), d1.2.1.2.2.2.1, d1.2.1.2.2.2.2.1, ()), l2, l3, ())))) fun d4 => (
 let l5 := d4.2.2.1
 let l6 := d4.2.2.2.1
 let v3_7 := d4.1.2.2.1
 let v83_8 := d4.1.2.2.2.1
 cond v83_8 (some (Step.next (((), (), v3_7, ()), ((d4.2.1.1, d4.2.1.2.1, (), d4.2.1.2.2.2.1, d4.2.1.2.2.2.2.1, ()), l5, l6, ())))) (some (Step.done (Step.done (Step.done ((), ((d4.2.1.1, d4.2.1.2.1, (), d4.2.1.2.2.2.1, 4, ()), l5, ()))))))))) none)) (cond (cond (decide (X0b d1.2.1.1 d1.2.1.2.1 < 32)) true (decide (X0b d1.2.1.1 d1.2.1.2.1 > 126))) (some (Step.done (Step.done (Step.done ((), ((d1.2.1.1, IntKind.wrap .i64 (d1.2.1.2.1 + 1), (), d1.2.1.2.2.2.1, 4, ()), l2, ())))))) (some (Step.next (((), (), X0b d1.2.1.1 d1.2.1.2.1, ()), ((d1.2.1.1, IntKind.wrap .i64 (d1.2.1.2.1 + 1), (), d1.2.1.2.2.2.1, d1.2.1.2.2.2.2.1, ()), l2, l3, ())))))) fun qd9 => match qd9 with
 | .next d9 => (
 let l10 := d9.2.2.1
 let l11 := d9.2.2.2.1
 let v3_12 := d9.1.2.2.1
 cond (decide ((l11.length + ([v3_12]).length) * 1 <= 140737488355328)) (some (Step.next (((), (), ()), ((d9.2.1.1, d9.2.1.2.1, (), d9.2.1.2.2.2.1, d9.2.1.2.2.2.2.1, ()), l10, l11 ++ ([v3_12]), ())))) none)
 | .done r => some r) none) (some (Step.done (Step.next (((), (), ()), ((d1.2.1.1, d1.2.1.2.1, (), d1.2.1.2.2.2.1, d1.2.1.2.2.2.2.1, ()), l2, l3, ())))))) none)) (((), (), ()), ((o0.1, IntKind.wrap .i64 (o0.2.1 + 1), (), o0.2.2.2.1, o0.2.2.2.2.1, ()), o1, ([] : List Int), ()))) fun qd13 => match qd13 with
 | .next d13 => (
 let l14 := d13.2.2.1
 let l15 := d13.2.2.2.1
 cond (decide (d13.2.1.2.1 = (d13.2.1.1.length : Int))) (some ((), ((d13.2.1.1, d13.2.1.2.1, (), d13.2.1.2.2.2.1, 12, ()), l14, ()))) (Option.bind (α := (Unit × Unit × Unit) × ((List UInt8 × Int × Unit × Bool × Int × Unit) × (List (List Fm)) × (List Int) × Unit))
 (cond (decide ((l15.length : Int) > 2000)) (some (((), (), ()), ((d13.2.1.1, IntKind.wrap .i64 (d13.2.1.2.1 + 1), (), d13.2.1.2.2.2.1, 4, ()), l14, l15, ()))) (some (((), (), ()), ((d13.2.1.1, IntKind.wrap .i64 (d13.2.1.2.1 + 1), (), d13.2.1.2.2.2.1, d13.2.1.2.2.2.2.1, ()), l14, l15, ())))) fun d16 => (
 let l17 := d16.2.2.1
 let l18 := d16.2.2.2.1
 Option.bind (α := (Unit) × ((List UInt8 × Int × Unit × Bool × Int × Unit) × (List (List Fm)) × Unit)) (X7T (Fm.mk 2 0 (strOf l18) ([] : List Fm)) (d16.2.1.1, d16.2.1.2.1, (), d16.2.1.2.2.2.1, d16.2.1.2.2.2.2.1, ()) l17) fun r19 => (
 some ((), ((r19.2.1.1, r19.2.1.2.1, (), r19.2.1.2.2.2.1, r19.2.1.2.2.2.2.1, ()), r19.2.2.1, ()))))))
 | .done r => some r)
def Y8o : An := .seq (.leaf) (.seq (.leaf) (.join true { env := [(0, (.ref 0 0)), (2, (.gs 2 (.int .u8)))], objs := [(true, .cells 91 [(.d .str), (.d (.int .i64)), (.gs 1 (.slice .form)), (.d .bool), (.d (.int .i64))]), (true, .stk .form 22), (false, .tg (.int .u8) 5)] } (.block (.loop { env := [(0, (.ref 0 0)), (2, (.gs 2 (.int .u8)))], objs := [(true, .cells 91 [(.d .str), (.d (.int .i64)), (.gs 1 (.slice .form)), (.d .bool), (.d (.int .i64))]), (true, .stk .form 22), (false, .tg (.int .u8) 5)] } (.seq (.leaf) (.block (.seq (.leaf) (.seq (.leaf) (.join true { env := [(0, (.ref 0 0)), (2, (.gs 2 (.int .u8))), (3, (.d (.int .u8)))], objs := [(true, .cells 91 [(.d .str), (.d (.int .i64)), (.gs 1 (.slice .form)), (.d .bool), (.d (.int .i64))]), (true, .stk .form 22), (false, .tg (.int .u8) 5)] } (.seq (.leaf) (.cond (.seq (.leaf) (.seq (.leaf) (.seq (.leaf) (.seq (.leaf) (.block (.seq (.leaf) (.cond (.leaf) (.join false { env := [(0, (.ref 0 0)), (2, (.gs 2 (.int .u8))), (3, (.d (.int .u8))), (83, (.d .bool))], objs := [(true, .cells 91 [(.d .str), (.d (.int .i64)), (.gs 1 (.slice .form)), (.d .bool), (.d (.int .i64))]), (true, .stk .form 22), (false, .tg (.int .u8) 5)] } (.leaf) (.leaf))))))))) (.leaf))) (.leaf)))))))) (.seq (.leaf) (.seq (.leaf) (.join false { env := [(0, (.ref 0 0)), (2, (.gs 2 (.int .u8)))], objs := [(true, .cells 91 [(.d .str), (.d (.int .i64)), (.gs 1 (.slice .form)), (.d .bool), (.d (.int .i64))]), (true, .stk .form 22), (false, .tg (.int .u8) 5)] } (.leaf) (.frz [2] .leaf))))))
def Y8E : Nat -> RH := fun r => match r with
 | 17 => { H := { ty := [(98, (.int .u8))] } }
 | 23 => { H := { ac := [129] } }
 | _ => {}
def Y2z : Sig := .o { pre := [(false, .cells 91 [(.d .str), (.d (.int .i64)), (.gs 1 (.slice .form)), (.d .bool), (.d (.int .i64))]), (false, .stk .form 22)], args := [(.ref 0 0)], post := [(true, .cells 91 [(.d .str), (.d (.int .i64)), (.gs 1 (.slice .form)), (.d .bool), (.d (.int .i64))]), (false, .stk .form 22)], res := (.tup []), f := fun x => X5C x.2.1 x.2.2.1 }
theorem Y2A : SigOK CX 82 Y2z := X1h (l := [(81, Y5X)]) ⟨X8e, trivial⟩ (hint := Y8E) (an := Y8o) (by kernel_rfl) (fun x => by kernel_rfl)
def X7q (o0 : (List UInt8) × Int × Unit × Bool × Int × Unit) (o1 : List (List Fm)) : Option ((Unit) × ((List UInt8 × Int × Unit × Bool × Int × Unit) × (List (List Fm)) × Unit)) := (
 Option.bind (α := (Unit × Int × Unit) × ((List UInt8 × Int × Unit × Bool × Int × Unit) × (List (List Fm)) × Unit))
 (X0v (L := (Unit × Int × Unit) × ((List UInt8 × Int × Unit × Bool × Int × Unit) × (List (List Fm)) × Unit)) (R := (Unit × Int × Unit) × ((List UInt8 × Int × Unit × Bool × Int × Unit) × (List (List Fm)) × Unit)) (fun d1 => (
 let l2 := d1.2.2.1
 let v2_3 := d1.1.2.1
 cond ((ixOK d1.2.1.2.1 d1.2.1.1.length) || !(decide (d1.2.1.2.1 < (d1.2.1.1.length : Int)))) (Option.bind (α := Bool) (cond (decide (d1.2.1.2.1 < (d1.2.1.1.length : Int))) (X4A (X0b d1.2.1.1 d1.2.1.2.1)) (some false)) fun r4 => (
 cond (cond (decide (d1.2.1.2.1 < (d1.2.1.1.length : Int))) r4 false) (some (Step.next (((), v2_3, ()), ((d1.2.1.1, IntKind.wrap .i64 (d1.2.1.2.1 + 1), (), d1.2.1.2.2.2.1, d1.2.1.2.2.2.2.1, ()), l2, ())))) (some (Step.done (((), v2_3, ()), ((d1.2.1.1, d1.2.1.2.1, (), d1.2.1.2.2.2.1, d1.2.1.2.2.2.2.1, ()), l2, ())))))) none)) (((), o0.2.1, ()), ((o0.1, o0.2.1, (), o0.2.2.2.1, o0.2.2.2.2.1, ()), o1, ()))) fun d5 => (
 let l6 := d5.2.2.1
 let v2_7 := d5.1.2.1
 cond (slOK v2_7 d5.2.1.2.1 d5.2.1.1.length) (Option.bind (α := Bool) (X7O ((d5.2.1.1.drop v2_7.toNat).take (d5.2.1.2.1.toNat - v2_7.toNat))) fun r8 => (
 cond (!r8) (Option.bind (α := (Unit × List UInt8 × Unit) × ((List UInt8 × Int × Unit × Bool × Int × Unit) × (List (List Fm)) × Unit))
 (cond (decide ((((d5.2.1.1.drop v2_7.toNat).take (d5.2.1.2.1.toNat - v2_7.toNat)).length : Int) > 30)) (some (((), (d5.2.1.1.drop v2_7.toNat).take (d5.2.1.2.1.toNat - v2_7.toNat), ()), ((d5.2.1.1, d5.2.1.2.1, (), d5.2.1.2.2.2.1, 4, ()), l6, ()))) (some (((), (d5.2.1.1.drop v2_7.toNat).take (d5.2.1.2.1.toNat - v2_7.toNat), ()), ((d5.2.1.1, d5.2.1.2.1, (), d5.2.1.2.2.2.1, d5.2.1.2.2.2.2.1, ()), l6, ())))) fun d9 => (
 let l10 := d9.2.2.1
 let v3_11 := d9.1.2.1
 Option.bind (α := Fm) (Y37 v3_11) fun r12 => (
 Option.bind (α := (Unit) × ((List UInt8 × Int × Unit × Bool × Int × Unit) × (List (List Fm)) × Unit)) (X7T (Fm.eta r12) (d9.2.1.1, d9.2.1.2.1, (), d9.2.1.2.2.2.1, d9.2.1.2.2.2.2.1, ()) l10) fun r13 => (
 some ((), ((r13.2.1.1, r13.2.1.2.1, (), r13.2.1.2.2.2.1, r13.2.1.2.2.2.2.1, ()), r13.2.2.1, ())))))) (Option.bind (α := Int × Bool × Bool × Unit) (X5B ((d5.2.1.1.drop v2_7.toNat).take (d5.2.1.2.1.toNat - v2_7.toNat))) fun r14 => (
 Option.bind (α := (Unit × Int × Unit) × ((List UInt8 × Int × Unit × Bool × Int × Unit) × (List (List Fm)) × Unit))
 (cond (!r14.2.1) (some (((), r14.1, ()), ((d5.2.1.1, d5.2.1.2.1, (), d5.2.1.2.2.2.1, 4, ()), l6, ()))) (cond (!r14.2.2.1) (some (((), r14.1, ()), ((d5.2.1.1, d5.2.1.2.1, (), d5.2.1.2.2.2.1, 5, ()), l6, ()))) (some (((), r14.1, ()), ((d5.2.1.1, d5.2.1.2.1, (), d5.2.1.2.2.2.1, d5.2.1.2.2.2.2.1, ()), l6, ()))))) fun d15 => (
 let l16 := d15.2.2.1
 let v4_17 := d15.1.2.1
 Option.bind (α := Fm) (Y19 v4_17) fun r18 => (
 Option.bind (α := (Unit) × ((List UInt8 × Int × Unit × Bool × Int × Unit) × (List (List Fm)) × Unit)) (X7T (Fm.eta r18) (d15.2.1.1, d15.2.1.2.1, (), d15.2.1.2.2.2.1, d15.2.1.2.2.2.2.1, ()) l16) fun r19 => (
 some ((), ((r19.2.1.1, r19.2.1.2.1, (), r19.2.1.2.2.2.1, r19.2.1.2.2.2.2.1, ()), r19.2.2.1, ()))))))))) none))
def Z09 : An := .seq (.leaf) (.join false { env := [(0, (.ref 0 0)), (2, (.d (.int .i64)))], objs := [(true, .cells 91 [(.d .str), (.d (.int .i64)), (.gs 1 (.slice .form)), (.d .bool), (.d (.int .i64))]), (true, .stk .form 22)] } (.block (.loop { env := [(0, (.ref 0 0)), (2, (.d (.int .i64)))], objs := [(true, .cells 91 [(.d .str), (.d (.int .i64)), (.gs 1 (.slice .form)), (.d .bool), (.d (.int .i64))]), (true, .stk .form 22)] } (.leaf))) (.seq (.leaf) (.seq (.seq (.leaf) (.cond (.join false { env := [(0, (.ref 0 0)), (3, (.d .str))], objs := [(true, .cells 91 [(.d .str), (.d (.int .i64)), (.gs 1 (.slice .form)), (.d .bool), (.d (.int .i64))]), (true, .stk .form 22)] } (.leaf) (.leaf)) (.leaf))) (.seq (.leaf) (.join false { env := [(0, (.ref 0 0)), (4, (.d (.int .i64)))], objs := [(true, .cells 91 [(.d .str), (.d (.int .i64)), (.gs 1 (.slice .form)), (.d .bool), (.d (.int .i64))]), (true, .stk .form 22)] } (.leaf) (.leaf))))))
def Z1j : Nat -> RH := fun r => match r with
 | 7 => { H := { ac := [62] } }
 | 13 => { H := { ac := [82] } }
 | _ => {}
def Y5Y : Sig := .o { pre := [(false, .cells 91 [(.d .str), (.d (.int .i64)), (.gs 1 (.slice .form)), (.d .bool), (.d (.int .i64))]), (false, .stk .form 22)], args := [(.ref 0 0)], post := [(true, .cells 91 [(.d .str), (.d (.int .i64)), (.gs 1 (.slice .form)), (.d .bool), (.d (.int .i64))]), (false, .stk .form 22)], res := (.tup []), f := fun x => X7q x.2.1 x.2.2.1 }
theorem Y4r : SigOK CX 84 Y5Y := X1h (l := [(83, X6o), (106, Y2m), (120, Y8V), (81, Y5X), (121, Y2x), (122, Z2N)]) ⟨X5I, Y2n, Y69, X8e, Y2y, Y8R, trivial⟩ (hint := Z1j) (an := Z09) (by kernel_rfl) (fun x => by kernel_rfl)
def X7U (o0 : (List UInt8) × Int × Unit × Bool × Int × Unit) (o1 : List (List Fm)) : Option ((Unit) × ((List UInt8 × Int × Unit × Bool × Int × Unit) × (List (List Fm)) × Unit)) := (
 cond (ixOK o0.2.1 o0.1.length) (cond (cond (cond (decide (X0b o0.1 o0.2.1 = 32)) true (decide (X0b o0.1 o0.2.1 = 9))) true (decide (X0b o0.1 o0.2.1 = 10))) (some ((), ((o0.1, IntKind.wrap .i64 (o0.2.1 + 1), (), false, o0.2.2.2.2.1, ()), o1, ()))) (cond (decide (X0b o0.1 o0.2.1 = 59)) (X0v (L := (Unit × Unit) × ((List UInt8 × Int × Unit × Bool × Int × Unit) × (List (List Fm)) × Unit)) (R := (Unit) × ((List UInt8 × Int × Unit × Bool × Int × Unit) × (List (List Fm)) × Unit)) (fun d1 => (
 let l2 := d1.2.2.1
 cond ((ixOK d1.2.1.2.1 d1.2.1.1.length) || !(decide (d1.2.1.2.1 < (d1.2.1.1.length : Int)))) (cond (cond (decide (d1.2.1.2.1 < (d1.2.1.1.length : Int))) (!decide (X0b d1.2.1.1 d1.2.1.2.1 = 10)) false) (some (Step.next (((), ()), ((d1.2.1.1, IntKind.wrap .i64 (d1.2.1.2.1 + 1), (), d1.2.1.2.2.2.1, d1.2.1.2.2.2.2.1, ()), l2, ())))) (some (Step.done ((), ((d1.2.1.1, d1.2.1.2.1, (), d1.2.1.2.2.2.1, d1.2.1.2.2.2.2.1, ()), l2, ()))))) none)) (((), ()), ((o0.1, o0.2.1, (), false, o0.2.2.2.2.1, ()), o1, ()))) (cond (decide (X0b o0.1 o0.2.1 = 40)) (cond (decide ((o1.length + 1) * 24 <= 140737488355328)) (some ((), ((o0.1, IntKind.wrap .i64 (o0.2.1 + 1), (), false, o0.2.2.2.2.1, ()), o1 ++ [([] : List Fm)], ()))) none) (cond (decide (X0b o0.1 o0.2.1 = 41)) (cond (decide (IntKind.wrap .i64 ((o1.length : Int) - 1) = 0)) (some ((), ((o0.1, IntKind.wrap .i64 (o0.2.1 + 1), (), false, 4, ()), o1, ()))) (cond (ixOK (IntKind.wrap .i64 ((o1.length : Int) - 1)) o1.length) (cond (decide ((IntKind.wrap .i64 ((o1.length : Int) - 1)).toNat < o1.length)) (Option.bind (α := Fm) (X7R (o1.getD ((IntKind.wrap .i64 ((o1.length : Int) - 1)).toNat) ([] : List Fm))) fun r3 => (
 cond (hiOK (IntKind.wrap .i64 ((o1.length : Int) - 1)) o1.length) (Option.bind (α := (Unit) × ((List UInt8 × Int × Unit × Bool × Int × Unit) × (List (List Fm)) × Unit)) (X7T (Fm.eta r3) (o0.1, IntKind.wrap .i64 (o0.2.1 + 1), (), false, o0.2.2.2.2.1, ()) (o1.take (IntKind.wrap .i64 ((o1.length : Int) - 1)).toNat)) fun r4 => (
 some ((), ((r4.2.1.1, r4.2.1.2.1, (), r4.2.1.2.2.2.1, r4.2.1.2.2.2.2.1, ()), r4.2.2.1, ())))) none)) none) none)) (cond o0.2.2.2.1 (some ((), ((o0.1, o0.2.1, (), false, 4, ()), o1, ()))) (cond (decide (X0b o0.1 o0.2.1 = 34)) (Option.bind (α := (Unit) × ((List UInt8 × Int × Unit × Bool × Int × Unit) × (List (List Fm)) × Unit)) (X5C (o0.1, o0.2.1, (), false, o0.2.2.2.2.1, ()) o1) fun r5 => (
 some ((), ((r5.2.1.1, r5.2.1.2.1, (), true, r5.2.1.2.2.2.2.1, ()), r5.2.2.1, ())))) (Option.bind (α := Bool) (X4A (X0b o0.1 o0.2.1)) fun r6 => (
 cond r6 (Option.bind (α := (Unit) × ((List UInt8 × Int × Unit × Bool × Int × Unit) × (List (List Fm)) × Unit)) (X7q (o0.1, o0.2.1, (), false, o0.2.2.2.2.1, ()) o1) fun r7 => (
 some ((), ((r7.2.1.1, r7.2.1.2.1, (), true, r7.2.1.2.2.2.2.1, ()), r7.2.2.1, ())))) (some ((), ((o0.1, o0.2.1, (), false, 4, ()), o1, ()))))))))))) none)
def Z3h : An := .seq (.leaf) (.seq (.leaf) (.seq (.leaf) (.block (.seq (.leaf) (.cond (.leaf) (.seq (.leaf) (.cond (.block (.loop { env := [(0, (.ref 0 0))], objs := [(true, .cells 91 [(.d .str), (.d (.int .i64)), (.gs 1 (.slice .form)), (.d .bool), (.d (.int .i64))]), (true, .stk .form 22)] } (.leaf))) (.leaf))))))))
def Z3r : Nat -> RH := fun r => match r with
 | 11 => { H := { ty := [(91, (.pr (.slice .form) .un))] } }
 | 18 => { H := { mb := [129], ty := [(129, (.pr (.slice .form) .un))] } }
 | 19 => { H := { ac := [134] } }
 | 23 => { H := { ac := [144] } }
 | 26 => { H := { ac := [152] } }
 | _ => {}
def Y8T : Sig := .o { pre := [(false, .cells 91 [(.d .str), (.d (.int .i64)), (.gs 1 (.slice .form)), (.d .bool), (.d (.int .i64))]), (false, .stk .form 22)], args := [(.ref 0 0)], post := [(true, .cells 91 [(.d .str), (.d (.int .i64)), (.gs 1 (.slice .form)), (.d .bool), (.d (.int .i64))]), (false, .stk .form 22)], res := (.tup []), f := fun x => X7U x.2.1 x.2.2.1 }
theorem Y66 : SigOK CX 53 Y8T := X1h (l := [(80, Y2s), (81, Y5X), (82, Y2z), (83, X6o), (84, Y5Y)]) ⟨Y2t, X8e, Y2A, X5I, Y4r, trivial⟩ (hint := Z3r) (an := Z3h) (by kernel_rfl) (fun x => by kernel_rfl)
def X7P (x0 : List UInt8) : Option ((List Fm) × Int × Unit) := (
 cond (decide ((x0.length : Int) > 60000)) (some (([] : List Fm), 2, ())) (Option.bind (α := (Unit × Unit) × ((List UInt8 × Int × Unit × Bool × Int × Unit) × (List (List Fm)) × Unit))
 (X0v (L := (List UInt8 × Unit × Unit) × ((List UInt8 × Int × Unit × Bool × Int × Unit) × (List (List Fm)) × Unit)) (R := (Unit × Unit) × ((List UInt8 × Int × Unit × Bool × Int × Unit) × (List (List Fm)) × Unit)) (fun d1 => (
 let l2 := d1.2.2.1
 let v0_3 := d1.1.1
 cond (cond (decide (d1.2.1.2.1 < (v0_3.length : Int))) (decide (d1.2.1.2.2.2.2.1 = 0)) false) (Option.bind (α := (Unit) × ((List UInt8 × Int × Unit × Bool × Int × Unit) × (List (List Fm)) × Unit)) (X7U (d1.2.1.1, d1.2.1.2.1, (), d1.2.1.2.2.2.1, d1.2.1.2.2.2.2.1, ()) l2) fun r4 => (
 some (Step.next ((v0_3, (), ()), ((r4.2.1.1, r4.2.1.2.1, (), r4.2.1.2.2.2.1, r4.2.1.2.2.2.2.1, ()), r4.2.2.1, ()))))) (some (Step.done (((), ()), ((d1.2.1.1, d1.2.1.2.1, (), d1.2.1.2.2.2.1, d1.2.1.2.2.2.2.1, ()), l2, ())))))) ((x0, (), ()), ((x0, 0, (), false, 0, ()), [([] : List Fm)], ()))) fun d5 => (
 let l6 := d5.2.2.1
 Option.bind (α := (Unit × Unit) × ((List UInt8 × Int × Unit × Bool × Int × Unit) × (List (List Fm)) × Unit))
 (cond (cond (decide (d5.2.1.2.2.2.2.1 = 0)) (decide ((l6.length : Int) > 1)) false) (some (((), ()), ((d5.2.1.1, d5.2.1.2.1, (), d5.2.1.2.2.2.1, 12, ()), l6, ()))) (some (((), ()), ((d5.2.1.1, d5.2.1.2.1, (), d5.2.1.2.2.2.1, d5.2.1.2.2.2.2.1, ()), l6, ())))) fun d7 => (
 let l8 := d7.2.2.1
 cond (!decide (d7.2.1.2.2.2.2.1 = 0)) (some (([] : List Fm), d7.2.1.2.2.2.2.1, ())) (Option.bind (α := Step ((Unit × Unit) × ((List UInt8 × Int × Unit × Bool × Int × Unit) × (List (List Fm)) × Unit)) ((List Fm) × Int × Unit))
 (X0v (L := (Unit × Int × Unit) × ((List UInt8 × Int × Unit × Bool × Int × Unit) × (List (List Fm)) × Unit)) (R := Step ((Unit × Unit) × ((List UInt8 × Int × Unit × Bool × Int × Unit) × (List (List Fm)) × Unit)) ((List Fm) × Int × Unit)) (fun d9 => (
 let l10 := d9.2.2.1
 let v5_11 := d9.1.2.1
 cond (ixOK 0 l10.length) (cond (decide ((0 : Int).toNat < l10.length)) (cond (decide (v5_11 < ((l10.getD ((0 : Int).toNat) ([] : List Fm)).length : Int))) (cond (ixOK 0 l10.length) (cond (decide ((0 : Int).toNat < l10.length)) (cond (ixOK v5_11 (l10.getD ((0 : Int).toNat) ([] : List Fm)).length) (Option.bind (α := Bool) (X4B (Fm.eta ((l10.getD ((0 : Int).toNat) ([] : List Fm)).getD v5_11.toNat (Fm.mk 0 0 [] [])))) fun r12 => (
 cond (!r12) (some (Step.done (Step.done (([] : List Fm), 2, ())))) (some (Step.next (((), IntKind.wrap .i64 (v5_11 + 1), ()), ((d9.2.1.1, d9.2.1.2.1, (), d9.2.1.2.2.2.1, d9.2.1.2.2.2.2.1, ()), l10, ())))))) none) none) none) (some (Step.done (Step.next (((), ()), ((d9.2.1.1, d9.2.1.2.1, (), d9.2.1.2.2.2.1, d9.2.1.2.2.2.2.1, ()), l10, ())))))) none) none)) (((), 0, ()), ((d7.2.1.1, d7.2.1.2.1, (), d7.2.1.2.2.2.1, d7.2.1.2.2.2.2.1, ()), l8, ()))) fun qd13 => match qd13 with
 | .next d13 => (
 let l14 := d13.2.2.1
 cond (ixOK 0 l14.length) (cond (decide ((0 : Int).toNat < l14.length)) (some ((l14.getD ((0 : Int).toNat) ([] : List Fm)), 0, ())) none) none)
 | .done r => some r)))))
def Z3c : An := .seq (.leaf) (.seq (.leaf) (.seq (.leaf) (.join false { env := [(4, (.ref 0 0))], objs := [(false, .cells 91 [(.d .str), (.d (.int .i64)), (.gs 1 (.slice .form)), (.d .bool), (.d (.int .i64))]), (false, .stk .form 22)] } (.block (.loop { env := [(0, (.d .str)), (4, (.ref 0 0))], objs := [(false, .cells 91 [(.d .str), (.d (.int .i64)), (.gs 1 (.slice .form)), (.d .bool), (.d (.int .i64))]), (false, .stk .form 22)] } (.leaf))) (.join false { env := [(4, (.ref 0 0))], objs := [(false, .cells 91 [(.d .str), (.d (.int .i64)), (.gs 1 (.slice .form)), (.d .bool), (.d (.int .i64))]), (false, .stk .form 22)] } (.leaf) (.seq (.leaf) (.join true { env := [(4, (.ref 0 0))], objs := [(false, .cells 91 [(.d .str), (.d (.int .i64)), (.gs 1 (.slice .form)), (.d .bool), (.d (.int .i64))]), (false, .stk .form 22)] } (.seq (.leaf) (.block (.loop { env := [(4, (.ref 0 0)), (5, (.d (.int .i64)))], objs := [(false, .cells 91 [(.d .str), (.d (.int .i64)), (.gs 1 (.slice .form)), (.d .bool), (.d (.int .i64))]), (false, .stk .form 22)] } (.leaf)))) (.leaf)))))))
def Z3q : Nat -> RH := fun r => match r with
 | 3 => { H := { mb := [10, 12], ty := [(10, (.pr (.slice .form) .un))] } }
 | 5 => { H := { ac := [28] } }
 | _ => {}
def Y4m : Sig := .n [(.d .str)] (.tup [(.d (.slice .form)), (.d (.int .i64))]) (fun x => X7P x.1)
theorem X9P : SigOK CX 33 Y4m := X0i (l := [(53, Y8T), (46, Y1i)]) ⟨Y66, X8i, trivial⟩ (hint := Z3q) (an := Z3c) (fun x => by kernel_rfl)
def Y0Z (x0 : List UInt8) : Option ((List Fm) × Int × Unit) := (
 cond (decide ((x0.length : Int) > 60000)) (some (([] : List Fm), 2, ())) (Option.bind (α := (List Fm) × Int × Unit) (Y0X x0) fun r1 => (
 cond (!decide (r1.2.1 = 0)) (some (([] : List Fm), r1.2.1, ())) (Option.bind (α := Bool) (X14 r1.1 ()) fun r2 => (
 cond r2 (some (([] : List Fm), 2, ())) (some (r1.1, 0, ())))))))
def Z3e : An := .leaf
def Y8Q : Sig := .n [(.d .str)] (.tup [(.d (.slice .form)), (.d (.int .i64))]) (fun x => Y0Z x.1)
theorem Y64 : SigOK CX 36 Y8Q := X0i (l := [(58, Y8O), (59, X4W)]) ⟨Y62, X6m, trivial⟩ (hint := fun _ => {}) (an := Z3e) (fun x => by kernel_rfl)
open Go Go.RowKit Go.Proofs Go.Shelf
def Z24 : Go.Shelf.Ren := ⟨fun | 105 => 67 | 212 => 102 | 99 => 103 | 165 => 104 | 166 => 31 | 170 => 105 | 169 => 26 | 263 => 134 | 264 => 135 | 206 => 136 | 240 => 51 | 241 => 137 | 276 => 78 | 277 => 150 | n => n, fun | 9 => 9 | 3 => 3 | 4 => 4 | 20 => 20 | 0 => 0 | 46 => 125 | 109 => 126 | 5 => 5 | 72 => 48 | 76 => 62 | 51 => 148 | 146 => 162 | 53 => 164 | 148 => 165 | 70 => 45 | 37 => 46 | 75 => 60 | 127 => 81 | 164 => 104 | 80 => 52 | n => n, fun  | n => n⟩
theorem Y5h : Lays.n105 Tryz.prog Z24 := by
 constructor
 all_goals first | kernel_rfl | (intro w; kernel_rfl) | skip
 all_goals constructor
 all_goals first | kernel_rfl | (intro w; kernel_rfl) | skip
 all_goals constructor
 all_goals first | kernel_rfl | (intro w; kernel_rfl)
theorem repX : Builder.Extra Tryz.prog Z24 := by
 constructor
 all_goals first | kernel_rfl | (intro w; kernel_rfl) | decide | skip
 all_goals constructor
 all_goals first | kernel_rfl | (intro w; kernel_rfl) | decide | skip
 all_goals constructor
 all_goals first | kernel_rfl | (intro w; kernel_rfl) | decide
def repF (s : List UInt8) (c : Int) : Option (List UInt8) := if s.length = 1 /\ 0 <= c /\ c <= 1000000 then some (Lib.repeatL s c.toNat) else none
def Y5W : Sig := .n [.d .str, .d (.int .i64)] (.d .str) (fun x => repF x.1 x.2.1)
theorem Y5i (s : List UInt8) (n : Nat) (h1 : s.length = 1) (h3 : n <= 1000000) : PCall CX 67 [.str s, .int .i64 (n : Int)] (· = .ret (.str (Lib.repeatL s n))) := by
 refine X2T (C := CX) (by kernel_rfl) fun kn w vs hk hr => ?_
 obtain ⟨v, vs1, rfl, hv, hvs⟩ := RelL.uncons hr;obtain ⟨u, vs2, rfl, hu, hvs⟩ := RelL.uncons hvs;have : vs2 = [] := List.eq_nil_of_length_eq_zero hvs.1.symm;subst this;cases hv;cases hu;have hs : (⟨s.toArray⟩ : ByteArray).size = 1 := h1
 match n, h3 with
 | 0, _ =>
  refine (Any.strings_Repeat_zero Y5h ⟨s.toArray⟩ w).mono ?_;rintro e w' ⟨rfl, rfl⟩;exact ⟨⟨_, rfl, .str []⟩, Below.refl _ _⟩
 | 1, _ =>
  refine (Any.strings_Repeat_one Y5h ⟨s.toArray⟩ w).mono ?_;rintro e w' ⟨rfl, rfl⟩;refine ⟨⟨_, rfl, ?_⟩, Below.refl _ _⟩;rw [Lib.repeatL_one];exact .str s
 | n + 2, h3 =>
  refine (Any.strings_Repeat_main Y5h repX ⟨s.toArray⟩ (n + 2) w (by omega) (by omega) (by rw [hs]; omega) (by omega)).mono ?_;rintro e w' ⟨rfl, hb⟩;exact ⟨⟨_, rfl, .str _⟩, hb⟩
theorem Y4o : SigOK CX 67 Y5W := fun x r h => by
 have h : repF x.1 x.2.1 = some r := h;unfold repF at h;split at h
 ·rename_i hc;cases h;have := Y5i x.1 (show Int from x.2.1).toNat hc.1 (by have h2 : 0 <= (show Int from x.2.1) := hc.2.1; have h3 : (show Int from x.2.1) <= 1000000 := hc.2.2; omega);rw [Int.toNat_of_nonneg hc.2.1] at this;exact this
 cases h
def Y0K (s c : List UInt8) : Option (List UInt8) := if c = blkL /\ s.length <= 4611686018427387904 then some (Y0L s) else none
def Y80 : Sig := .n [.d .str, .d .str] (.d .str) (fun x => Y0K x.1 x.2.1)
theorem Y7b : SigOK CX 75 Y80 := fun x r h => by
 have h : Y0K x.1 x.2.1 = some r := h;unfold Y0K at h;split at h
 ·rename_i hc;cases h;obtain ⟨s, c, t⟩ := x;obtain ⟨h1, h2⟩ := hc;have h1 : c = blkL := h1;subst h1;exact Y70 s h2
 cases h
def X9h (s c : List UInt8) : Option (List UInt8) := if c = blkL /\ s.length <= 4611686018427387904 then some (X00 (fun c => decide (c ∈ blkL)) s s.length) else none
def Y51 : Sig := .n [.d .str, .d .str] (.d .str) (fun x => X9h x.1 x.2.1)
theorem Y4u : SigOK CX 77 Y51 := fun x r h => by
 have h : X9h x.1 x.2.1 = some r := h;unfold X9h at h;split at h
 ·rename_i hc;cases h;obtain ⟨s, c, t⟩ := x;obtain ⟨h1, h2⟩ := hc;have h1 : c = blkL := h1;subst h1;exact X9i s h2
 cases h
def X5J : Sig := .n [.d .str, .d (.int .u8)] (.d (.int .i64)) (fun x => X0B x.1 x.2.1)
theorem X7d : SigOK CX 107 X5J := fun x r h => by
 have h : X0B x.1 x.2.1 = some r := h;unfold X0B at h;split at h
 ·rename_i hl;cases h;have := X3N x.1 (UInt8.ofNat (show Int from x.2.1).toNat);rw [Z4I hl] at this;exact this
 cases h
def X3R (x1 : Int) (o0 : Bool × Unit × Int × Unit) (o1 : List Int) : Option ((Bool) × ((Bool × Unit × Int × Unit) × (List Int) × Unit)) := (
 Option.bind (α := (Unit) × ((Bool × Unit × Int × Unit) × (List Int) × Unit)) (some ((), ((true, (), ((o0.1, (), o0.2.2.1, ())).2.2.1, ()), o1, ()))) fun r1 => (
 cond (decide ((r1.2.2.1.length + ([x1]).length) * 1 <= 140737488355328)) (some (true, ((r1.2.1.1, (), r1.2.1.2.2.1, ()), r1.2.2.1 ++ ([x1]), ()))) none))
def Y8f : An := .leaf
def Y8B : Nat -> RH := fun r => match r with
 | 1 => { H := { ac := [6] } }
 | 2 => { H := { ty := [(14, (.int .u8))] } }
 | _ => {}
def X77 : Sig := .o { pre := [(false, .cells 50 [(.mref 0 0), (.gs 1 (.int .u8)), (.d (.int .i64))]), (false, .tg (.int .u8) 5)], args := [(.ref 0 0), (.d (.int .u8))], post := [(true, .cells 50 [(.mref 0 0), (.gs 1 (.int .u8)), (.d (.int .i64))]), (false, .tg (.int .u8) 5)], res := (.d .erri), f := fun x => X3R x.1.2.1 x.2.1 x.2.2.1 }
theorem X6R : SigOK CX 30 X77 := X1h (l := [(51, X3Z)]) ⟨X30, trivial⟩ (hint := Y8B) (an := Y8f) (by kernel_rfl) (fun x => by kernel_rfl)
def X4w (x1 : List UInt8) (o0 : Bool × Unit × Int × Unit) (o1 : List Int) : Option ((Int × Bool × Unit) × ((Bool × Unit × Int × Unit) × (List Int) × Unit)) := (
 Option.bind (α := (Unit) × ((Bool × Unit × Int × Unit) × (List Int) × Unit)) (some ((), ((true, (), ((o0.1, (), o0.2.2.1, ())).2.2.1, ()), o1, ()))) fun r1 => (
 cond (decide ((r1.2.2.1.length + (x1.map fun b => (b.toNat : Int)).length) * 1 <= 140737488355328)) (some (((x1.length : Int), true, ()), ((r1.2.1.1, (), r1.2.1.2.2.1, ()), r1.2.2.1 ++ (x1.map fun b => (b.toNat : Int)), ()))) none))
def Z04 : An := .leaf
def Z1g : Nat -> RH := fun r => match r with
 | 1 => { H := { ac := [7] } }
 | 2 => { H := { ty := [(14, (.int .u8))] } }
 | _ => {}
def Y09 : Sig := .o { pre := [(false, .cells 50 [(.mref 0 0), (.gs 1 (.int .u8)), (.d (.int .i64))]), (false, .tg (.int .u8) 5)], args := [(.ref 0 0), (.d .str)], post := [(true, .cells 50 [(.mref 0 0), (.gs 1 (.int .u8)), (.d (.int .i64))]), (false, .tg (.int .u8) 5)], res := (.tup [(.d (.int .i64)), (.d .erri)]), f := fun x => X4w x.1.2.1 x.2.1 x.2.2.1 }
theorem X79 : SigOK CX 31 Y09 := X1h (l := [(51, X3Z)]) ⟨X30, trivial⟩ (hint := Z1g) (an := Z04) (by kernel_rfl) (fun x => by kernel_rfl)
def Y0V (x0 : Fm) : Option (Bool) := (
 some (cond (!decide (x0.k = 3)) true (decide ((x0.l.length : Int) = 0))))
def Z29 : An := .leaf
def Y8L : Sig := .n [(.d .form)] (.d .bool) (fun x => Y0V x.1)
theorem Y60 : SigOK CX 42 Y8L := X0i (l := []) trivial (hint := fun _ => {}) (an := Z29) (fun x => by kernel_rfl)
def X3O (x0 : Int) : Option (Bool) := (
 some (cond (decide (x0 >= 20)) (decide (x0 <= 200)) false))
def Y79 : An := .leaf
def X71 : Sig := .n [(.d (.int .i64))] (.d .bool) (fun x => X3O x.1)
theorem X6O : SigOK CX 23 X71 := X0i (l := []) trivial (hint := fun _ => {}) (an := Y79) (fun x => by kernel_rfl)
def Y0U (x0 : Fm) : Option (List UInt8 × Int × Unit) := (
 Option.bind (α := List UInt8) (Y18 (Fm.eta x0)) fun r1 => (
 cond (decide (r1 = [])) (some ([40], 0, ())) (cond ((ixOK 1 x0.l.length) || !(decide ((x0.l.length : Int) > 1))) (cond (cond (decide ((x0.l.length : Int) > 1)) (!decide ((x0.l.getD (1 : Int).toNat (Fm.mk 0 0 [] [])).k = 3)) false) (cond (decide (([40]).length + r1.length <= 9223372036854775807)) (cond (decide ((([40]) ++ r1).length + ([32]).length <= 9223372036854775807)) (cond (ixOK 1 x0.l.length) (Option.bind (α := List UInt8) (X5A (Fm.eta (x0.l.getD (1 : Int).toNat (Fm.mk 0 0 [] [])))) fun r2 => (
 cond (decide (((([40]) ++ r1) ++ ([32])).length + r2.length <= 9223372036854775807)) (some (((([40]) ++ r1) ++ ([32])) ++ r2, 2, ())) none)) none) none) none) (cond (decide (([40]).length + r1.length <= 9223372036854775807)) (some (([40]) ++ r1, 1, ())) none)) none)))
def Z28 : An := .leaf
def Y8F : Sig := .n [(.d .form)] (.tup [(.d .str), (.d (.int .i64))]) (fun x => Y0U x.1)
theorem Y6Z : SigOK CX 43 Y8F := X0i (l := [(66, Z2K), (41, Y1a)]) ⟨Y8G, X8a, trivial⟩ (hint := fun _ => {}) (an := Z28) (fun x => by kernel_rfl)
def X3S (x1 : Int) (o0 : Bool × Unit × Int × Unit) (o1 : List Int) : Option ((Unit) × ((Bool × Unit × Int × Unit) × (List Int) × Unit)) := (
 Option.bind (α := (Bool) × ((Bool × Unit × Int × Unit) × (List Int) × Unit)) (X3R 10 (o0.1, (), o0.2.2.1, ()) o1) fun r1 => (
 Option.bind (α := List UInt8) (repF ([32]) (x1)) fun r2 => (
 Option.bind (α := (Int × Bool × Unit) × ((Bool × Unit × Int × Unit) × (List Int) × Unit)) (X4w r2 (r1.2.1.1, (), r1.2.1.2.2.1, ()) r1.2.2.1) fun r3 => (
 some ((), ((r3.2.1.1, (), r3.2.1.2.2.1, ()), r3.2.2.1, ()))))))
def Y8h : An := .leaf
def Y8D : Nat -> RH := fun r => match r with
 | 0 => { H := { ac := [7] } }
 | 1 => { H := { ac := [13] } }
 | _ => {}
def Y2k : Sig := .o { pre := [(false, .cells 50 [(.mref 0 0), (.gs 1 (.int .u8)), (.d (.int .i64))]), (false, .tg (.int .u8) 5)], args := [(.ref 0 0), (.d (.int .i64))], post := [(true, .cells 50 [(.mref 0 0), (.gs 1 (.int .u8)), (.d (.int .i64))]), (false, .tg (.int .u8) 5)], res := (.tup []), f := fun x => X3S x.1.2.1 x.2.1 x.2.2.1 }
theorem Y2l : SigOK CX 44 Y2k := X1h (l := [(30, X77), (67, Y5W), (31, Y09)]) ⟨X6R, Y4o, X79, trivial⟩ (hint := Y8D) (an := Y8h) (by kernel_rfl) (fun x => by kernel_rfl)
def X2X (k : Nat) (x1 : Fm) (x2 : Int) (x3 : Int) (o0 : Bool × Unit × Int × Unit) (o1 : List Int) : Option ((Unit) × ((Bool × Unit × Int × Unit) × (List Int) × Unit)) := match k with
| 0 => none
| k + 1 => (
 Option.bind (α := List UInt8) (X5A (Fm.eta x1)) fun r1 => (
 Option.bind (α := Bool) (Y0V (Fm.eta x1)) fun r2 => (
 cond (cond r2 true (decide (IntKind.wrap .i64 (IntKind.wrap .i64 (x2 + (r1.length : Int)) + x3) <= o0.2.2.1))) (Option.bind (α := (Int × Bool × Unit) × ((Bool × Unit × Int × Unit) × (List Int) × Unit)) (X4w r1 (o0.1, (), o0.2.2.1, ()) o1) fun r3 => (
 some ((), ((r3.2.1.1, (), r3.2.1.2.2.1, ()), r3.2.2.1, ())))) (Option.bind (α := (List UInt8) × Int × Unit) (Y0U (Fm.eta x1)) fun r4 => (
 Option.bind (α := (Int × Bool × Unit) × ((Bool × Unit × Int × Unit) × (List Int) × Unit)) (X4w r4.1 (o0.1, (), o0.2.2.1, ()) o1) fun r5 => (
 Option.bind (α := (Unit × Int × (Int × Int × List UInt8 × (List Fm) × Unit) × Int × Int × Unit) × ((Bool × Unit × Int × Unit) × (List Int) × Unit))
 (cond (decide (r4.2.1 = 0)) (some (((), x3, (x1.k, x1.n, x1.t, x1.l, ()), r4.2.1, IntKind.wrap .i64 (x2 + 1), ()), ((r5.2.1.1, (), r5.2.1.2.2.1, ()), r5.2.2.1, ()))) (some (((), x3, (x1.k, x1.n, x1.t, x1.l, ()), r4.2.1, IntKind.wrap .i64 (x2 + 2), ()), ((r5.2.1.1, (), r5.2.1.2.2.1, ()), r5.2.2.1, ())))) fun d6 => (
 let l7 := d6.2.2.1
 let v3_8 := d6.1.2.1
 let v10_9 := d6.1.2.2.2.1
 let v11_10 := d6.1.2.2.2.2.1
 Option.bind (α := (Unit × Unit) × ((Bool × Unit × Int × Unit) × (List Int) × Unit))
 (X0v (L := (Unit × Int × (Int × Int × List UInt8 × (List Fm) × Unit) × Int × Int × Unit) × ((Bool × Unit × Int × Unit) × (List Int) × Unit)) (R := (Unit × Unit) × ((Bool × Unit × Int × Unit) × (List Int) × Unit)) (fun d11 => (
 let l12 := d11.2.2.1
 let v3_13 := d11.1.2.1
 let v11_14 := d11.1.2.2.2.1
 let v12_15 := d11.1.2.2.2.2.1
 cond (decide (v12_15 < (d11.1.2.2.1.2.2.2.1.length : Int))) (Option.bind (α := (Unit × Int × (Int × Int × List UInt8 × (List Fm) × Unit) × Int × Int × Unit) × ((Bool × Unit × Int × Unit) × (List Int) × Unit))
 (cond (decide (v12_15 > 0)) (Option.bind (α := (Unit) × ((Bool × Unit × Int × Unit) × (List Int) × Unit)) (X3S v11_14 (d11.2.1.1, (), d11.2.1.2.2.1, ()) l12) fun r16 => (
 some (((), v3_13, (d11.1.2.2.1.1, d11.1.2.2.1.2.1, d11.1.2.2.1.2.2.1, d11.1.2.2.1.2.2.2.1, ()), v11_14, v12_15, ()), ((r16.2.1.1, (), r16.2.1.2.2.1, ()), r16.2.2.1, ())))) (some (((), v3_13, (d11.1.2.2.1.1, d11.1.2.2.1.2.1, d11.1.2.2.1.2.2.1, d11.1.2.2.1.2.2.2.1, ()), v11_14, v12_15, ()), ((d11.2.1.1, (), d11.2.1.2.2.1, ()), l12, ())))) fun d17 => (
 let l18 := d17.2.2.1
 let v3_19 := d17.1.2.1
 let v11_20 := d17.1.2.2.2.1
 let v12_21 := d17.1.2.2.2.2.1
 Option.bind (α := (Unit × Int × (Int × Int × List UInt8 × (List Fm) × Unit) × Int × Int × Int × Unit) × ((Bool × Unit × Int × Unit) × (List Int) × Unit))
 (cond (decide (v12_21 = IntKind.wrap .i64 ((d17.1.2.2.1.2.2.2.1.length : Int) - 1))) (some (((), v3_19, (d17.1.2.2.1.1, d17.1.2.2.1.2.1, d17.1.2.2.1.2.2.1, d17.1.2.2.1.2.2.2.1, ()), v11_20, v12_21, IntKind.wrap .i64 (v3_19 + 1), ()), ((d17.2.1.1, (), d17.2.1.2.2.1, ()), l18, ()))) (some (((), v3_19, (d17.1.2.2.1.1, d17.1.2.2.1.2.1, d17.1.2.2.1.2.2.1, d17.1.2.2.1.2.2.2.1, ()), v11_20, v12_21, 0, ()), ((d17.2.1.1, (), d17.2.1.2.2.1, ()), l18, ())))) fun d22 => (
 let l23 := d22.2.2.1
 let v3_24 := d22.1.2.1
 let v11_25 := d22.1.2.2.2.1
 let v12_26 := d22.1.2.2.2.2.1
 let v13_27 := d22.1.2.2.2.2.2.1
 cond (ixOK v12_26 d22.1.2.2.1.2.2.2.1.length) (Option.bind (α := (Unit) × ((Bool × Unit × Int × Unit) × (List Int) × Unit)) (X2X k (Fm.eta (d22.1.2.2.1.2.2.2.1.getD v12_26.toNat (Fm.mk 0 0 [] []))) v11_25 v13_27 (d22.2.1.1, (), d22.2.1.2.2.1, ()) l23) fun r28 => (
 some (Step.next (((), v3_24, (d22.1.2.2.1.1, d22.1.2.2.1.2.1, d22.1.2.2.1.2.2.1, d22.1.2.2.1.2.2.2.1, ()), v11_25, IntKind.wrap .i64 (v12_26 + 1), ()), ((r28.2.1.1, (), r28.2.1.2.2.1, ()), r28.2.2.1, ()))))) none))) (some (Step.done (((), ()), ((d11.2.1.1, (), d11.2.1.2.2.1, ()), l12, ())))))) (((), v3_8, (d6.1.2.2.1.1, d6.1.2.2.1.2.1, d6.1.2.2.1.2.2.1, d6.1.2.2.1.2.2.2.1, ()), v11_10, v10_9, ()), ((d6.2.1.1, (), d6.2.1.2.2.1, ()), l7, ()))) fun d29 => (
 let l30 := d29.2.2.1
 Option.bind (α := (Bool) × ((Bool × Unit × Int × Unit) × (List Int) × Unit)) (X3R 41 (d29.2.1.1, (), d29.2.1.2.2.1, ()) l30) fun r31 => (
 some ((), ((r31.2.1.1, (), r31.2.1.2.2.1, ()), r31.2.2.1, ())))))))))))
def Y8g : An := .seq (.leaf) (.seq (.leaf) (.seq (.leaf) (.seq (.leaf) (.seq (.leaf) (.seq (.leaf) (.join false { env := [(0, (.ref 0 0)), (3, (.d (.int .i64))), (5, (.rptr [(.d (.int .i64)), (.d (.int .i64)), (.d .str), (.d (.slice .form))])), (10, (.d (.int .i64))), (11, (.d (.int .i64)))], objs := [(true, .cells 50 [(.mref 0 0), (.gs 1 (.int .u8)), (.d (.int .i64))]), (false, .tg (.int .u8) 5)] } (.leaf) (.join false { env := [(0, (.ref 0 0))], objs := [(true, .cells 50 [(.mref 0 0), (.gs 1 (.int .u8)), (.d (.int .i64))]), (false, .tg (.int .u8) 5)] } (.seq (.leaf) (.block (.loop { env := [(0, (.ref 0 0)), (3, (.d (.int .i64))), (5, (.rptr [(.d (.int .i64)), (.d (.int .i64)), (.d .str), (.d (.slice .form))])), (11, (.d (.int .i64))), (12, (.d (.int .i64)))], objs := [(true, .cells 50 [(.mref 0 0), (.gs 1 (.int .u8)), (.d (.int .i64))]), (false, .tg (.int .u8) 5)] } (.seq (.leaf) (.seq (.block (.join false { env := [(0, (.ref 0 0)), (3, (.d (.int .i64))), (5, (.rptr [(.d (.int .i64)), (.d (.int .i64)), (.d .str), (.d (.slice .form))])), (11, (.d (.int .i64))), (12, (.d (.int .i64)))], objs := [(true, .cells 50 [(.mref 0 0), (.gs 1 (.int .u8)), (.d (.int .i64))]), (false, .tg (.int .u8) 5)] } (.leaf) (.seq (.leaf) (.join false { env := [(0, (.ref 0 0)), (3, (.d (.int .i64))), (5, (.rptr [(.d (.int .i64)), (.d (.int .i64)), (.d .str), (.d (.slice .form))])), (11, (.d (.int .i64))), (12, (.d (.int .i64))), (13, (.d (.int .i64)))], objs := [(true, .cells 50 [(.mref 0 0), (.gs 1 (.int .u8)), (.d (.int .i64))]), (false, .tg (.int .u8) 5)] } (.leaf) (.leaf))))) (.leaf)))))) (.leaf))))))))
def Y8C : Nat -> RH := fun r => match r with
 | 3 => { H := { ac := [35] } }
 | 5 => { H := { ac := [45] } }
 | 13 => { H := { ac := [64] } }
 | 17 => { H := { ac := [81] } }
 | 18 => { H := { ac := [85] } }
 | _ => {}
def Y2j (k : Nat) : Sig := .o { pre := [(false, .cells 50 [(.mref 0 0), (.gs 1 (.int .u8)), (.d (.int .i64))]), (false, .tg (.int .u8) 5)], args := [(.ref 0 0), (.d .form), (.d (.int .i64)), (.d (.int .i64))], post := [(true, .cells 50 [(.mref 0 0), (.gs 1 (.int .u8)), (.d (.int .i64))]), (false, .tg (.int .u8) 5)], res := (.tup []), f := fun x => X2X k x.1.2.1 x.1.2.2.1 x.1.2.2.2.1 x.2.1 x.2.2.1 }
theorem X6S : ∀ k, SigOK CX 25 (Y2j k)
| 0 => ⟨by kernel_rfl, fun x r h => by cases h⟩
| k + 1 => by
 have ih := X6S k;exact X1h (l := [(41, Y1a), (42, Y8L), (31, Y09), (43, Y8F), (44, Y2k), (25, (Y2j k)), (30, X77)]) ⟨X8a, Y60, X79, Y6Z, Y2l, ih, X6R, trivial⟩ (hint := Y8C) (an := Y8g) (by kernel_rfl) (fun x => by kernel_rfl)
def X7V (x1 : Fm) (x2 : Int) (x3 : Int) (o0 : Bool × Unit × Int × Unit) (o1 : List Int) : Option ((Unit) × ((Bool × Unit × Int × Unit) × (List Int) × Unit)) := limF fun k => X2X k x1 x2 x3 o0 o1
def X78 : Sig := .o { pre := [(false, .cells 50 [(.mref 0 0), (.gs 1 (.int .u8)), (.d (.int .i64))]), (false, .tg (.int .u8) 5)], args := [(.ref 0 0), (.d .form), (.d (.int .i64)), (.d (.int .i64))], post := [(true, .cells 50 [(.mref 0 0), (.gs 1 (.int .u8)), (.d (.int .i64))]), (false, .tg (.int .u8) 5)], res := (.tup []), f := fun x => X7V x.1.2.1 x.1.2.2.1 x.1.2.2.2.1 x.2.1 x.2.2.1 }
theorem X9w : SigOK CX 25 X78 := SigOK.limO X6S fun x r h => X3z h
def X2q (x0 : Fm) (x1 : Int) : Option (List UInt8 × Int × Unit) := (
 Option.bind (α := Bool) (X3O x1) fun r1 => (
 Option.bind (α := Bool) (cond (!(!r1)) (X4z (Fm.eta x0)) (some false)) fun r2 => (
 cond (cond (!r1) true (!r2)) (some ([], 1, ())) (Option.bind (α := (Unit) × ((Bool × Unit × Int × Unit) × (List Int) × Unit)) (X7V (Fm.eta x0) 0 0 (false, (), x1, ()) ([] : List Int)) fun r3 => (
 Option.bind (α := (List UInt8) × (Unit)) (Option.map (fun s => (s, ())) (bytesOf (r3.2.2.1))) fun r4 => (
 some (r4.1, 0, ())))))))
def Y34 : An := .leaf
def Y39 : Nat -> RH := fun r => match r with
 | 3 => { H := { mb := [17] } }
 | 4 => { H := { ac := [20] } }
 | 5 => { H := { ac := [24] } }
 | _ => {}
def X73 : Sig := .n [(.d .form), (.d (.int .i64))] (.tup [(.d .str), (.d (.int .i64))]) (fun x => X2q x.1 x.2.1)
theorem X9u : SigOK CX 9 X73 := X0i (l := [(23, X71), (24, X7v), (25, X78), (26, Y2D)]) ⟨X6O, X5d, X9w, Y2E, trivial⟩ (hint := Y39) (an := Y34) (fun x => by kernel_rfl)
def X3U (x0 : List UInt8) (x1 : List UInt8) : Option (Int) := (
 cond (cond (decide ((x1.length : Int) = 0)) true (decide (x1 = x0))) (some 0) (cond (decide ((x1.length : Int) = 1)) (cond (ixOK 0 x1.length) (Option.bind (α := Int) (X0B (x0) (X0b x1 0)) fun r1 => (
 some r1)) none) (cond (decide ((x1.length : Int) >= (x0.length : Int))) (some (-1)) (none))))
def Y8p : An := .leaf
def X8h : Sig := .n [(.d .str), (.d .str)] (.d (.int .i64)) (fun x => X3U x.1 x.2.1)
theorem X6V : SigOK CX 79 X8h := X0i (l := [(107, X5J)]) ⟨X7d, trivial⟩ (hint := fun _ => {}) (an := Y8p) (fun x => by kernel_rfl)
def Y00 (x0 : List UInt8) (x1 : List UInt8) : Option (Int) := (
 Option.bind (α := Int) (X3U x0 x1) fun r1 => (
 some r1))
def Z1b : An := .leaf
def Y5Z : Sig := .n [(.d .str), (.d .str)] (.d (.int .i64)) (fun x => Y00 x.1 x.2.1)
theorem Y4s : SigOK CX 52 Y5Z := X0i (l := [(79, X8h)]) ⟨X6V, trivial⟩ (hint := fun _ => {}) (an := Z1b) (fun x => by kernel_rfl)
def X3p (x0 : List UInt8) (x1 : List UInt8) : Option (Bool) := (
 Option.bind (α := Int) (Y00 x0 x1) fun r1 => (
 some (decide (r1 >= 0))))
def Y36 : An := .leaf
def X8g : Sig := .n [(.d .str), (.d .str)] (.d .bool) (fun x => X3p x.1 x.2.1)
theorem X9y : SigOK CX 32 X8g := X0i (l := [(52, Y5Z)]) ⟨Y4s, trivial⟩ (hint := fun _ => {}) (an := Y36) (fun x => by kernel_rfl)
def Y38 (x0 : List UInt8) (x1 : List UInt8) : Option (List UInt8 × List UInt8 × Bool × Unit) := (
 Option.bind (α := Int) (X3U x0 x1) fun r1 => (
 cond (decide (r1 >= 0)) (cond (slOK 0 r1 x0.length) (cond (slOK (IntKind.wrap .i64 (r1 + (x1.length : Int))) (x0.length : Int) x0.length) (some ((x0.drop (0 : Int).toNat).take (r1.toNat - (0 : Int).toNat), (x0.drop (IntKind.wrap .i64 (r1 + (x1.length : Int))).toNat).take ((x0.length : Int).toNat - (IntKind.wrap .i64 (r1 + (x1.length : Int))).toNat), true, ())) none) none) (some (x0, [], false, ()))))
def Z3l : An := .leaf
def Y8Y : Sig := .n [(.d .str), (.d .str)] (.tup [(.d .str), (.d .str), (.d .bool)]) (fun x => Y38 x.1 x.2.1)
theorem Y7a : SigOK CX 116 Y8Y := X0i (l := [(79, X8h)]) ⟨X6V, trivial⟩ (hint := fun _ => {}) (an := Z3l) (fun x => by kernel_rfl)
def Y8w (x0 : List UInt8) (x1 : List UInt8) : Option (List UInt8 × List UInt8 × Bool × Unit) := (
 Option.bind (α := (List UInt8) × List UInt8 × Bool × Unit) (Y38 x0 x1) fun r1 => (
 some (r1.1, r1.2.1, r1.2.2.1, ())))
def Z5r : An := .leaf
def Z2O : Sig := .n [(.d .str), (.d .str)] (.tup [(.d .str), (.d .str), (.d .bool)]) (fun x => Y8w x.1 x.2.1)
theorem Y8W : SigOK CX 76 Z2O := X0i (l := [(116, Y8Y)]) ⟨Y7a, trivial⟩ (hint := fun _ => {}) (an := Z5r) (fun x => by kernel_rfl)
def X4v (x0 : List UInt8) (x1 : Int) : Option (Int) := (
 Option.bind (α := Step ((Unit) × (Unit)) (Int))
 (X0v (L := (List UInt8 × Int × Int × Unit) × (Unit)) (R := Step ((Unit) × (Unit)) (Int)) (fun d1 => (
 let v0_2 := d1.1.1
 let v1_3 := d1.1.2.1
 let v5_4 := d1.1.2.2.1
 cond (decide (v5_4 >= 0)) (cond (ixOK v5_4 v0_2.length) (cond (decide (X0b v0_2 v5_4 = v1_3)) (some (Step.done (Step.done v5_4))) (some (Step.next ((v0_2, v1_3, IntKind.wrap .i64 (v5_4 - 1), ()), ())))) none) (some (Step.done (Step.next ((), ())))))) ((x0, x1, IntKind.wrap .i64 ((x0.length : Int) - 1), ()), ())) fun qd5 => match qd5 with
 | .next d5 => (
 some (-1))
 | .done r => some r)
def Y6Q : An := .seq (.leaf) (.join true ⟨[], []⟩ (.seq (.leaf) (.block (.loop ⟨[(0, (.d .str)), (1, (.d (.int .u8))), (5, (.d (.int .i64)))], []⟩ (.leaf)))) (.leaf))
def X9N : Sig := .n [(.d .str), (.d (.int .u8))] (.d (.int .i64)) (fun x => X4v x.1 x.2.1)
theorem Y07 : SigOK CX 108 X9N := X0i (l := []) trivial (hint := fun _ => {}) (an := Y6Q) (fun x => by kernel_rfl)
def X5z (x0 : List UInt8) (x1 : Int) : Option (Int) := (
 Option.bind (α := Int) (X4v x0 x1) fun r1 => (
 some r1))
def Y8a : An := .leaf
def Y2c : Sig := .n [(.d .str), (.d (.int .u8))] (.d (.int .i64)) (fun x => X5z x.1 x.2.1)
theorem Y2d : SigOK CX 74 Y2c := X0i (l := [(108, X9N)]) ⟨Y07, trivial⟩ (hint := fun _ => {}) (an := Y8a) (fun x => by kernel_rfl)
def X3n (x0 : List UInt8) : Option ((List Int) × (List Int) × Unit) := (
 Option.bind (α := (Unit × Unit × Unit) × ((List Int) × (List Int) × Unit))
 (X0v (L := (List UInt8 × Unit × Unit × Int × Int × Int × Unit) × ((List Int) × (List Int) × Unit)) (R := (Unit × Unit × Unit) × ((List Int) × (List Int) × Unit)) (fun d1 => (
 let l2 := d1.2.1
 let l3 := d1.2.2.1
 let v0_4 := d1.1.1
 let v4_5 := d1.1.2.2.2.1
 let v5_6 := d1.1.2.2.2.2.1
 let v6_7 := d1.1.2.2.2.2.2.1
 cond (decide (v6_7 < (v0_4.length : Int))) (Option.bind (α := (List UInt8 × Unit × Unit × Int × Int × Int × Unit) × ((List Int) × (List Int) × Unit))
 (cond (ixOK v6_7 v0_4.length) (cond (decide (X0b v0_4 v6_7 = 59)) (cond (slOK v6_7 (v0_4.length : Int) v0_4.length) (Option.bind (α := Int) (X0B ((v0_4.drop v6_7.toNat).take ((v0_4.length : Int).toNat - v6_7.toNat)) (10)) fun r8 => (
 Option.bind (α := (List UInt8 × Unit × Unit × Int × Int × Int × Unit) × ((List Int) × (List Int) × Unit))
 (cond (decide (r8 < 0)) (some ((v0_4, (), (), v4_5, v6_7, IntKind.wrap .i64 ((v0_4.length : Int) - v6_7), ()), (l2, l3, ()))) (some ((v0_4, (), (), v4_5, v6_7, r8, ()), (l2, l3, ())))) fun d9 => (
 let l10 := d9.2.1
 let l11 := d9.2.2.1
 let v0_12 := d9.1.1
 let v4_13 := d9.1.2.2.2.1
 let v6_14 := d9.1.2.2.2.2.1
 let v8_15 := d9.1.2.2.2.2.2.1
 cond (slOK 0 v6_14 v0_12.length) (Option.bind (α := Int) (X5z ((v0_12.drop (0 : Int).toNat).take (v6_14.toNat - (0 : Int).toNat)) 10) fun r16 => (
 cond (slOK (IntKind.wrap .i64 (r16 + 1)) v6_14 v0_12.length) (Option.bind (α := (List UInt8 × Unit × Unit × Int × Int × Int × Unit) × ((List Int) × (List Int) × Unit))
 (Option.bind (α := List UInt8) (cond (decide (v4_13 = 0)) (Y0K ((v0_12.drop (IntKind.wrap .i64 (r16 + 1)).toNat).take (v6_14.toNat - (IntKind.wrap .i64 (r16 + 1)).toNat)) ([32, 9])) (some ([] : List UInt8))) fun r17 => (
 cond (cond (decide (v4_13 = 0)) (decide (r17 = [])) false) (cond (decide ((l10.length + ([v6_14]).length) * 8 <= 140737488355328)) (some ((v0_12, (), (), v4_13, v6_14, v8_15, ()), (l10 ++ ([v6_14]), l11, ()))) none) (some ((v0_12, (), (), v4_13, v6_14, v8_15, ()), (l10, l11, ()))))) fun d18 => (
 let l19 := d18.2.1
 let l20 := d18.2.2.1
 let v0_21 := d18.1.1
 let v4_22 := d18.1.2.2.2.1
 let v6_23 := d18.1.2.2.2.2.1
 let v8_24 := d18.1.2.2.2.2.2.1
 some ((v0_21, (), (), v4_22, (-1), IntKind.wrap .i64 (v6_23 + IntKind.wrap .i64 (v8_24 - 1)), ()), (l19, l20, ())))) none)) none))) none) (cond (decide (X0b v0_4 v6_7 = 34)) (Option.bind (α := (List UInt8 × Unit × Unit × Int × Int × Unit) × ((List Int) × (List Int) × Unit))
 (cond (cond (decide (v4_5 = 0)) (decide (v5_6 < 0)) false) (cond (decide ((l3.length + ([v6_7]).length) * 8 <= 140737488355328)) (some ((v0_4, (), (), v4_5, v6_7, ()), (l2, l3 ++ ([v6_7]), ()))) none) (some ((v0_4, (), (), v4_5, v6_7, ()), (l2, l3, ())))) fun d25 => (
 let l26 := d25.2.1
 let l27 := d25.2.2.1
 let v0_28 := d25.1.1
 let v4_29 := d25.1.2.2.2.1
 let v6_30 := d25.1.2.2.2.2.1
 Option.bind (α := (List UInt8 × Unit × Unit × Int × Int × Unit) × ((List Int) × (List Int) × Unit))
 (X0v (L := (List UInt8 × Unit × Unit × Int × Int × Unit) × ((List Int) × (List Int) × Unit)) (R := (List UInt8 × Unit × Unit × Int × Int × Unit) × ((List Int) × (List Int) × Unit)) (fun d31 => (
 let l32 := d31.2.1
 let l33 := d31.2.2.1
 let v0_34 := d31.1.1
 let v4_35 := d31.1.2.2.2.1
 let v6_36 := d31.1.2.2.2.2.1
 cond ((ixOK v6_36 v0_34.length) || !(decide (v6_36 < (v0_34.length : Int)))) (cond (cond (decide (v6_36 < (v0_34.length : Int))) (!decide (X0b v0_34 v6_36 = 34)) false) (Option.bind (α := (List UInt8 × Unit × Unit × Int × Int × Unit) × ((List Int) × (List Int) × Unit))
 (cond (ixOK v6_36 v0_34.length) (cond (decide (X0b v0_34 v6_36 = 92)) (some ((v0_34, (), (), v4_35, IntKind.wrap .i64 (v6_36 + 1), ()), (l32, l33, ()))) (some ((v0_34, (), (), v4_35, v6_36, ()), (l32, l33, ())))) none) fun d37 => (
 let l38 := d37.2.1
 let l39 := d37.2.2.1
 let v0_40 := d37.1.1
 let v4_41 := d37.1.2.2.2.1
 let v6_42 := d37.1.2.2.2.2.1
 some (Step.next ((v0_40, (), (), v4_41, IntKind.wrap .i64 (v6_42 + 1), ()), (l38, l39, ()))))) (some (Step.done ((v0_34, (), (), v4_35, v6_36, ()), (l32, l33, ()))))) none)) ((v0_28, (), (), v4_29, IntKind.wrap .i64 (v6_30 + 1), ()), (l26, l27, ()))) fun d43 => (
 let l44 := d43.2.1
 let l45 := d43.2.2.1
 let v0_46 := d43.1.1
 let v4_47 := d43.1.2.2.2.1
 let v6_48 := d43.1.2.2.2.2.1
 some ((v0_46, (), (), v4_47, (-1), v6_48, ()), (l44, l45, ()))))) (cond (decide (X0b v0_4 v6_7 = 40)) (Option.bind (α := (List UInt8 × Unit × Unit × Int × Int × Unit) × ((List Int) × (List Int) × Unit))
 (cond (decide (v4_5 = 0)) (cond (decide ((l3.length + ([v6_7]).length) * 8 <= 140737488355328)) (some ((v0_4, (), (), v4_5, v6_7, ()), (l2, l3 ++ ([v6_7]), ()))) none) (some ((v0_4, (), (), v4_5, v6_7, ()), (l2, l3, ())))) fun d49 => (
 let l50 := d49.2.1
 let l51 := d49.2.2.1
 let v0_52 := d49.1.1
 let v4_53 := d49.1.2.2.2.1
 let v6_54 := d49.1.2.2.2.2.1
 some ((v0_52, (), (), IntKind.wrap .i64 (v4_53 + 1), (-1), v6_54, ()), (l50, l51, ())))) (cond (decide (X0b v0_4 v6_7 = 41)) (some ((v0_4, (), (), IntKind.wrap .i64 (v4_5 - 1), (-1), v6_7, ()), (l2, l3, ()))) (cond (cond (cond (decide (X0b v0_4 v6_7 = 32)) true (decide (X0b v0_4 v6_7 = 9))) true (decide (X0b v0_4 v6_7 = 10))) (some ((v0_4, (), (), v4_5, (-1), v6_7, ()), (l2, l3, ()))) (cond (decide (v5_6 < 0)) (cond (decide (v4_5 = 0)) (cond (decide ((l3.length + ([v6_7]).length) * 8 <= 140737488355328)) (some ((v0_4, (), (), v4_5, v6_7, v6_7, ()), (l2, l3 ++ ([v6_7]), ()))) none) (some ((v0_4, (), (), v4_5, v6_7, v6_7, ()), (l2, l3, ())))) (some ((v0_4, (), (), v4_5, v5_6, v6_7, ()), (l2, l3, ()))))))))) none) fun d55 => (
 let l56 := d55.2.1
 let l57 := d55.2.2.1
 let v0_58 := d55.1.1
 let v4_59 := d55.1.2.2.2.1
 let v5_60 := d55.1.2.2.2.2.1
 let v6_61 := d55.1.2.2.2.2.2.1
 some (Step.next ((v0_58, (), (), v4_59, v5_60, IntKind.wrap .i64 (v6_61 + 1), ()), (l56, l57, ()))))) (some (Step.done (((), (), ()), (l2, l3, ())))))) ((x0, (), (), 0, (-1), 0, ()), (([] : List Int), ([] : List Int), ()))) fun d62 => (
 let l63 := d62.2.1
 let l64 := d62.2.2.1
 some (l63, l64, ())))
def Y35 : An := .seq (.leaf) (.seq (.leaf) (.join false ⟨[(2, (.gs 0 (.int .i64))), (3, (.gs 1 (.int .i64)))], [(false, .tg (.int .i64) 3), (false, .tg (.int .i64) 3)]⟩ (.seq (.leaf) (.block (.loop ⟨[(0, (.d .str)), (2, (.gs 0 (.int .i64))), (3, (.gs 1 (.int .i64))), (4, (.d (.int .i64))), (5, (.d (.int .i64))), (6, (.d (.int .i64)))], [(false, .tg (.int .i64) 3), (false, .tg (.int .i64) 3)]⟩ (.seq (.leaf) (.join false ⟨[(0, (.d .str)), (2, (.gs 0 (.int .i64))), (3, (.gs 1 (.int .i64))), (4, (.d (.int .i64))), (5, (.d (.int .i64))), (6, (.d (.int .i64)))], [(false, .tg (.int .i64) 3), (false, .tg (.int .i64) 3)]⟩ (.block (.seq (.leaf) (.block (.seq (.leaf) (.cond (.seq (.leaf) (.join false ⟨[(0, (.d .str)), (2, (.gs 0 (.int .i64))), (3, (.gs 1 (.int .i64))), (4, (.d (.int .i64))), (6, (.d (.int .i64))), (8, (.d (.int .i64)))], [(false, .tg (.int .i64) 3), (false, .tg (.int .i64) 3)]⟩ (.leaf) (.seq (.leaf) (.join false ⟨[(0, (.d .str)), (2, (.gs 0 (.int .i64))), (3, (.gs 1 (.int .i64))), (4, (.d (.int .i64))), (6, (.d (.int .i64))), (8, (.d (.int .i64)))], [(false, .tg (.int .i64) 3), (false, .tg (.int .i64) 3)]⟩ (.leaf) (.leaf))))) (.seq (.leaf) (.cond (.join false ⟨[(0, (.d .str)), (2, (.gs 0 (.int .i64))), (3, (.gs 1 (.int .i64))), (4, (.d (.int .i64))), (6, (.d (.int .i64)))], [(false, .tg (.int .i64) 3), (false, .tg (.int .i64) 3)]⟩ (.leaf) (.join false ⟨[(0, (.d .str)), (2, (.gs 0 (.int .i64))), (3, (.gs 1 (.int .i64))), (4, (.d (.int .i64))), (6, (.d (.int .i64)))], [(false, .tg (.int .i64) 3), (false, .tg (.int .i64) 3)]⟩ (.seq (.leaf) (.block (.loop ⟨[(0, (.d .str)), (2, (.gs 0 (.int .i64))), (3, (.gs 1 (.int .i64))), (4, (.d (.int .i64))), (6, (.d (.int .i64)))], [(false, .tg (.int .i64) 3), (false, .tg (.int .i64) 3)]⟩ (.seq (.leaf) (.join false ⟨[(0, (.d .str)), (2, (.gs 0 (.int .i64))), (3, (.gs 1 (.int .i64))), (4, (.d (.int .i64))), (6, (.d (.int .i64)))], [(false, .tg (.int .i64) 3), (false, .tg (.int .i64) 3)]⟩ (.leaf) (.leaf)))))) (.leaf))) (.seq (.leaf) (.cond (.join false ⟨[(0, (.d .str)), (2, (.gs 0 (.int .i64))), (3, (.gs 1 (.int .i64))), (4, (.d (.int .i64))), (6, (.d (.int .i64)))], [(false, .tg (.int .i64) 3), (false, .tg (.int .i64) 3)]⟩ (.leaf) (.leaf)) (.leaf)))))))))) (.leaf)))))) (.leaf)))
def Y4a : Nat -> RH := fun r => match r with
 | 12 => { H := { ty := [(50, (.int .i64))] } }
 | 17 => { H := { ty := [(67, (.int .i64))] } }
 | 26 => { H := { ty := [(96, (.int .i64))] } }
 | 37 => { H := { ty := [(124, (.int .i64))] } }
 | _ => {}
def X75 : Sig := .n [(.d .str)] (.tup [(.d (.slice (.int .i64))), (.d (.slice (.int .i64)))]) (fun x => X3n x.1)
theorem X9v : SigOK CX 49 X75 := X0i (l := [(73, X5b), (74, Y2c), (75, Y80)]) ⟨X4Y, Y2d, Y7b, trivial⟩ (hint := Y4a) (an := Y35) (fun x => by kernel_rfl)
def X2V (x0 : List UInt8) (x1 : Int) : Option (List UInt8) := (
 cond (slOK x1 (x0.length : Int) x0.length) (Option.bind (α := (List UInt8) × List UInt8 × Bool × Unit) (Y8w ((x0.drop x1.toNat).take ((x0.length : Int).toNat - x1.toNat)) ([10])) fun r1 => (
 Option.bind (α := List UInt8) (X9h (r1.1) ([32, 9])) fun r2 => (
 some r2))) none)
def Y6R : An := .leaf
def X9O : Sig := .n [(.d .str), (.d (.int .i64))] (.d .str) (fun x => X2V x.1 x.2.1)
theorem Y08 : SigOK CX 50 X9O := X0i (l := [(76, Z2O), (77, Y51)]) ⟨Y8W, Y4u, trivial⟩ (hint := fun _ => {}) (an := Y6R) (fun x => by kernel_rfl)
def X2W (x0 : List UInt8) : Option ((List (List UInt8 × Fm)) × Int × Unit) := (
 Option.bind (α := (List Fm) × Int × Unit) (Y0Z x0) fun r1 => (
 cond (!decide (r1.2.1 = 0)) (some (([] : List (List UInt8 × Fm)), r1.2.1, ())) (Option.bind (α := (List Int) × (List Int) × Unit) (X3n x0) fun r2 => (
 Option.bind (α := (List UInt8 × (List Int) × Unit × Unit) × ((List (List UInt8 × Fm)) × Unit))
 (X0v (L := (List UInt8 × (List Int) × (List Int) × Unit × (List Fm) × Int × Int × Unit) × ((List (List UInt8 × Fm)) × Unit)) (R := (List UInt8 × (List Int) × Unit × Unit) × ((List (List UInt8 × Fm)) × Unit)) (fun d3 => (
 let l4 := d3.2.1
 let v0_5 := d3.1.1
 let v6_6 := d3.1.2.1
 let v7_7 := d3.1.2.2.1
 let v26_8 := d3.1.2.2.2.2.1
 let v27_9 := d3.1.2.2.2.2.2.1
 let v28_10 := d3.1.2.2.2.2.2.2.1
 cond (decide (v28_10 < v27_9)) (Option.bind (α := (List UInt8 × (List Int) × (List Int) × Unit × (List Fm) × Int × Int × Unit) × ((List (List UInt8 × Fm)) × Unit))
 (cond (ixOK v28_10 v26_8.length) (Option.bind (α := (List UInt8 × (List Int) × (List Int) × Unit × Unit × (List Fm) × Int × Int × Unit) × ((List (List UInt8 × Fm)) × (Int × Int × List UInt8 × (List Fm) × Unit) × Unit))
 (X0v (L := (List UInt8 × (List Int) × (List Int) × Unit × Int × Unit × (List Fm) × Int × Int × Unit) × ((List (List UInt8 × Fm)) × (Int × Int × List UInt8 × (List Fm) × Unit) × Unit)) (R := (List UInt8 × (List Int) × (List Int) × Unit × Unit × (List Fm) × Int × Int × Unit) × ((List (List UInt8 × Fm)) × (Int × Int × List UInt8 × (List Fm) × Unit) × Unit)) (fun d11 => (
 let l12 := d11.2.1
 let c13 := d11.2.2.1.1
 let c14 := d11.2.2.1.2.1
 let c15 := d11.2.2.1.2.2.1
 let c16 := d11.2.2.1.2.2.2.1
 let v0_17 := d11.1.1
 let v6_18 := d11.1.2.1
 let v7_19 := d11.1.2.2.1
 let v9_20 := d11.1.2.2.2.2.1
 let v26_21 := d11.1.2.2.2.2.2.2.1
 let v27_22 := d11.1.2.2.2.2.2.2.2.1
 let v28_23 := d11.1.2.2.2.2.2.2.2.2.1
 cond ((ixOK 0 v6_18.length) || !(decide ((v6_18.length : Int) > 0))) (cond ((ixOK v9_20 v7_19.length) || !(decide ((v6_18.length : Int) > 0))) (cond (cond (decide ((v6_18.length : Int) > 0)) (decide ((v6_18.getD (0 : Int).toNat (0 : Int)) < (v7_19.getD v9_20.toNat (0 : Int)))) false) (cond (ixOK 0 v6_18.length) (Option.bind (α := List UInt8) (X2V v0_17 (v6_18.getD (0 : Int).toNat (0 : Int))) fun r24 => (
 cond (decide ((l12.length + ([(r24, (Fm.mk 0 0 ([]) ([] : List Fm)))]).length) * 72 <= 140737488355328)) (cond (slOK 1 (v6_18.length : Int) v6_18.length) (some (Step.next ((v0_17, (v6_18.drop (1 : Int).toNat).take ((v6_18.length : Int).toNat - (1 : Int).toNat), v7_19, (), v9_20, (), v26_21, v27_22, v28_23, ()), (l12 ++ ([(r24, (Fm.mk 0 0 ([]) ([] : List Fm)))]), (c13, c14, c15, c16, ()), ())))) none) none)) none) (some (Step.done ((v0_17, v6_18, v7_19, (), (), v26_21, v27_22, v28_23, ()), (l12, (c13, c14, c15, c16, ()), ()))))) none) none)) ((v0_5, v6_6, v7_7, (), v28_10, (), v26_8, v27_9, v28_10, ()), (l4, ((v26_8.getD v28_10.toNat (Fm.mk 0 0 [] [])).k, (v26_8.getD v28_10.toNat (Fm.mk 0 0 [] [])).n, (v26_8.getD v28_10.toNat (Fm.mk 0 0 [] [])).t, (v26_8.getD v28_10.toNat (Fm.mk 0 0 [] [])).l, ()), ()))) fun d25 => (
 let l26 := d25.2.1
 let c27 := d25.2.2.1.1
 let c28 := d25.2.2.1.2.1
 let c29 := d25.2.2.1.2.2.1
 let c30 := d25.2.2.1.2.2.2.1
 let v0_31 := d25.1.1
 let v6_32 := d25.1.2.1
 let v7_33 := d25.1.2.2.1
 let v26_34 := d25.1.2.2.2.2.2.1
 let v27_35 := d25.1.2.2.2.2.2.2.1
 let v28_36 := d25.1.2.2.2.2.2.2.2.1
 cond (decide ((l26.length + ([(([] : List UInt8), (Fm.mk c27 c28 c29 c30))]).length) * 72 <= 140737488355328)) (some ((v0_31, v6_32, v7_33, (), v26_34, v27_35, v28_36, ()), (l26 ++ ([(([] : List UInt8), (Fm.mk c27 c28 c29 c30))]), ()))) none)) none) fun d37 => (
 let l38 := d37.2.1
 let v0_39 := d37.1.1
 let v6_40 := d37.1.2.1
 let v7_41 := d37.1.2.2.1
 let v26_42 := d37.1.2.2.2.2.1
 let v27_43 := d37.1.2.2.2.2.2.1
 let v28_44 := d37.1.2.2.2.2.2.2.1
 some (Step.next ((v0_39, v6_40, v7_41, (), v26_42, v27_43, IntKind.wrap .i64 (v28_44 + 1), ()), (l38, ()))))) (some (Step.done ((v0_5, v6_6, (), ()), (l4, ())))))) ((x0, r2.1, r2.2.1, (), r1.1, (r1.1.length : Int), 0, ()), (([] : List (List UInt8 × Fm)), ()))) fun d45 => (
 let l46 := d45.2.1
 let v0_47 := d45.1.1
 let v6_48 := d45.1.2.1
 Option.bind (α := (Unit × Unit) × ((List (List UInt8 × Fm)) × Unit))
 (X0v (L := (List UInt8 × Unit × (List Int) × Int × Int × Unit) × ((List (List UInt8 × Fm)) × Unit)) (R := (Unit × Unit) × ((List (List UInt8 × Fm)) × Unit)) (fun d49 => (
 let l50 := d49.2.1
 let v0_51 := d49.1.1
 let v63_52 := d49.1.2.2.1
 let v64_53 := d49.1.2.2.2.1
 let v65_54 := d49.1.2.2.2.2.1
 cond (decide (v65_54 < v64_53)) (cond (ixOK v65_54 v63_52.length) (Option.bind (α := List UInt8) (X2V v0_51 (v63_52.getD v65_54.toNat (0 : Int))) fun r55 => (
 cond (decide ((l50.length + ([(r55, (Fm.mk 0 0 ([]) ([] : List Fm)))]).length) * 72 <= 140737488355328)) (some (Step.next ((v0_51, (), v63_52, v64_53, IntKind.wrap .i64 (v65_54 + 1), ()), (l50 ++ ([(r55, (Fm.mk 0 0 ([]) ([] : List Fm)))]), ())))) none)) none) (some (Step.done (((), ()), (l50, ())))))) ((v0_47, (), v6_48, (v6_48.length : Int), 0, ()), (l46, ()))) fun d56 => (
 let l57 := d56.2.1
 some (l57, 0, ())))))))
def Y8d : An := .seq (.leaf) (.seq (.leaf) (.seq (.leaf) (.seq (.leaf) (.seq (.leaf) (.join false ⟨[(0, (.d .str)), (6, (.d (.slice (.int .i64)))), (8, (.gs 0 (.pr .str .form)))], [(false, .tg (.pr .str .form) 58)]⟩ (.seq (.leaf) (.block (.loop ⟨[(0, (.d .str)), (6, (.d (.slice (.int .i64)))), (7, (.d (.slice (.int .i64)))), (8, (.gs 0 (.pr .str .form))), (26, (.d (.slice .form))), (27, (.d (.int .i64))), (28, (.d (.int .i64)))], [(false, .tg (.pr .str .form) 58)]⟩ (.seq (.leaf) (.seq (.leaf) (.join false ⟨[(0, (.d .str)), (6, (.d (.slice (.int .i64)))), (7, (.d (.slice (.int .i64)))), (8, (.gs 0 (.pr .str .form))), (26, (.d (.slice .form))), (27, (.d (.int .i64))), (28, (.d (.int .i64)))], [(false, .tg (.pr .str .form) 58)]⟩ (.block (.seq (.leaf) (.join false { env := [(0, (.d .str)), (6, (.d (.slice (.int .i64)))), (7, (.d (.slice (.int .i64)))), (8, (.gs 0 (.pr .str .form))), (10, (.ref 1 0)), (26, (.d (.slice .form))), (27, (.d (.int .i64))), (28, (.d (.int .i64)))], objs := [(false, .tg (.pr .str .form) 58), (false, .cells 24 [(.d (.int .i64)), (.d (.int .i64)), (.d .str), (.d (.slice .form))])] } (.block (.loop { env := [(0, (.d .str)), (6, (.d (.slice (.int .i64)))), (7, (.d (.slice (.int .i64)))), (8, (.gs 0 (.pr .str .form))), (9, (.d (.int .i64))), (10, (.ref 1 0)), (26, (.d (.slice .form))), (27, (.d (.int .i64))), (28, (.d (.int .i64)))], objs := [(false, .tg (.pr .str .form) 58), (false, .cells 24 [(.d (.int .i64)), (.d (.int .i64)), (.d .str), (.d (.slice .form))])] } (.leaf))) (.leaf)))) (.leaf))))))) (.join false ⟨[(8, (.gs 0 (.pr .str .form)))], [(false, .tg (.pr .str .form) 58)]⟩ (.seq (.leaf) (.block (.loop ⟨[(0, (.d .str)), (8, (.gs 0 (.pr .str .form))), (63, (.d (.slice (.int .i64)))), (64, (.d (.int .i64))), (65, (.d (.int .i64)))], [(false, .tg (.pr .str .form) 58)]⟩ (.leaf)))) (.leaf)))))))
def Y8A : Nat -> RH := fun r => match r with
 | 9 => { H := { pl := [39, 43] } }
 | 10 => { H := { ty := [(54, (.pr .str .form))] } }
 | 12 => { H := { ty := [(61, (.pr .str .form))] } }
 | 17 => { H := { ty := [(75, (.pr .str .form))] } }
 | _ => {}
def Y2f : Sig := .n [(.d .str)] (.tup [(.d (.slice (.pr .str .form))), (.d (.int .i64))]) (fun x => X2W x.1)
theorem Y2g : SigOK CX 29 Y2f := X0i (l := [(36, Y8Q), (49, X75), (50, X9O)]) ⟨Y64, X9v, Y08, trivial⟩ (hint := Y8A) (an := Y8d) (fun x => by kernel_rfl)
def X3P (x0 : List UInt8) (x1 : Int) : Option (List UInt8 × Int × Unit) := (
 Option.bind (α := Bool) (X3O x1) fun r1 => (
 cond (!r1) (some ([], 1, ())) (Option.bind (α := (List (List UInt8 × Fm)) × Int × Unit) (X2W x0) fun r2 => (
 cond (!decide (r2.2.1 = 0)) (some ([], r2.2.1, ())) (Option.bind (α := (Unit × Unit) × ((Bool × Unit × Unit) × (List Int) × Unit))
 (X0v (L := (Int × (List (List UInt8 × Fm)) × Unit × Bool × (List (List UInt8 × Fm)) × Int × Int × Unit) × ((Bool × Unit × Unit) × (List Int) × Unit)) (R := (Unit × Unit) × ((Bool × Unit × Unit) × (List Int) × Unit)) (fun d3 => (
 let l4 := d3.2.2.1
 let v1_5 := d3.1.1
 let v6_6 := d3.1.2.1
 let v9_7 := d3.1.2.2.2.1
 let v27_8 := d3.1.2.2.2.2.1
 let v28_9 := d3.1.2.2.2.2.2.1
 let v29_10 := d3.1.2.2.2.2.2.2.1
 cond (decide (v29_10 < v28_9)) (Option.bind (α := (Int × (List (List UInt8 × Fm)) × Unit × Bool × (List (List UInt8 × Fm)) × Int × Int × Unit) × ((Bool × Unit × Unit) × (List Int) × Unit))
 (cond (ixOK v29_10 v27_8.length) (cond ((ixOK (IntKind.wrap .i64 (v29_10 - 1)) v6_6.length) || !(decide (v29_10 > 0))) (cond (!decide ((v27_8.getD v29_10.toNat (([] : List UInt8), (Fm.mk 0 0 [] []))).1 = [])) (Option.bind (α := (Int × (List (List UInt8 × Fm)) × Unit × Bool × Unit × (List (List UInt8 × Fm)) × Int × Int × Unit) × ((Bool × Unit × Unit) × (List UInt8 × Int × Int × List UInt8 × (List Fm) × Unit) × (List Int) × Unit))
 (cond (cond (decide (v29_10 > 0)) (!(cond (decide (v29_10 > 0)) (!decide ((v6_6.getD (IntKind.wrap .i64 (v29_10 - 1)).toNat (([] : List UInt8), (Fm.mk 0 0 [] []))).1 = [])) false)) false) (Option.bind (α := (Bool) × ((Bool × Unit × Unit) × (List Int) × Unit)) (X06 10 (d3.2.1.1, (), ()) l4) fun r11 => (
 some ((v1_5, v6_6, (), v9_7, (), v27_8, v28_9, v29_10, ()), ((r11.2.1.1, (), ()), ((v27_8.getD v29_10.toNat (([] : List UInt8), (Fm.mk 0 0 [] []))).1, ((v27_8.getD v29_10.toNat (([] : List UInt8), (Fm.mk 0 0 [] []))).2).k, ((v27_8.getD v29_10.toNat (([] : List UInt8), (Fm.mk 0 0 [] []))).2).n, ((v27_8.getD v29_10.toNat (([] : List UInt8), (Fm.mk 0 0 [] []))).2).t, ((v27_8.getD v29_10.toNat (([] : List UInt8), (Fm.mk 0 0 [] []))).2).l, ()), r11.2.2.1, ())))) (some ((v1_5, v6_6, (), v9_7, (), v27_8, v28_9, v29_10, ()), ((d3.2.1.1, (), ()), ((v27_8.getD v29_10.toNat (([] : List UInt8), (Fm.mk 0 0 [] []))).1, ((v27_8.getD v29_10.toNat (([] : List UInt8), (Fm.mk 0 0 [] []))).2).k, ((v27_8.getD v29_10.toNat (([] : List UInt8), (Fm.mk 0 0 [] []))).2).n, ((v27_8.getD v29_10.toNat (([] : List UInt8), (Fm.mk 0 0 [] []))).2).t, ((v27_8.getD v29_10.toNat (([] : List UInt8), (Fm.mk 0 0 [] []))).2).l, ()), l4, ())))) fun d12 => (
 let c13 := d12.2.2.1.1
 let c14 := d12.2.2.1.2.1
 let c15 := d12.2.2.1.2.2.1
 let c16 := d12.2.2.1.2.2.2.1
 let c17 := d12.2.2.1.2.2.2.2.1
 let l18 := d12.2.2.2.1
 let v1_19 := d12.1.1
 let v6_20 := d12.1.2.1
 let v9_21 := d12.1.2.2.2.1
 let v27_22 := d12.1.2.2.2.2.2.1
 let v28_23 := d12.1.2.2.2.2.2.2.1
 let v29_24 := d12.1.2.2.2.2.2.2.2.1
 cond (decide (c13.length + ([10]).length <= 9223372036854775807)) (Option.bind (α := (Int × Bool × Unit) × ((Bool × Unit × Unit) × (List Int) × Unit)) (X13 (c13 ++ ([10])) (d12.2.1.1, (), ()) l18) fun r25 => (
 some ((v1_19, v6_20, (), v9_21, v27_22, v28_23, v29_24, ()), ((r25.2.1.1, (), ()), r25.2.2.1, ())))) none)) (Option.bind (α := (List UInt8) × Int × Unit) (X2q (Fm.eta ((v27_8.getD v29_10.toNat (([] : List UInt8), (Fm.mk 0 0 [] []))).2)) v1_5) fun r26 => (
 Option.bind (α := Bool) (X3p r26.1 ([10])) fun r27 => (
 Option.bind (α := (Int × (List (List UInt8 × Fm)) × Unit × List UInt8 × Bool × (List (List UInt8 × Fm)) × Int × Int × Unit) × ((Bool × Unit × Unit) × (List Int) × Unit))
 (cond (cond (cond (cond (decide (v29_10 > 0)) (!(cond (decide (v29_10 > 0)) (!decide ((v6_6.getD (IntKind.wrap .i64 (v29_10 - 1)).toNat (([] : List UInt8), (Fm.mk 0 0 [] []))).1 = [])) false)) false) v9_7 false) r27 false) (Option.bind (α := (Bool) × ((Bool × Unit × Unit) × (List Int) × Unit)) (X06 10 (d3.2.1.1, (), ()) l4) fun r28 => (
 some ((v1_5, v6_6, (), r26.1, r27, v27_8, v28_9, v29_10, ()), ((r28.2.1.1, (), ()), r28.2.2.1, ())))) (some ((v1_5, v6_6, (), r26.1, r27, v27_8, v28_9, v29_10, ()), ((d3.2.1.1, (), ()), l4, ())))) fun d29 => (
 let l30 := d29.2.2.1
 let v1_31 := d29.1.1
 let v6_32 := d29.1.2.1
 let v13_33 := d29.1.2.2.2.1
 let v15_34 := d29.1.2.2.2.2.1
 let v27_35 := d29.1.2.2.2.2.2.1
 let v28_36 := d29.1.2.2.2.2.2.2.1
 let v29_37 := d29.1.2.2.2.2.2.2.2.1
 cond (decide (v13_33.length + ([10]).length <= 9223372036854775807)) (Option.bind (α := (Int × Bool × Unit) × ((Bool × Unit × Unit) × (List Int) × Unit)) (X13 (v13_33 ++ ([10])) (d29.2.1.1, (), ()) l30) fun r38 => (
 some ((v1_31, v6_32, (), v15_34, v27_35, v28_36, v29_37, ()), ((r38.2.1.1, (), ()), r38.2.2.1, ())))) none))))) none) none) fun d39 => (
 let l40 := d39.2.2.1
 let v1_41 := d39.1.1
 let v6_42 := d39.1.2.1
 let v9_43 := d39.1.2.2.2.1
 let v27_44 := d39.1.2.2.2.2.1
 let v28_45 := d39.1.2.2.2.2.2.1
 let v29_46 := d39.1.2.2.2.2.2.2.1
 some (Step.next ((v1_41, v6_42, (), v9_43, v27_44, v28_45, IntKind.wrap .i64 (v29_46 + 1), ()), ((d39.2.1.1, (), ()), l40, ()))))) (some (Step.done (((), ()), ((d3.2.1.1, (), ()), l4, ())))))) ((x1, r2.1, (), false, r2.1, (r2.1.length : Int), 0, ()), ((false, (), ()), ([] : List Int), ()))) fun d47 => (
 let l48 := d47.2.2.1
 Option.bind (α := (List UInt8) × (Unit)) (Option.map (fun s => (s, ())) (bytesOf (l48))) fun r49 => (
 some (r49.1, 0, ()))))))))
def Y8c : An := .seq (.leaf) (.seq (.leaf) (.seq (.leaf) (.seq (.leaf) (.seq (.leaf) (.seq (.leaf) (.join false { env := [(8, (.ref 0 0))], objs := [(false, .cells 48 [(.mref 0 0), (.gs 1 (.int .u8))]), (false, .tg (.int .u8) 5)] } (.seq (.leaf) (.block (.loop { env := [(1, (.d (.int .i64))), (6, (.d (.slice (.pr .str .form)))), (8, (.ref 0 0)), (9, (.d .bool)), (27, (.d (.slice (.pr .str .form)))), (28, (.d (.int .i64))), (29, (.d (.int .i64)))], objs := [(false, .cells 48 [(.mref 0 0), (.gs 1 (.int .u8))]), (false, .tg (.int .u8) 5)] } (.seq (.leaf) (.seq (.leaf) (.join false { env := [(1, (.d (.int .i64))), (6, (.d (.slice (.pr .str .form)))), (8, (.ref 0 0)), (9, (.d .bool)), (27, (.d (.slice (.pr .str .form)))), (28, (.d (.int .i64))), (29, (.d (.int .i64)))], objs := [(false, .cells 48 [(.mref 0 0), (.gs 1 (.int .u8))]), (false, .tg (.int .u8) 5)] } (.block (.seq (.leaf) (.seq (.leaf) (.seq (.seq (.leaf) (.cond (.join false { env := [(1, (.d (.int .i64))), (6, (.d (.slice (.pr .str .form)))), (8, (.ref 0 0)), (9, (.d .bool)), (11, (.ref 1 0)), (27, (.d (.slice (.pr .str .form)))), (28, (.d (.int .i64))), (29, (.d (.int .i64)))], objs := [(false, .cells 48 [(.mref 0 0), (.gs 2 (.int .u8))]), (false, .cells 58 [(.d .str), (.d (.int .i64)), (.d (.int .i64)), (.d .str), (.d (.slice .form))]), (false, .tg (.int .u8) 5)] } (.leaf) (.leaf)) (.leaf))) (.seq (.leaf) (.seq (.leaf) (.join false { env := [(1, (.d (.int .i64))), (6, (.d (.slice (.pr .str .form)))), (8, (.ref 0 0)), (13, (.d .str)), (15, (.d .bool)), (27, (.d (.slice (.pr .str .form)))), (28, (.d (.int .i64))), (29, (.d (.int .i64)))], objs := [(false, .cells 48 [(.mref 0 0), (.gs 1 (.int .u8))]), (false, .tg (.int .u8) 5)] } (.leaf) (.leaf)))))))) (.leaf))))))) (.leaf)))))))
def Y8z : Nat -> RH := fun r => match r with
 | 14 => { H := { ac := [54] } }
 | 15 => { H := { ac := [58] } }
 | 19 => { H := { ac := [80] } }
 | 20 => { H := { ac := [83] } }
 | 23 => { H := { ac := [86] } }
 | _ => {}
def X74 : Sig := .n [(.d .str), (.d (.int .i64))] (.tup [(.d .str), (.d (.int .i64))]) (fun x => X3P x.1 x.2.1)
theorem X6P : SigOK CX 12 X74 := X0i (l := [(23, X71), (29, Y2f), (30, X5E), (31, Y03), (9, X73), (32, X8g), (26, X7w)]) ⟨X6O, Y2g, X3Y, X70, X9u, X9y, X5e, trivial⟩ (hint := Y8z) (an := Y8c) (fun x => by kernel_rfl)
def X3T (x0 : Int) : Option (List UInt8) := (
 Option.bind (α := (List UInt8 × Unit) × (Unit))
 (X0v (L := (Int × List UInt8 × Int × Unit) × (Unit)) (R := (List UInt8 × Unit) × (Unit)) (fun d1 => (
 let v0_2 := d1.1.1
 let v3_3 := d1.1.2.1
 let v4_4 := d1.1.2.2.1
 cond (decide (v4_4 < v0_2)) (cond (decide (v3_3.length + ([32]).length <= 9223372036854775807)) (some (Step.next ((v0_2, v3_3 ++ ([32]), IntKind.wrap .i64 (v4_4 + 1), ()), ()))) none) (some (Step.done ((v3_3, ()), ()))))) ((x0, [], 0, ()), ())) fun d5 => (
 let v3_6 := d5.1.1
 some v3_6))
def Y8j : An := .seq (.leaf) (.seq (.leaf) (.join false ⟨[(3, (.d .str))], []⟩ (.seq (.leaf) (.block (.loop ⟨[(0, (.d (.int .i64))), (3, (.d .str)), (4, (.d (.int .i64)))], []⟩ (.leaf)))) (.leaf)))
def Y2o : Sig := .n [(.d (.int .i64))] (.d .str) (fun x => X3T x.1)
theorem Y2p : SigOK CX 48 Y2o := X0i (l := []) trivial (hint := fun _ => {}) (an := Y8j) (fun x => by kernel_rfl)
def X4x (k : Nat) (x0 : Fm) (x1 : Int) (x2 : Int) (x3 : Int) : Option (List UInt8) := match k with
| 0 => none
| k + 1 => (
 Option.bind (α := List UInt8) (X20 (Fm.eta x0)) fun r1 => (
 cond (cond (cond (decide (IntKind.wrap .i64 (IntKind.wrap .i64 (x1 + (r1.length : Int)) + x3) <= x2)) true (!decide (x0.k = 3))) true (decide ((x0.l.length : Int) = 0))) (some r1) (Option.bind (α := (Int × Int × (Int × Int × List UInt8 × (List Fm) × Unit) × List UInt8 × Int × Int × Unit) × (Unit))
 (cond (ixOK 0 x0.l.length) (cond (decide ((x0.l.getD (0 : Int).toNat (Fm.mk 0 0 [] [])).k = 1)) (cond (ixOK 0 x0.l.length) (cond (decide (([40]).length + ((x0.l.getD (0 : Int).toNat (Fm.mk 0 0 [] [])).t).length <= 9223372036854775807)) (cond ((ixOK 1 x0.l.length) || !(decide ((x0.l.length : Int) > 1))) (cond (cond (decide ((x0.l.length : Int) > 1)) (!decide ((x0.l.getD (1 : Int).toNat (Fm.mk 0 0 [] [])).k = 3)) false) (cond (decide ((([40]) ++ ((x0.l.getD (0 : Int).toNat (Fm.mk 0 0 [] [])).t)).length + ([32]).length <= 9223372036854775807)) (cond (ixOK 1 x0.l.length) (Option.bind (α := List UInt8) (X20 (Fm.eta (x0.l.getD (1 : Int).toNat (Fm.mk 0 0 [] [])))) fun r2 => (
 cond (decide (((([40]) ++ ((x0.l.getD (0 : Int).toNat (Fm.mk 0 0 [] [])).t)) ++ ([32])).length + r2.length <= 9223372036854775807)) (some ((x2, x3, (x0.k, x0.n, x0.t, x0.l, ()), ((([40]) ++ ((x0.l.getD (0 : Int).toNat (Fm.mk 0 0 [] [])).t)) ++ ([32])) ++ r2, 2, IntKind.wrap .i64 (x1 + 2), ()), ())) none)) none) none) (some ((x2, x3, (x0.k, x0.n, x0.t, x0.l, ()), ([40]) ++ ((x0.l.getD (0 : Int).toNat (Fm.mk 0 0 [] [])).t), 1, IntKind.wrap .i64 (x1 + 2), ()), ()))) none) none) none) (some ((x2, x3, (x0.k, x0.n, x0.t, x0.l, ()), [40], 0, IntKind.wrap .i64 (x1 + 1), ()), ()))) none) fun d3 => (
 let v2_4 := d3.1.1
 let v3_5 := d3.1.2.1
 let v10_6 := d3.1.2.2.2.1
 let v11_7 := d3.1.2.2.2.2.1
 let v12_8 := d3.1.2.2.2.2.2.1
 Option.bind (α := (List UInt8 × Unit) × (Unit))
 (X0v (L := (Int × Int × (Int × Int × List UInt8 × (List Fm) × Unit) × List UInt8 × Int × Int × Unit) × (Unit)) (R := (List UInt8 × Unit) × (Unit)) (fun d9 => (
 let v2_10 := d9.1.1
 let v3_11 := d9.1.2.1
 let v10_12 := d9.1.2.2.2.1
 let v12_13 := d9.1.2.2.2.2.1
 let v13_14 := d9.1.2.2.2.2.2.1
 cond (decide (v13_14 < (d9.1.2.2.1.2.2.2.1.length : Int))) (Option.bind (α := (Int × Int × (Int × Int × List UInt8 × (List Fm) × Unit) × List UInt8 × Int × Int × Int × Unit) × (Unit))
 (cond (decide (IntKind.wrap .i64 (v13_14 + 1) = (d9.1.2.2.1.2.2.2.1.length : Int))) (some ((v2_10, v3_11, (d9.1.2.2.1.1, d9.1.2.2.1.2.1, d9.1.2.2.1.2.2.1, d9.1.2.2.1.2.2.2.1, ()), v10_12, v12_13, v13_14, IntKind.wrap .i64 (v3_11 + 1), ()), ())) (some ((v2_10, v3_11, (d9.1.2.2.1.1, d9.1.2.2.1.2.1, d9.1.2.2.1.2.2.1, d9.1.2.2.1.2.2.2.1, ()), v10_12, v12_13, v13_14, 0, ()), ()))) fun d15 => (
 let v2_16 := d15.1.1
 let v3_17 := d15.1.2.1
 let v10_18 := d15.1.2.2.2.1
 let v12_19 := d15.1.2.2.2.2.1
 let v13_20 := d15.1.2.2.2.2.2.1
 let v14_21 := d15.1.2.2.2.2.2.2.1
 Option.bind (α := (Int × Int × (Int × Int × List UInt8 × (List Fm) × Unit) × List UInt8 × Int × Int × Int × Unit) × (Unit))
 (cond (decide (v13_20 > 0)) (cond (decide (v10_18.length + ([10]).length <= 9223372036854775807)) (Option.bind (α := List UInt8) (X3T v12_19) fun r22 => (
 cond (decide ((v10_18 ++ ([10])).length + r22.length <= 9223372036854775807)) (some ((v2_16, v3_17, (d15.1.2.2.1.1, d15.1.2.2.1.2.1, d15.1.2.2.1.2.2.1, d15.1.2.2.1.2.2.2.1, ()), (v10_18 ++ ([10])) ++ r22, v12_19, v13_20, v14_21, ()), ())) none)) none) (some ((v2_16, v3_17, (d15.1.2.2.1.1, d15.1.2.2.1.2.1, d15.1.2.2.1.2.2.1, d15.1.2.2.1.2.2.2.1, ()), v10_18, v12_19, v13_20, v14_21, ()), ()))) fun d23 => (
 let v2_24 := d23.1.1
 let v3_25 := d23.1.2.1
 let v10_26 := d23.1.2.2.2.1
 let v12_27 := d23.1.2.2.2.2.1
 let v13_28 := d23.1.2.2.2.2.2.1
 let v14_29 := d23.1.2.2.2.2.2.2.1
 cond (ixOK v13_28 d23.1.2.2.1.2.2.2.1.length) (Option.bind (α := List UInt8) (X4x k (Fm.eta (d23.1.2.2.1.2.2.2.1.getD v13_28.toNat (Fm.mk 0 0 [] []))) v12_27 v2_24 v14_29) fun r30 => (
 cond (decide (v10_26.length + r30.length <= 9223372036854775807)) (some (Step.next ((v2_24, v3_25, (d23.1.2.2.1.1, d23.1.2.2.1.2.1, d23.1.2.2.1.2.2.1, d23.1.2.2.1.2.2.2.1, ()), v10_26 ++ r30, v12_27, IntKind.wrap .i64 (v13_28 + 1), ()), ()))) none)) none))) (some (Step.done ((v10_12, ()), ()))))) ((v2_4, v3_5, (d3.1.2.2.1.1, d3.1.2.2.1.2.1, d3.1.2.2.1.2.2.1, d3.1.2.2.1.2.2.2.1, ()), v10_6, v12_8, v11_7, ()), ())) fun d31 => (
 let v10_32 := d31.1.1
 cond (decide (v10_32.length + ([41]).length <= 9223372036854775807)) (some (v10_32 ++ ([41]))) none)))))
def Z08 : An := .seq (.leaf) (.seq (.leaf) (.seq (.leaf) (.seq (.leaf) (.seq (.leaf) (.seq (.leaf) (.join false { env := [(2, (.d (.int .i64))), (3, (.d (.int .i64))), (4, (.rptr [(.d (.int .i64)), (.d (.int .i64)), (.d .str), (.d (.slice .form))])), (10, (.d .str)), (11, (.d (.int .i64))), (12, (.d (.int .i64)))], objs := [] } (.leaf) (.join false ⟨[(10, (.d .str))], []⟩ (.seq (.leaf) (.block (.loop { env := [(2, (.d (.int .i64))), (3, (.d (.int .i64))), (4, (.rptr [(.d (.int .i64)), (.d (.int .i64)), (.d .str), (.d (.slice .form))])), (10, (.d .str)), (12, (.d (.int .i64))), (13, (.d (.int .i64)))], objs := [] } (.seq (.leaf) (.seq (.block (.seq (.leaf) (.join false { env := [(2, (.d (.int .i64))), (3, (.d (.int .i64))), (4, (.rptr [(.d (.int .i64)), (.d (.int .i64)), (.d .str), (.d (.slice .form))])), (10, (.d .str)), (12, (.d (.int .i64))), (13, (.d (.int .i64))), (14, (.d (.int .i64)))], objs := [] } (.leaf) (.join false { env := [(2, (.d (.int .i64))), (3, (.d (.int .i64))), (4, (.rptr [(.d (.int .i64)), (.d (.int .i64)), (.d .str), (.d (.slice .form))])), (10, (.d .str)), (12, (.d (.int .i64))), (13, (.d (.int .i64))), (14, (.d (.int .i64)))], objs := [] } (.leaf) (.leaf))))) (.leaf)))))) (.leaf))))))))
def Y1e (k : Nat) : Sig := .n [(.d .form), (.d (.int .i64)), (.d (.int .i64)), (.d (.int .i64))] (.d .str) (fun x => X4x k x.1 x.2.1 x.2.2.1 x.2.2.2.1)
theorem X6U : ∀ k, SigOK CX 28 (Y1e k)
| 0 => fun x r h => by cases h
| k + 1 => by
 have ih := X6U k;exact X0i (l := [(47, X9R), (48, Y2o), (28, (Y1e k))]) ⟨Y1d, Y2p, ih, trivial⟩ (hint := fun _ => {}) (an := Z08) (fun x => by kernel_rfl)
theorem Y4p : ∀ k, SigOK CX 28 (Y1e k) := fun k => X6U k
def X7s (x0 : Fm) (x1 : Int) (x2 : Int) (x3 : Int) : Option (List UInt8) := limF fun k => X4x k x0 x1 x2 x3
def X9T : Sig := .n [(.d .form), (.d (.int .i64)), (.d (.int .i64)), (.d (.int .i64))] (.d .str) (fun x => X7s x.1 x.2.1 x.2.2.1 x.2.2.2.1)
theorem Y1f : SigOK CX 28 X9T := SigOK.limN Y4p fun x r h => X3z h
def X3o (x0 : Int) : Option (Bool) := (
 some (cond (cond (decide (x0 = 32)) true (decide (x0 = 9))) true (decide (x0 = 10))))
def Z07 : An := .leaf
def X7u : Sig := .n [(.d (.int .u8))] (.d .bool) (fun x => X3o x.1)
theorem X5c : SigOK CX 54 X7u := X0i (l := []) trivial (hint := fun _ => {}) (an := Z07) (fun x => by kernel_rfl)
def X4y (x0 : List UInt8) : Option (List UInt8) := (
 Option.bind (α := (List UInt8 × Unit) × (Unit))
 (X0v (L := (List UInt8 × Unit) × (Unit)) (R := (List UInt8 × Unit) × (Unit)) (fun d1 => (
 let v0_2 := d1.1.1
 cond ((ixOK (IntKind.wrap .i64 ((v0_2.length : Int) - 1)) v0_2.length) || !(!decide (v0_2 = []))) (Option.bind (α := Bool) (cond (!decide (v0_2 = [])) (X3o (X0b v0_2 (IntKind.wrap .i64 ((v0_2.length : Int) - 1)))) (some false)) fun r3 => (
 cond (cond (!decide (v0_2 = [])) r3 false) (cond (slOK 0 (IntKind.wrap .i64 ((v0_2.length : Int) - 1)) v0_2.length) (some (Step.next (((v0_2.drop (0 : Int).toNat).take ((IntKind.wrap .i64 ((v0_2.length : Int) - 1)).toNat - (0 : Int).toNat), ()), ()))) none) (some (Step.done ((v0_2, ()), ()))))) none)) ((x0, ()), ())) fun d4 => (
 let v0_5 := d4.1.1
 some v0_5))
def Y6W : An := .seq (.leaf) (.join false ⟨[(0, (.d .str))], []⟩ (.block (.loop ⟨[(0, (.d .str))], []⟩ (.leaf))) (.leaf))
def X9V : Sig := .n [(.d .str)] (.d .str) (fun x => X4y x.1)
theorem Y1h : SigOK CX 56 X9V := X0i (l := [(54, X7u)]) ⟨X5c, trivial⟩ (hint := fun _ => {}) (an := Y6W) (fun x => by kernel_rfl)
def X21 (x0 : List UInt8) (x1 : Int) : Option (Int) := (
 Option.bind (α := (Int × Unit) × (Unit))
 (X0v (L := (List UInt8 × Int × Unit) × (Unit)) (R := (Int × Unit) × (Unit)) (fun d1 => (
 let v0_2 := d1.1.1
 let v1_3 := d1.1.2.1
 cond ((ixOK v1_3 v0_2.length) || !(decide (v1_3 < (v0_2.length : Int)))) (cond (cond (decide (v1_3 < (v0_2.length : Int))) (!decide (X0b v0_2 v1_3 = 34)) false) (Option.bind (α := (List UInt8 × Int × Unit) × (Unit))
 (cond (ixOK v1_3 v0_2.length) (cond (decide (X0b v0_2 v1_3 = 92)) (some ((v0_2, IntKind.wrap .i64 (v1_3 + 1), ()), ())) (some ((v0_2, v1_3, ()), ()))) none) fun d4 => (
 let v0_5 := d4.1.1
 let v1_6 := d4.1.2.1
 some (Step.next ((v0_5, IntKind.wrap .i64 (v1_6 + 1), ()), ())))) (some (Step.done ((v1_3, ()), ())))) none)) ((x0, IntKind.wrap .i64 (x1 + 1), ()), ())) fun d7 => (
 let v1_8 := d7.1.1
 some (IntKind.wrap .i64 (v1_8 + 1))))
def Y6V : An := .seq (.leaf) (.seq (.leaf) (.join false ⟨[(1, (.d (.int .i64)))], []⟩ (.block (.loop ⟨[(0, (.d .str)), (1, (.d (.int .i64)))], []⟩ (.seq (.leaf) (.block (.join false ⟨[(0, (.d .str)), (1, (.d (.int .i64)))], []⟩ (.leaf) (.leaf)))))) (.leaf)))
def X9U : Sig := .n [(.d .str), (.d (.int .i64))] (.d (.int .i64)) (fun x => X21 x.1 x.2.1)
theorem Y1g : SigOK CX 85 X9U := X0i (l := []) trivial (hint := fun _ => {}) (an := Y6V) (fun x => by kernel_rfl)
def X6i (x0 : List UInt8) (x1 : Int) : Option (Int) := (
 Option.bind (α := (Int × Unit) × (Unit))
 (X0v (L := (List UInt8 × Int × Unit) × (Unit)) (R := (Int × Unit) × (Unit)) (fun d1 => (
 let v0_2 := d1.1.1
 let v1_3 := d1.1.2.1
 cond ((ixOK v1_3 v0_2.length) || !(decide (v1_3 < (v0_2.length : Int)))) (cond (cond (decide (v1_3 < (v0_2.length : Int))) (!decide (X0b v0_2 v1_3 = 10)) false) (some (Step.next ((v0_2, IntKind.wrap .i64 (v1_3 + 1), ()), ()))) (some (Step.done ((v1_3, ()), ())))) none)) ((x0, x1, ()), ())) fun d4 => (
 let v1_5 := d4.1.1
 some v1_5))
def Z3f : An := .seq (.leaf) (.join false ⟨[(1, (.d (.int .i64)))], []⟩ (.block (.loop ⟨[(0, (.d .str)), (1, (.d (.int .i64)))], []⟩ (.leaf))) (.leaf))
def Y4n : Sig := .n [(.d .str), (.d (.int .i64))] (.d (.int .i64)) (fun x => X6i x.1 x.2.1)
theorem X9S : SigOK CX 55 Y4n := X0i (l := []) trivial (hint := fun _ => {}) (an := Z3f) (fun x => by kernel_rfl)
def X7S (x0 : List UInt8) (x1 : Int) : Option (Int) := (
 Option.bind (α := Step ((Int × Unit) × (Unit)) (Int))
 (X0v (L := (List UInt8 × Int × Int × Unit) × (Unit)) (R := Step ((Int × Unit) × (Unit)) (Int)) (fun d1 => (
 let v0_2 := d1.1.1
 let v1_3 := d1.1.2.1
 let v5_4 := d1.1.2.2.1
 cond (decide (v1_3 < (v0_2.length : Int))) (Option.bind (α := (List UInt8 × Int × Int × Unit) × (Unit))
 (cond (ixOK v1_3 v0_2.length) (cond (decide (X0b v0_2 v1_3 = 34)) (Option.bind (α := Int) (X21 v0_2 v1_3) fun r5 => (
 some ((v0_2, r5, v5_4, ()), ()))) (cond (decide (X0b v0_2 v1_3 = 59)) (Option.bind (α := Int) (X6i v0_2 v1_3) fun r6 => (
 some ((v0_2, r6, v5_4, ()), ()))) (cond (decide (X0b v0_2 v1_3 = 40)) (some ((v0_2, IntKind.wrap .i64 (v1_3 + 1), IntKind.wrap .i64 (v5_4 + 1), ()), ())) (cond (decide (X0b v0_2 v1_3 = 41)) (some ((v0_2, IntKind.wrap .i64 (v1_3 + 1), IntKind.wrap .i64 (v5_4 - 1), ()), ())) (Option.bind (α := Bool) (X3o (X0b v0_2 v1_3)) fun r7 => (
 cond r7 (some ((v0_2, IntKind.wrap .i64 (v1_3 + 1), v5_4, ()), ())) (X0v (L := (List UInt8 × Int × Int × Unit) × (Unit)) (R := (List UInt8 × Int × Int × Unit) × (Unit)) (fun d8 => (
 let v0_9 := d8.1.1
 let v1_10 := d8.1.2.1
 let v5_11 := d8.1.2.2.1
 cond ((ixOK v1_10 v0_9.length) || !(decide (v1_10 < (v0_9.length : Int)))) (Option.bind (α := Bool) (cond (decide (v1_10 < (v0_9.length : Int))) (X3o (X0b v0_9 v1_10)) (some false)) fun r12 => (
 cond ((ixOK v1_10 v0_9.length) || !(cond (decide (v1_10 < (v0_9.length : Int))) (!r12) false)) (cond ((ixOK v1_10 v0_9.length) || !(cond (cond (decide (v1_10 < (v0_9.length : Int))) (!r12) false) (!decide (X0b v0_9 v1_10 = 40)) false)) (cond ((ixOK v1_10 v0_9.length) || !(cond (cond (cond (decide (v1_10 < (v0_9.length : Int))) (!r12) false) (!decide (X0b v0_9 v1_10 = 40)) false) (!decide (X0b v0_9 v1_10 = 41)) false)) (cond ((ixOK v1_10 v0_9.length) || !(cond (cond (cond (cond (decide (v1_10 < (v0_9.length : Int))) (!r12) false) (!decide (X0b v0_9 v1_10 = 40)) false) (!decide (X0b v0_9 v1_10 = 41)) false) (!decide (X0b v0_9 v1_10 = 34)) false)) (cond (cond (cond (cond (cond (cond (decide (v1_10 < (v0_9.length : Int))) (!r12) false) (!decide (X0b v0_9 v1_10 = 40)) false) (!decide (X0b v0_9 v1_10 = 41)) false) (!decide (X0b v0_9 v1_10 = 34)) false) (!decide (X0b v0_9 v1_10 = 59)) false) (some (Step.next ((v0_9, IntKind.wrap .i64 (v1_10 + 1), v5_11, ()), ()))) (some (Step.done ((v0_9, v1_10, v5_11, ()), ())))) none) none) none) none)) none)) ((v0_2, v1_3, v5_4, ()), ())))))))) none) fun d13 => (
 let v0_14 := d13.1.1
 let v1_15 := d13.1.2.1
 let v5_16 := d13.1.2.2.1
 cond (decide (v5_16 = 0)) (some (Step.done (Step.done v1_15))) (some (Step.next ((v0_14, v1_15, v5_16, ()), ()))))) (some (Step.done (Step.next ((v1_3, ()), ())))))) ((x0, x1, 0, ()), ())) fun qd17 => match qd17 with
 | .next d17 => (
 let v1_18 := d17.1.1
 some v1_18)
 | .done r => some r)
def Z3g : An := .seq (.leaf) (.seq (.leaf) (.join true ⟨[(1, (.d (.int .i64)))], []⟩ (.block (.loop ⟨[(0, (.d .str)), (1, (.d (.int .i64))), (5, (.d (.int .i64)))], []⟩ (.seq (.leaf) (.block (.join false ⟨[(0, (.d .str)), (1, (.d (.int .i64))), (5, (.d (.int .i64)))], []⟩ (.seq (.leaf) (.block (.seq (.leaf) (.cond (.leaf) (.seq (.leaf) (.cond (.leaf) (.seq (.leaf) (.cond (.leaf) (.seq (.leaf) (.cond (.leaf) (.seq (.leaf) (.cond (.leaf) (.block (.loop ⟨[(0, (.d .str)), (1, (.d (.int .i64))), (5, (.d (.int .i64)))], []⟩ (.leaf))))))))))))))) (.leaf)))))) (.leaf)))
def Y8S : Sig := .n [(.d .str), (.d (.int .i64))] (.d (.int .i64)) (fun x => X7S x.1 x.2.1)
theorem Y65 : SigOK CX 57 Y8S := X0i (l := [(85, X9U), (55, Y4n), (54, X7u)]) ⟨Y1g, X9S, X5c, trivial⟩ (hint := fun _ => {}) (an := Z3g) (fun x => by kernel_rfl)
def X7p (x0 : List UInt8) : Option (List (List UInt8 × Fm)) := (
 Option.bind (α := (List Fm) × Int × Unit) (X7P x0) fun r1 => (
 Option.bind (α := (Unit × Unit) × ((List (List UInt8 × Fm)) × Unit))
 (X0v (L := (List UInt8 × (List Fm) × Unit × Int × Bool × Int × Unit) × ((List (List UInt8 × Fm)) × Unit)) (R := (Unit × Unit) × ((List (List UInt8 × Fm)) × Unit)) (fun d2 => (
 let l3 := d2.2.1
 let v0_4 := d2.1.1
 let v3_5 := d2.1.2.1
 let v6_6 := d2.1.2.2.2.1
 let v7_7 := d2.1.2.2.2.2.1
 let v8_8 := d2.1.2.2.2.2.2.1
 cond (decide (v8_8 < (v0_4.length : Int))) (cond (ixOK v8_8 v0_4.length) (cond (decide (X0b v0_4 v8_8 = 10)) (some (Step.next ((v0_4, v3_5, (), v6_6, true, IntKind.wrap .i64 (v8_8 + 1), ()), (l3, ())))) (cond (ixOK v8_8 v0_4.length) (Option.bind (α := Bool) (X3o (X0b v0_4 v8_8)) fun r9 => (
 cond r9 (some (Step.next ((v0_4, v3_5, (), v6_6, v7_7, IntKind.wrap .i64 (v8_8 + 1), ()), (l3, ())))) (cond (ixOK v8_8 v0_4.length) (cond (decide (X0b v0_4 v8_8 = 59)) (Option.bind (α := Int) (X6i v0_4 v8_8) fun r10 => (
 Option.bind (α := (List UInt8 × (List Fm) × Unit × Int × Bool × Int × Unit) × ((List (List UInt8 × Fm)) × Unit))
 (cond v7_7 (cond (slOK v8_8 r10 v0_4.length) (Option.bind (α := List UInt8) (X4y ((v0_4.drop v8_8.toNat).take (r10.toNat - v8_8.toNat))) fun r11 => (
 cond (decide ((l3.length + ([(r11, (Fm.mk 0 0 ([]) ([] : List Fm)))]).length) * 72 <= 140737488355328)) (some ((v0_4, v3_5, (), v6_6, v7_7, r10, ()), (l3 ++ ([(r11, (Fm.mk 0 0 ([]) ([] : List Fm)))]), ()))) none)) none) (some ((v0_4, v3_5, (), v6_6, v7_7, r10, ()), (l3, ())))) fun d12 => (
 let l13 := d12.2.1
 let v0_14 := d12.1.1
 let v3_15 := d12.1.2.1
 let v6_16 := d12.1.2.2.2.1
 let v7_17 := d12.1.2.2.2.2.1
 let v9_18 := d12.1.2.2.2.2.2.1
 some (Step.next ((v0_14, v3_15, (), v6_16, v7_17, v9_18, ()), (l13, ())))))) (Option.bind (α := Int) (X7S v0_4 v8_8) fun r19 => (
 cond (ixOK v6_6 v3_5.length) (cond (decide ((l3.length + ([(([] : List UInt8), (Fm.eta (v3_5.getD v6_6.toNat (Fm.mk 0 0 [] []))))]).length) * 72 <= 140737488355328)) (some (Step.next ((v0_4, v3_5, (), IntKind.wrap .i64 (v6_6 + 1), false, r19, ()), (l3 ++ ([(([] : List UInt8), (Fm.eta (v3_5.getD v6_6.toNat (Fm.mk 0 0 [] []))))]), ())))) none) none))) none))) none)) none) (some (Step.done (((), ()), (l3, ())))))) ((x0, r1.1, (), 0, true, 0, ()), (([] : List (List UInt8 × Fm)), ()))) fun d20 => (
 let l21 := d20.2.1
 some l21)))
def Z05 : An := .seq (.leaf) (.seq (.leaf) (.seq (.leaf) (.seq (.leaf) (.seq (.leaf) (.join false ⟨[(5, (.gs 0 (.pr .str .form)))], [(false, .tg (.pr .str .form) 69)]⟩ (.seq (.leaf) (.block (.loop ⟨[(0, (.d .str)), (3, (.d (.slice .form))), (5, (.gs 0 (.pr .str .form))), (6, (.d (.int .i64))), (7, (.d .bool)), (8, (.d (.int .i64)))], [(false, .tg (.pr .str .form) 69)]⟩ (.seq (.leaf) (.block (.block (.seq (.leaf) (.cond (.leaf) (.seq (.leaf) (.cond (.leaf) (.seq (.leaf) (.cond (.seq (.leaf) (.join false ⟨[(0, (.d .str)), (3, (.d (.slice .form))), (5, (.gs 0 (.pr .str .form))), (6, (.d (.int .i64))), (7, (.d .bool)), (9, (.d (.int .i64)))], [(false, .tg (.pr .str .form) 69)]⟩ (.leaf) (.leaf))) (.leaf))))))))))))) (.leaf))))))
def Z1h : Nat -> RH := fun r => match r with
 | 8 => { H := { ty := [(29, (.pr .str .form))] } }
 | 19 => { H := { ty := [(63, (.pr .str .form))] } }
 | _ => {}
def Y5V : Sig := .n [(.d .str)] (.d (.slice (.pr .str .form))) (fun x => X7p x.1)
theorem Y4l : SigOK CX 34 Y5V := X0i (l := [(33, Y4m), (54, X7u), (55, Y4n), (56, X9V), (57, Y8S)]) ⟨X9P, X5c, X9S, Y1h, Y65, trivial⟩ (hint := Z1h) (an := Z05) (fun x => by kernel_rfl)
def X48 (x0 : List UInt8) : Option (Bool) := (
 Option.bind (α := Step ((Unit) × (Unit)) (Bool))
 (X0v (L := (List UInt8 × Int × Unit) × (Unit)) (R := Step ((Unit) × (Unit)) (Bool)) (fun d1 => (
 let v0_2 := d1.1.1
 let v3_3 := d1.1.2.1
 cond (decide (v3_3 < (v0_2.length : Int))) (cond (ixOK v3_3 v0_2.length) (cond (decide (X0b v0_2 v3_3 = 10)) (some (Step.done (Step.done true))) (some (Step.next ((v0_2, IntKind.wrap .i64 (v3_3 + 1), ()), ())))) none) (some (Step.done (Step.next ((), ())))))) ((x0, 0, ()), ())) fun qd4 => match qd4 with
 | .next d4 => (
 some false)
 | .done r => some r)
def Z3j : An := .seq (.leaf) (.join true ⟨[], []⟩ (.seq (.leaf) (.block (.loop ⟨[(0, (.d .str)), (3, (.d (.int .i64)))], []⟩ (.leaf)))) (.leaf))
def Y8U : Sig := .n [(.d .str)] (.d .bool) (fun x => X48 x.1)
theorem Y68 : SigOK CX 35 Y8U := X0i (l := []) trivial (hint := fun _ => {}) (an := Z3j) (fun x => by kernel_rfl)
def Y0Y (x0 : List UInt8) (x1 : Int) : Option (List UInt8 × Int × Unit) := (
 cond (cond (decide (x1 < 20)) true (decide (x1 > 200))) (some ([], 1, ())) (Option.bind (α := (List Fm) × Int × Unit) (X7P x0) fun r1 => (
 cond (!decide (r1.2.1 = 0)) (some ([], r1.2.1, ())) (Option.bind (α := List (List UInt8 × Fm)) (X7p x0) fun r2 => (
 Option.bind (α := (List UInt8 × Unit) × (Unit))
 (X0v (L := (Int × (List (List UInt8 × Fm)) × List UInt8 × (List UInt8) × Int × Unit) × (Unit)) (R := (List UInt8 × Unit) × (Unit)) (fun d3 => (
 let v1_4 := d3.1.1
 let v8_5 := d3.1.2.1
 let v9_6 := d3.1.2.2.1
 let v10_7 := d3.1.2.2.2.1
 let v11_8 := d3.1.2.2.2.2.1
 cond (decide (v11_8 < (v8_5.length : Int))) (Option.bind (α := (Int × (List (List UInt8 × Fm)) × List UInt8 × (List UInt8) × Int × Unit) × (Unit))
 (cond (ixOK v11_8 v8_5.length) (cond (!decide ((v8_5.getD v11_8.toNat (([] : List UInt8), (Fm.mk 0 0 [] []))).1 = [])) (Option.bind (α := (Int × (List (List UInt8 × Fm)) × List UInt8 × (List UInt8) × Int × Unit) × (Unit))
 (cond ((ixOK (IntKind.wrap .i64 (v11_8 - 1)) v8_5.length) || !(decide (v11_8 > 0))) (cond (cond (decide (v11_8 > 0)) (decide ((v8_5.getD (IntKind.wrap .i64 (v11_8 - 1)).toNat (([] : List UInt8), (Fm.mk 0 0 [] []))).1 = [])) false) (cond (decide (v9_6.length + ([10]).length <= 9223372036854775807)) (some ((v1_4, v8_5, v9_6 ++ ([10]), v10_7, v11_8, ()), ())) none) (some ((v1_4, v8_5, v9_6, v10_7, v11_8, ()), ()))) none) fun d9 => (
 let v1_10 := d9.1.1
 let v8_11 := d9.1.2.1
 let v9_12 := d9.1.2.2.1
 let v10_13 := d9.1.2.2.2.1
 let v11_14 := d9.1.2.2.2.2.1
 cond (ixOK v11_14 v8_11.length) (cond (decide (v9_12.length + ((v8_11.getD v11_14.toNat (([] : List UInt8), (Fm.mk 0 0 [] []))).1).length <= 9223372036854775807)) (cond (decide ((v9_12 ++ ((v8_11.getD v11_14.toNat (([] : List UInt8), (Fm.mk 0 0 [] []))).1)).length + ([10]).length <= 9223372036854775807)) (some ((v1_10, v8_11, (v9_12 ++ ((v8_11.getD v11_14.toNat (([] : List UInt8), (Fm.mk 0 0 [] []))).1)) ++ ([10]), v10_13, v11_14, ()), ())) none) none) none)) (cond (ixOK v11_8 v8_5.length) (Option.bind (α := List UInt8) (X7s (Fm.eta ((v8_5.getD v11_8.toNat (([] : List UInt8), (Fm.mk 0 0 [] []))).2)) 0 v1_4 0) fun r15 => (
 Option.bind (α := (Int × (List (List UInt8 × Fm)) × List UInt8 × Int × List UInt8 × Unit) × (Unit))
 (cond ((ixOK (IntKind.wrap .i64 (v11_8 - 1)) v8_5.length) || !(decide (v11_8 > 0))) (Option.bind (α := Bool) (cond (cond (decide (v11_8 > 0)) (decide ((v8_5.getD (IntKind.wrap .i64 (v11_8 - 1)).toNat (([] : List UInt8), (Fm.mk 0 0 [] []))).1 = [])) false) (X48 v10_7) (some false)) fun r16 => (
 Option.bind (α := Bool) (cond (cond (cond (decide (v11_8 > 0)) (decide ((v8_5.getD (IntKind.wrap .i64 (v11_8 - 1)).toNat (([] : List UInt8), (Fm.mk 0 0 [] []))).1 = [])) false) r16 false) (X48 r15) (some false)) fun r17 => (
 cond (cond (cond (cond (decide (v11_8 > 0)) (decide ((v8_5.getD (IntKind.wrap .i64 (v11_8 - 1)).toNat (([] : List UInt8), (Fm.mk 0 0 [] []))).1 = [])) false) r16 false) r17 false) (cond (decide (v9_6.length + ([10]).length <= 9223372036854775807)) (some ((v1_4, v8_5, v9_6 ++ ([10]), v11_8, r15, ()), ())) none) (some ((v1_4, v8_5, v9_6, v11_8, r15, ()), ()))))) none) fun d18 => (
 let v1_19 := d18.1.1
 let v8_20 := d18.1.2.1
 let v9_21 := d18.1.2.2.1
 let v11_22 := d18.1.2.2.2.1
 let v12_23 := d18.1.2.2.2.2.1
 cond (decide (v9_21.length + v12_23.length <= 9223372036854775807)) (cond (decide ((v9_21 ++ v12_23).length + ([10]).length <= 9223372036854775807)) (some ((v1_19, v8_20, (v9_21 ++ v12_23) ++ ([10]), v12_23, v11_22, ()), ())) none) none))) none)) none) fun d24 => (
 let v1_25 := d24.1.1
 let v8_26 := d24.1.2.1
 let v9_27 := d24.1.2.2.1
 let v10_28 := d24.1.2.2.2.1
 let v11_29 := d24.1.2.2.2.2.1
 some (Step.next ((v1_25, v8_26, v9_27, v10_28, IntKind.wrap .i64 (v11_29 + 1), ()), ())))) (some (Step.done ((v9_6, ()), ()))))) ((x1, r2, [], [], 0, ()), ())) fun d30 => (
 let v9_31 := d30.1.1
 some (v9_31, 0, ())))))))
def Z3d : An := .seq (.leaf) (.seq (.leaf) (.seq (.leaf) (.seq (.leaf) (.seq (.leaf) (.seq (.leaf) (.join false ⟨[(9, (.d .str))], []⟩ (.seq (.leaf) (.block (.loop ⟨[(1, (.d (.int .i64))), (8, (.d (.slice (.pr .str .form)))), (9, (.d .str)), (10, (.d .str)), (11, (.d (.int .i64)))], []⟩ (.seq (.leaf) (.join false ⟨[(1, (.d (.int .i64))), (8, (.d (.slice (.pr .str .form)))), (9, (.d .str)), (10, (.d .str)), (11, (.d (.int .i64)))], []⟩ (.block (.seq (.seq (.leaf) (.cond (.join false ⟨[(1, (.d (.int .i64))), (8, (.d (.slice (.pr .str .form)))), (9, (.d .str)), (10, (.d .str)), (11, (.d (.int .i64)))], []⟩ (.leaf) (.leaf)) (.leaf))) (.seq (.leaf) (.join false ⟨[(1, (.d (.int .i64))), (8, (.d (.slice (.pr .str .form)))), (9, (.d .str)), (11, (.d (.int .i64))), (12, (.d .str))], []⟩ (.leaf) (.leaf))))) (.leaf)))))) (.leaf)))))))
def Y8P : Sig := .n [(.d .str), (.d (.int .i64))] (.tup [(.d .str), (.d (.int .i64))]) (fun x => Y0Y x.1 x.2.1)
theorem Y63 : SigOK CX 13 Y8P := X0i (l := [(33, Y4m), (34, Y5V), (28, X9T), (35, Y8U)]) ⟨X9P, Y4l, Y1f, Y68, trivial⟩ (hint := fun _ => {}) (an := Z3d) (fun x => by kernel_rfl)
def X7r  : Option (Bool) := (
 Option.bind (α := (List UInt8) × Int × Unit) (X3P ([40, 102, 32, 32, 32, 49, 41]) 40) fun r1 => (
 some (cond (decide (r1.2.1 = 0)) (decide (r1.1 = [40, 102, 32, 49, 41, 10])) false)))
def Z1c : An := .leaf
def Y50 : Sig := .n [] (.d .bool) (fun x => X7r )
theorem Y4t : SigOK CX 11 Y50 := X0i (l := [(12, X74)]) ⟨X6P, trivial⟩ (hint := fun _ => {}) (an := Z1c) (fun x => by kernel_rfl)
def X7N (x0 : List UInt8) (x1 : Int) : Option (Bool) := (
 Option.bind (α := (List UInt8) × Int × Unit) (X3P x0 x1) fun r1 => (
 Option.bind (α := (List UInt8) × Int × Unit) (Y0Y x0 x1) fun r2 => (
 Option.bind (α := Bool) (cond (cond (decide (r1.1 = r2.1)) (decide (r1.2.1 = r2.2.1)) false) (X7r) (some false)) fun r3 => (
 some (cond (cond (decide (r1.1 = r2.1)) (decide (r1.2.1 = r2.2.1)) false) r3 false)))))
def Y8b : An := .leaf
def Y8J : Sig := .n [(.d .str), (.d (.int .i64))] (.d .bool) (fun x => X7N x.1 x.2.1)
theorem Y2e : SigOK CX 4 Y8J := X0i (l := [(12, X74), (13, Y8P), (11, Y50)]) ⟨X6P, Y63, Y4t, trivial⟩ (hint := fun _ => {}) (an := Y8b) (fun x => by kernel_rfl)
def visS (c : UInt8) : Bool := !X0P c
def wrdF (w : List UInt8) : Fm := .mk 1 0 w []
def nuF (n : Int) : Fm := .mk 0 n [] []
def tokS (num : List UInt8 -> Int × Int) (w : List UInt8) : Int ⊕ Fm :=
 if X0q w = true then (if (num w).2 = 0 then .inr (nuF (num w).1) else .inl (num w).2)
 else if w.length > 30 then .inl 4 else .inr (wrdF w)
theorem yout (c : UInt8) : X1r ((c.toNat : Nat) : Int) = some (X0P c) := by
 unfold X1r;have := c.toNat_lt;rw [if_pos (by omega)]
 congr 2
 simp
def Z3v (num : List UInt8 -> Int × Int) (s : List UInt8) (i0 : Nat) (v : ((Int × Fm) × Bool × Int × Unit) × ((List UInt8 × Int × Unit) × Unit)) : List UInt8 -> Prop
 | [] => v = (((0, Fm.mk 0 0 [] []), false, 0, ()), ((s, (s.length : Int), ()), ()))
 | c :: r =>
  if c = 40 \/ c = 41 then ∃ j : Nat, v = (((((c.toNat : Nat) : Int), Fm.mk 0 0 [] []), true, 0, ()), ((s, (j : Int), ()), ())) /\ i0 < j /\ j <= s.length /\ s.drop j = r
  else if c = 34 then (match X0T r [] with
   | .inl e => e ≠ 0 /\ ∃ (t : Int × Fm) (a : Bool) (j : Int), v = ((t, a, e, ()), ((s, j, ()), ()))
   | .inr (b, q) => ∃ j : Nat, v = (((0, txtF b), true, 0, ()), ((s, (j : Int), ()), ())) /\ i0 < j /\ j <= s.length /\ s.drop j = q)
  else if visS c = true then (match tokS num ((c :: r).takeWhile visS) with
   | .inl e => e ≠ 0 /\ ∃ (t : Int × Fm) (a : Bool) (j : Int), v = ((t, a, e, ()), ((s, j, ()), ()))
   | .inr f => ∃ j : Nat, v = (((0, f), true, 0, ()), ((s, (j : Int), ()), ())) /\ i0 < j /\ j <= s.length /\ s.drop j = (c :: r).dropWhile visS)
  else ∃ (t : Int × Fm) (a : Bool) (j : Int), v = ((t, a, 4, ()), ((s, j, ()), ()))
theorem Z1Z {num : List UInt8 -> Int × Int} {s : List UInt8} {i0 : Nat} (hs : s.length <= 1000000000) (h0 : i0 <= s.length) (hnum : ∀ w : List UInt8, w.length <= s.length -> X0q w = true -> X3Q w = some ((num w).1, (num w).2, ())) :
  ∃ v, Y0W (s, (i0 : Int), ()) = some v /\ Z3v num s i0 v (X0z false (s.drop i0)) := by
 obtain ⟨i, h1, h2, h3, h4, h5⟩ := Z2m hs h0;rw [<- h4];unfold Y0W;rw [show X9K ((s, (i0 : Int), ()).1, (s, (i0 : Int), ()).2.1, ()) = _ from h1];simp only [Option.bind_some]
 by_cases hl : i = s.length
 ·have dl : decide ((i : Int) = (s.length : Int)) = true := decide_eq_true (by omega);rw [dl, cond_true, List.drop_of_length_le (by omega)];exact ⟨_, rfl, by subst hl; rfl⟩
 have hi' : i < s.length := by omega
 have dl : decide ((i : Int) = (s.length : Int)) = false := decide_eq_false (by omega);have x1 : ixOK (i : Int) s.length = true := X0e.2 (by omega);have q40 : decide (((s[i].toNat : Nat) : Int) = 40) = decide (s[i] = 40) := X0u _ 40 (by decide);have q41 : decide (((s[i].toNat : Nat) : Int) = 41) = decide (s[i] = 41) := X0u _ 41 (by decide);have q34 : decide (((s[i].toNat : Nat) : Int) = 34) = decide (s[i] = 34) := X0u _ 34 (by decide);have hd := X2k hi';rw [hd];simp only [dl, cond_false, x1, cond_true, X2d hi', q40, q41, q34, X5y (show i < 4611686018427387904 by omega), Z3v]
 by_cases c4 : s[i] = 40 \/ s[i] = 41
 ·have dd : cond (decide (s[i] = 40)) true (decide (s[i] = 41)) = true := by rcases c4 with h | h <;> simp [h]
  rw [dd, cond_true];simp only [if_pos c4];exact ⟨_, rfl, i + 1, rfl, by omega, by omega, rfl⟩
 have dd : cond (decide (s[i] = 40)) true (decide (s[i] = 41)) = false := by simp only [not_or] at c4; simp [c4.1, c4.2]
 rw [dd, cond_false];simp only [if_neg c4]
 by_cases c34 : s[i] = 34
 ·rw [decide_eq_true c34, cond_true];simp only [if_pos c34];obtain ⟨v, w1, w2⟩ := Z2y hs hi';rw [w1];cases hx : X0T (s.drop (i + 1)) [] with
  | inl e =>
   rw [hx] at w2;obtain ⟨he, j, rfl⟩ := w2;exact ⟨_, rfl, he, _, _, _, rfl⟩
  | inr p =>
   obtain ⟨b, q⟩ := p;rw [hx] at w2;obtain ⟨j, rfl, a1, a2, a3⟩ := w2;exact ⟨_, rfl, j, rfl, by omega, a2, a3⟩
 rw [decide_eq_false c34, cond_false, yout];simp only [Option.bind_some, if_neg c34];cases ho : X0P s[i] with
 | true =>
  have hv : ¬ visS s[i] = true := by simp [visS, ho]
  rw [cond_true];simp only [if_neg hv];exact ⟨_, rfl, _, _, _, rfl⟩
 | false =>
  have hv : visS s[i] = true := by simp [visS, ho]
  rw [cond_false];simp only [if_pos hv];refine X6M (fun d => ∃ k : Nat, d = (((), (), (i : Int), ()), ((s, (k : Int), ()), (0, 0, 0, [], (), ()), ())) /\ i <= k /\ k <= s.length /\ (s.drop i).takeWhile visS = (s.drop i).take (k - i) ++ (s.drop k).takeWhile visS /\ (s.drop i).dropWhile visS = (s.drop k).dropWhile visS) (fun d => s.length - d.2.1.2.1.toNat) _ ?_ ⟨i, rfl, Nat.le_refl _, h3, by simp, rfl⟩;rintro d ⟨k, rfl, hk1, hk2, hk3, hk4⟩;simp only [Int.toNat_natCast];have sl : slOK (i : Int) (k : Int) s.length = true := X1t.2 (by omega)
  by_cases hk' : k < s.length
  ·have e1 : decide ((k : Int) < (s.length : Int)) = true := by apply decide_eq_true; omega
   have x2 : ixOK (k : Int) s.length = true := X0e.2 (by omega);have hdk := X2k hk';simp only [e1, x2, X2d hk', yout, cond_true, Bool.true_or, Option.bind_some, X5y (show k < 4611686018427387904 by omega)];cases hok : X0P s[k] with
   | false =>
    have hvk : visS s[k] = true := by simp [visS, hok]
    simp only [Bool.not_false, cond_true];refine .inl ⟨_, rfl, ⟨k + 1, rfl, by omega, by omega, ?_, ?_⟩, by simp only [Int.toNat_natCast]; omega⟩
    ·rw [hk3, hdk, List.takeWhile_cons_of_pos hvk, show k + 1 - i = (k - i) + 1 by omega];have hlt : k - i < (s.drop i).length := by rw [List.length_drop]; omega
     rw [List.take_succ_eq_append_getElem hlt, List.append_assoc]
     congr 1
     simp only [List.getElem_drop, List.singleton_append]
     congr 2
     omega
    rw [hk4, hdk, List.dropWhile_cons_of_pos hvk]
   | true =>
    have hvk : ¬ visS s[k] = true := by simp [visS, hok]
    have t1 : (s.drop k).takeWhile visS = [] := by rw [hdk, List.takeWhile_cons_of_neg hvk]
    have t2 : (s.drop k).dropWhile visS = s.drop k := by rw [hdk, List.dropWhile_cons_of_neg hvk]
    refine .inr ⟨_, by simp only [Bool.not_true, cond_false]; rfl, ?_⟩;have hw : (s.drop i).take (k - i) = (s[i] :: s.drop (i + 1)).takeWhile visS := by rw [<- hd, hk3, t1, List.append_nil]
    have hq : s.drop k = (s[i] :: s.drop (i + 1)).dropWhile visS := by rw [<- hd, hk4, t2]
    have hpos : 0 < k - i := by
     have hne : 0 < ((s.drop i).take (k - i)).length := by rw [hw, List.takeWhile_cons_of_pos hv]; simp
     rw [List.length_take] at hne; omega
    have hwl : ((s.drop i).take (k - i)).length <= s.length := by rw [List.length_take, List.length_drop]; omega
    simp only [Int.toNat_natCast, sl, cond_true];rw [<- hw];have hn : X1P ((s.drop i).take (k - i)) = some (X0q ((s.drop i).take (k - i))) := by unfold X1P; rw [if_pos (by omega)]
    rw [hn];simp only [Option.bind_some, tokS]
    by_cases hnw : X0q ((s.drop i).take (k - i)) = true
    ·rw [hnw, cond_true, hnum _ hwl hnw];refine ⟨_, rfl, ?_⟩;simp only [if_true]
     by_cases hz : (num ((s.drop i).take (k - i))).2 = 0
     ·simp only [if_pos hz];exact ⟨k, by rw [hz]; rfl, by omega, hk2, hq⟩
     simp only [if_neg hz];exact ⟨hz, _, _, _, rfl⟩
    have hnf : X0q ((s.drop i).take (k - i)) = false := by simpa using hnw
    rw [hnf, cond_false]
    by_cases hl30 : ((s.drop i).take (k - i)).length > 30
    ·have d30 : ∀ j : Decidable ((((s.drop i).take (k - i)).length : Int) > 30), @decide _ j = true := fun j => decide_eq_true (by omega)
     rw [d30, cond_true];refine ⟨_, rfl, ?_⟩;simp only [Bool.false_eq_true, if_false, if_pos hl30];exact ⟨by decide, _, _, _, rfl⟩
    have d30 : ∀ j : Decidable ((((s.drop i).take (k - i)).length : Int) > 30), @decide _ j = false := fun j => decide_eq_false (by omega)
    rw [d30, cond_false];refine ⟨_, rfl, ?_⟩;simp only [Bool.false_eq_true, if_false, if_neg hl30];exact ⟨k, rfl, by omega, hk2, hq⟩
  have e1 : decide ((k : Int) < (s.length : Int)) = false := by apply decide_eq_false; omega
  have t0 : s.drop k = [] := List.drop_of_length_le (by omega);have t1 : (s.drop k).takeWhile visS = [] := by rw [t0]; rfl
  have t2 : (s.drop k).dropWhile visS = s.drop k := by rw [t0]; rfl
  refine .inr ⟨_, by simp only [e1, Bool.not_false, Bool.or_true, cond_true, cond_false, Option.bind_some]; rfl, ?_⟩;have hw : (s.drop i).take (k - i) = (s[i] :: s.drop (i + 1)).takeWhile visS := by rw [<- hd, hk3, t1, List.append_nil]
  have hq : s.drop k = (s[i] :: s.drop (i + 1)).dropWhile visS := by rw [<- hd, hk4, t2]
  have hpos : 0 < k - i := by
   have hne : 0 < ((s.drop i).take (k - i)).length := by rw [hw, List.takeWhile_cons_of_pos hv]; simp
   rw [List.length_take] at hne; omega
  have hwl : ((s.drop i).take (k - i)).length <= s.length := by rw [List.length_take, List.length_drop]; omega
  simp only [Int.toNat_natCast, sl, cond_true];rw [<- hw];have hn : X1P ((s.drop i).take (k - i)) = some (X0q ((s.drop i).take (k - i))) := by unfold X1P; rw [if_pos (by omega)]
  rw [hn];simp only [Option.bind_some, tokS]
  by_cases hnw : X0q ((s.drop i).take (k - i)) = true
  ·rw [hnw, cond_true, hnum _ hwl hnw];refine ⟨_, rfl, ?_⟩;simp only [if_true]
   by_cases hz : (num ((s.drop i).take (k - i))).2 = 0
   ·simp only [if_pos hz];exact ⟨k, by rw [hz]; rfl, by omega, hk2, hq⟩
   simp only [if_neg hz];exact ⟨hz, _, _, _, rfl⟩
  have hnf : X0q ((s.drop i).take (k - i)) = false := by simpa using hnw
  rw [hnf, cond_false]
  by_cases hl30 : ((s.drop i).take (k - i)).length > 30
  ·have d30 : ∀ j : Decidable ((((s.drop i).take (k - i)).length : Int) > 30), @decide _ j = true := fun j => decide_eq_true (by omega)
   rw [d30, cond_true];refine ⟨_, rfl, ?_⟩;simp only [Bool.false_eq_true, if_false, if_pos hl30];exact ⟨by decide, _, _, _, rfl⟩
  have d30 : ∀ j : Decidable ((((s.drop i).take (k - i)).length : Int) > 30), @decide _ j = false := fun j => decide_eq_false (by omega)
  rw [d30, cond_false];refine ⟨_, rfl, ?_⟩;simp only [Bool.false_eq_true, if_false, if_neg hl30];exact ⟨k, rfl, by omega, hk2, hq⟩
def valD (acc : Nat) (r : List UInt8) : Nat := r.foldl (fun a c => 10 * a + (c.toNat - 48)) acc
theorem X9k (acc : Nat) (c : UInt8) (r : List UInt8) : valD acc (c :: r) = valD (10 * acc + (c.toNat - 48)) r := by unfold valD; rw [List.foldl_cons]
theorem Y13 (acc : Nat) : valD acc [] = acc := by unfold valD; rw [List.foldl_nil]
theorem Z0J (r : List UInt8) : ∀ acc : Nat, acc <= valD acc r := by
 induction r with
 | nil => intro acc; rw [Y13]; exact Nat.le_refl _
 | cons c r ih =>
  intro acc;have h := ih (10 * acc + (c.toNat - 48));rw [X9k];exact Nat.le_trans (by omega) h
theorem X5S (c : UInt8) : X25 c = true ↔ 48 <= c.toNat /\ c.toNat <= 57 := by
 have : ∀ n : Fin 256, X25 (UInt8.ofFin n) = true ↔ 48 <= (UInt8.ofFin n).toNat /\ (UInt8.ofFin n).toNat <= 57 := by decide +kernel
 exact this c.toFin
theorem X2J : ∀ (r : List UInt8) (acc : Nat), r.all X25 = true -> match Lib.parseUint10 acc r with
  | .ok u => u = valD acc r
  | .range => 18446744073709551616 <= valD acc r
  | _ => False
 | [], acc, h => by simp only [Lib.parseUint10, Y13]
 | c :: r, acc, h => by
  simp only [List.all_cons, Bool.and_eq_true] at h;have hc := (X5S c).1 h.1;have hge := Z0J r (10 * acc + (c.toNat - 48));have ih := X2J r (10 * acc + (c.toNat - 48)) h.2;rw [X9k];generalize valD (10 * acc + (c.toNat - 48)) r = v at hge ih ⊢;simp only [Lib.parseUint10, if_pos hc]
  by_cases h1 : 1844674407370955162 <= acc
  ·rw [if_pos h1];show 18446744073709551616 <= v;omega
  rw [if_neg h1]
  by_cases h2 : 18446744073709551616 <= acc * 10 + (c.toNat - 48)
  ·rw [if_pos h2];show 18446744073709551616 <= v;omega
  rw [if_neg h2, Nat.mul_comm acc 10];exact ih
def numS (w : List UInt8) : Int × Int :=
 if (1 < (X0a w).length /\ (X0a w).head? = some 48) \/ w = [45, 48] then (0, 4)
 else if 1152921504606846976 < valD 0 (X0a w) then (0, 5)
 else (if w.head? = some 45 then - (valD 0 (X0a w) : Int) else (valD 0 (X0a w) : Int), 0)
theorem Z13 {w : List UInt8} (h : X0q w = true) : (match Lib.atoiAll w with
   | .ok v => if v < -1152921504606846976 \/ v > 1152921504606846976 then ((0 : Int), (5 : Int)) else (v, 0)
   | _ => (0, 5)) = if 1152921504606846976 < valD 0 (X0a w) then (0, 5) else (if w.head? = some 45 then - (valD 0 (X0a w) : Int) else (valD 0 (X0a w) : Int), 0) := by
 unfold X0q at h;simp only [Bool.and_eq_true, decide_eq_true_eq] at h;obtain ⟨hne, hd⟩ := h;have hp := X2J (X0a w) 0 hd;generalize hv : valD 0 (X0a w) = V at hp ⊢;cases w with
 | nil => exact absurd rfl hne
 | cons c r =>
  have hc45 : (c.toNat = 45) ↔ c = 45 := by
   constructor
   ·intro e; exact UInt8.toNat_inj.1 e
   intro e; subst e; rfl
  by_cases h45 : c = 45
  ·have hcm : X0a (c :: r) = r := by unfold X0a; rw [if_pos (by simp [h45])]; rfl
   rw [hcm] at hne hp;have hh : (c :: r).head? = some 45 := by simp [h45]
   have hn : c.toNat = 45 := hc45.2 h45;simp only [hh, if_true];have hm : Lib.parseMag r = Lib.parseUint10 0 r := by unfold Lib.parseMag; rw [if_neg hne]
   clear hv;simp only [Lib.atoiAll, hn, or_true, if_true, hm];cases hx : Lib.parseUint10 0 r with
   | ok u =>
    rw [hx] at hp;have hp : V = u := Eq.symm hp;subst hp;simp only [not_true_eq_false, false_and, if_false, true_and]
    by_cases hb : 9223372036854775808 < V
    ·rw [if_pos hb, if_pos (by omega)]
    rw [if_neg hb];simp only
    by_cases hm : 1152921504606846976 < V
    ·rw [if_pos hm, if_pos (by omega)]
    rw [if_neg hm, if_neg (by omega)]
   | range =>
    rw [hx] at hp;have hp : 18446744073709551616 <= V := hp;simp only;rw [if_pos (by omega)]
   | _ => rw [hx] at hp; exact hp.elim
  have hcm : X0a (c :: r) = c :: r := by unfold X0a; rw [if_neg (by simp [h45])]
  rw [hcm] at hne hp hd;have hh : ¬ (c :: r).head? = some 45 := by simp [h45]
  have hdc := (X5S c).1 (by simp only [List.all_cons, Bool.and_eq_true] at hd; exact hd.1);have hn : ¬ c.toNat = 45 := by omega
  have hn3 : ¬ (c.toNat = 43 \/ c.toNat = 45) := by omega
  simp only [hh, if_false];have hm : Lib.parseMag (c :: r) = Lib.parseUint10 0 (c :: r) := by unfold Lib.parseMag; rw [if_neg hne]
  clear hv;have hn43 : ¬ c.toNat = 43 := by omega
  simp only [Lib.atoiAll, hn, hn43, or_self, if_false, hm];cases hx : Lib.parseUint10 0 (c :: r) with
  | ok u =>
   rw [hx] at hp;have hp : V = u := Eq.symm hp;subst hp;simp only [not_false_eq_true, true_and, false_and, if_false]
   by_cases hb : 9223372036854775808 <= V
   ·rw [if_pos hb, if_pos (by omega)]
   rw [if_neg hb];simp only
   by_cases hm : 1152921504606846976 < V
   ·rw [if_pos hm, if_pos (by omega)]
   rw [if_neg hm, if_neg (by omega)]
  | range =>
   rw [hx] at hp;have hp : 18446744073709551616 <= V := hp;simp only;rw [if_pos (by omega)]
  | _ => rw [hx] at hp; exact hp.elim
theorem Y97 {w : List UInt8} (h : X0q w = true) : (match Lib.atoiAll w with
  | .ok _ => True
  | .range => True
  | _ => False) := by
 unfold X0q at h;simp only [Bool.and_eq_true, decide_eq_true_eq] at h;obtain ⟨hne, hd⟩ := h;have hp := X2J (X0a w) 0 hd;cases hs : Lib.atoiAll w with
 | ok v => trivial
 | range => trivial
 | _ =>
 exfalso;cases w with
 | nil => exact absurd rfl hne
 | cons c r =>
  by_cases h45 : c = 45
  ·have hcm : X0a (c :: r) = r := by unfold X0a; rw [if_pos (by simp [h45])]; rfl
   rw [hcm] at hne hp;have hm : Lib.parseMag r = Lib.parseUint10 0 r := by unfold Lib.parseMag; rw [if_neg hne]
   subst h45;have e : (45 : UInt8).toNat = 45 := rfl;simp only [Lib.atoiAll, e, or_true, if_true, hm] at hs;cases hx : Lib.parseUint10 0 r with
   | range => rw [hx] at hs; cases hs
   | ok u =>
    rw [hx] at hs;simp only at hs;split at hs
    ·cases hs
    split at hs <;> cases hs
   | _ => rw [hx] at hp; exact hp
  have hcm : X0a (c :: r) = c :: r := by unfold X0a; rw [if_neg (by simp [h45])]
  rw [hcm] at hne hp hd;have hdc := (X5S c).1 (by simp only [List.all_cons, Bool.and_eq_true] at hd; exact hd.1);have hm : Lib.parseMag (c :: r) = Lib.parseUint10 0 (c :: r) := by unfold Lib.parseMag; rw [if_neg hne]
  have hn : ¬ c.toNat = 45 := by omega
  have hn43 : ¬ c.toNat = 43 := by omega
  simp only [Lib.atoiAll, hn, hn43, or_self, if_false, hm] at hs;cases hx : Lib.parseUint10 0 (c :: r) with
  | range => rw [hx] at hs; cases hs
  | ok u =>
   rw [hx] at hs;simp only at hs;split at hs
   ·cases hs
   split at hs <;> cases hs
  | _ => rw [hx] at hp; exact hp
def numL : Nat -> List UInt8 -> Option Nat
 | acc, [] => if 1152921504606846976 < acc then none else some acc
 | acc, c :: r => if 115292150460684697 < acc then none else numL (10 * acc + (c.toNat - 48)) r
theorem Z11 (r : List UInt8) : ∀ acc : Nat, numL acc r = if 1152921504606846976 < valD acc r then none else some (valD acc r) := by
 induction r with
 | nil => intro acc; rw [Y13]; rfl
 | cons c r ih =>
  intro acc;have hge := Z0J r (10 * acc + (c.toNat - 48));have ih := ih (10 * acc + (c.toNat - 48));rw [X9k];unfold numL;generalize valD (10 * acc + (c.toNat - 48)) r = v at hge ih ⊢
  by_cases h : 115292150460684697 < acc
  ·rw [if_pos h, if_pos (by omega)]
  rw [if_neg h];exact ih
theorem Y7z {w : List UInt8} (hw : w.length <= 1000000000) (h : X0q w = true) : X3Q w = some ((numS w).1, (numS w).2, ()) := by
 have hc : X12 w [45] = X0a w := X8w w;have hne : X0a w ≠ [] := by
  unfold X0q at h;simp only [Bool.and_eq_true, decide_eq_true_eq] at h;exact h.1
 have hpos : 0 < (X0a w).length := List.length_pos_iff.2 hne;have hat := Z13 h;unfold X3Q;rw [hc];have x1 : ixOK 0 (X0a w).length = true := X0e.2 (by omega);refine Y73 (by rw [x1]; rfl) ?_;have hb : X0b (X0a w) 0 = (((X0a w)[0].toNat : Nat) : Int) := X2d (i := 0) hpos;have hh : (X0a w).head? = some (X0a w)[0] := by rw [List.head?_eq_getElem?, List.getElem?_eq_getElem hpos]
 have q48 : decide (X0b (X0a w) 0 = 48) = decide ((X0a w)[0] = 48) := by rw [hb]; exact X0u _ 48 (by decide)
 rw [q48];unfold numS;rw [hh]
 by_cases hz : (1 < (X0a w).length /\ some (X0a w)[0] = some 48) \/ w = [45, 48]
 ·rw [if_pos hz];refine Y73 ?_ rfl;rcases hz with ⟨z1, z2⟩ | z
  ·have e1 : decide (((X0a w).length : Int) > 1) = true := decide_eq_true (by omega);have e2 : decide ((X0a w)[0] = 48) = true := decide_eq_true (Option.some.inj z2);rw [e1, e2]; rfl
  rw [decide_eq_true z];cases cond (decide (((X0a w).length : Int) > 1)) (decide ((X0a w)[0] = 48)) false <;> rfl
 rw [if_neg hz];have z1 : ¬ (1 < (X0a w).length /\ some (X0a w)[0] = some 48) := fun h => hz (.inl h)
 have z2 : ¬ w = [45, 48] := fun h => hz (.inr h)
 refine Y33 ?_ ?_
 ·rw [decide_eq_false z2]
  by_cases e : ((X0a w).length : Int) > 1
  ·have : ¬ (X0a w)[0] = 48 := fun h => z1 ⟨by omega, by rw [h]⟩
   rw [decide_eq_true e, decide_eq_false this]; rfl
  rw [decide_eq_false e]; rfl
 unfold Y9m;rw [if_pos (by omega)];rw [<- hat];cases hx : Lib.atoiAll w with
 | ok v =>
  simp only [Option.bind_some, Bool.not_true, cond_false]
  by_cases c : v < -1152921504606846976 \/ v > 1152921504606846976
  ·rw [if_pos c];refine Y73 ?_ rfl;rcases c with c | c
   ·rw [decide_eq_true c]; rfl
   rw [decide_eq_true c]; cases decide (v < -1152921504606846976) <;> rfl
  rw [if_neg c];simp only [not_or] at c;refine Y33 ?_ rfl;rw [decide_eq_false c.1, decide_eq_false c.2]; rfl
 | range => rfl
 | _ =>
  exfalso;have hp := X2J (X0a w) 0 (by unfold X0q at h; simp only [Bool.and_eq_true] at h; exact h.2);have := Y97 h;rw [hx] at this;exact this
def resN (p : Int × Int) : Int × Bool × Bool × Unit := if p.2 = 4 then (0, false, true, ()) else if p.2 = 5 then (0, true, false, ()) else (p.1, true, true, ())
theorem Y96 {d : List UInt8} (hd : d.all X25 = true) (hl : d.length <= 1000000000) (neg : Bool) {F : Step ((Bool × Int × Unit) × (Unit)) (Int × Bool × Bool × Unit) -> Option (Int × Bool × Bool × Unit)} {v : Int × Bool × Bool × Unit}
  (h1 : numL 0 d = none -> F (.done (0, true, false, ())) = some v) (h2 : ∀ n : Nat, n <= 1152921504606846979 -> (if 1152921504606846976 < n then none else some n) = numL 0 d -> F (.next ((neg, (n : Int), ()), ())) = some v) :
  Option.bind (X0v (L := (List UInt8 × Bool × Int × Int × Unit) × (Unit)) (R := Step ((Bool × Int × Unit) × (Unit)) (Int × Bool × Bool × Unit)) (fun d4 => (
 let v5_5 := d4.1.1
 let v6_6 := d4.1.2.1
 let v7_7 := d4.1.2.2.1
 let v8_8 := d4.1.2.2.2.1
 cond (decide (v8_8 < (v5_5.length : Int))) (cond (decide (v7_7 > 115292150460684697)) (some (Step.done (Step.done (0, true, false, ())))) (cond (ixOK v8_8 v5_5.length) (some (Step.next ((v5_5, v6_6, IntKind.wrap .i64 (IntKind.wrap .i64 (10 * v7_7) + IntKind.wrap .i64 (IntKind.wrap .u8 (X0b v5_5 v8_8 - 48))), IntKind.wrap .i64 (v8_8 + 1), ()), ()))) none)) (some (Step.done (Step.next ((v6_6, v7_7, ()), ())))))) ((d, neg, 0, 0, ()), ())) F = some v := by
 refine Exists.elim (X6M (F := F) (l0 := ((d, neg, 0, 0, ()), ())) (fun s => ∃ (i n : Nat), s = ((d, neg, (n : Int), (i : Int), ()), ()) /\ i <= d.length /\ n <= 1152921504606846979 /\ numL n (d.drop i) = numL 0 d) (fun s => d.length - s.1.2.2.2.1.toNat) (fun u => u = v) (b := (fun d4 : (List UInt8 × Bool × Int × Int × Unit) × (Unit) => (
 let v5_5 := d4.1.1
 let v6_6 := d4.1.2.1
 let v7_7 := d4.1.2.2.1
 let v8_8 := d4.1.2.2.2.1
 cond (decide (v8_8 < (v5_5.length : Int))) (cond (decide (v7_7 > 115292150460684697)) (some (Step.done (Step.done (0, true, false, ())))) (cond (ixOK v8_8 v5_5.length) (some (Step.next ((v5_5, v6_6, IntKind.wrap .i64 (IntKind.wrap .i64 (10 * v7_7) + IntKind.wrap .i64 (IntKind.wrap .u8 (X0b v5_5 v8_8 - 48))), IntKind.wrap .i64 (v8_8 + 1), ()), ()))) none)) (some (Step.done (Step.next ((v6_6, v7_7, ()), ())))))) ) ?_ ⟨0, 0, rfl, Nat.zero_le _, by decide, rfl⟩) (fun u h => by obtain ⟨e1, rfl⟩ := h; exact e1)
 rintro s ⟨i, n, rfl, hi, hn, hk⟩;simp only [Int.toNat_natCast]
 by_cases hi' : i < d.length
 ·have c1 : decide ((i : Int) < (d.length : Int)) = true := by apply decide_eq_true; omega
  have x1 : ixOK (i : Int) d.length = true := X0e.2 (by omega);have hdr := X2k hi';have hdi := (X5S d[i]).1 (List.all_eq_true.1 hd _ (List.getElem_mem hi'));simp only [c1, x1, X2d hi', cond_true, X5y (show i < 4611686018427387904 by omega)];rw [hdr] at hk
  by_cases hb : 115292150460684697 < n
  ·have cb : decide ((n : Int) > 115292150460684697) = true := by apply decide_eq_true; omega
   simp only [cb, cond_true];refine .inr ⟨_, rfl, v, h1 ?_, rfl⟩;rw [<- hk, numL, if_pos hb]
  ·have cb : decide ((n : Int) > 115292150460684697) = false := by apply decide_eq_false; omega
   have wu : IntKind.wrap .u8 (((d[i].toNat : Nat) : Int) - 48) = ((d[i].toNat - 48 : Nat) : Int) := by
    rw [IntKind.wrap_u8]; omega
   have w1 : IntKind.wrap .i64 (10 * (n : Int)) = ((10 * n : Nat) : Int) := by rw [w64 (by omega) (by omega)]; omega
   have w2 : IntKind.wrap .i64 ((d[i].toNat - 48 : Nat) : Int) = ((d[i].toNat - 48 : Nat) : Int) := w64 (by omega) (by omega);have w3 : IntKind.wrap .i64 (((10 * n : Nat) : Int) + ((d[i].toNat - 48 : Nat) : Int)) = ((10 * n + (d[i].toNat - 48) : Nat) : Int) := by rw [w64 (by omega) (by omega)]; omega
   simp only [cb, cond_false, wu, w1, w2, w3];refine .inl ⟨_, rfl, ⟨i + 1, 10 * n + (d[i].toNat - 48), rfl, by omega, by omega, ?_⟩, by simp only [Int.toNat_natCast]; omega⟩;rw [<- hk, numL, if_neg hb]
 ·have c1 : decide ((i : Int) < (d.length : Int)) = false := by apply decide_eq_false; omega
  rw [List.drop_of_length_le (by omega)] at hk;refine .inr ⟨_, by simp only [c1, cond_false], v, h2 n hn ?_, rfl⟩;rw [<- hk]; rfl
theorem Z7d : resN (0, 4) = (0, false, true, ()) := rfl
theorem Z6e : resN (0, 5) = (0, true, false, ()) := rfl
theorem Z2f {w : List UInt8} (hw : w.length <= 1000000000) (h : X0q w = true) : X5B w = some (resN (numS w)) := by
 have hcl := X37 w;have hnum : X0q w = true := h;unfold X0q at h;simp only [Bool.and_eq_true, decide_eq_true_eq] at h;obtain ⟨hne, hd⟩ := h;have hpos : 0 < (X0a w).length := List.length_pos_iff.2 hne;have first : (cond (ixOK 0 w.length) (cond (decide (X0b w 0 = 45)) (cond (slOK 1 (w.length : Int) w.length) (some (((w.drop (1 : Int).toNat).take ((w.length : Int).toNat - (1 : Int).toNat), true, ()), ())) none) (some ((w, false, ()), ()))) none) = some ((X0a w, decide (w.head? = some 45), ()), ()) := by
  cases w with
  | nil => exact absurd rfl hne
  | cons c r =>
   have x0 : ixOK 0 (c :: r).length = true := X0e.2 (by simp only [List.length_cons]; omega);have hb : X0b (c :: r) 0 = ((c.toNat : Nat) : Int) := rfl;have q45 : decide (((c.toNat : Nat) : Int) = 45) = decide (c = 45) := X0u _ 45 (by decide);rw [x0, cond_true, hb, q45]
   by_cases h45 : c = 45
   ·have sl : slOK 1 ((c :: r).length : Int) (c :: r).length = true := X1t.2 (by simp only [List.length_cons]; omega);have hcm : X0a (c :: r) = r := by unfold X0a; rw [if_pos (by simp [h45])]; rfl
    rw [decide_eq_true h45, cond_true, sl, cond_true, hcm];have e1 : ((c :: r).drop (1 : Int).toNat).take (((c :: r).length : Int).toNat - (1 : Int).toNat) = r := by
     show r.take _ = r;exact List.take_of_length_le (by simp)
    rw [e1, decide_eq_true (show (c :: r).head? = some 45 by simp [h45])]
   have hcm : X0a (c :: r) = c :: r := by unfold X0a; rw [if_neg (by simp [h45])]
   rw [decide_eq_false h45, cond_false, hcm, decide_eq_false (show ¬ (c :: r).head? = some 45 by simp [h45])]
 unfold X5B;rw [first];simp only [Option.bind_some];have x1 : ixOK 0 (X0a w).length = true := X0e.2 (by omega);have hb : X0b (X0a w) 0 = (((X0a w)[0].toNat : Nat) : Int) := X2d (i := 0) hpos;have q48 : decide (X0b (X0a w) 0 = 48) = decide ((X0a w)[0] = 48) := by rw [hb]; exact X0u _ 48 (by decide)
 have hh : (X0a w).head? = some (X0a w)[0] := by rw [List.head?_eq_getElem?, List.getElem?_eq_getElem hpos]
 rw [x1, cond_true, q48];have zero : ((1 < (X0a w).length /\ (X0a w).head? = some 48) \/ w = [45, 48]) ↔ ((X0a w)[0] = 48 /\ (1 < (X0a w).length \/ w.head? = some 45)) := by
  rw [hh];constructor
  ·rintro (⟨a, b⟩ | rfl)
   ·exact ⟨Option.some.inj b, .inl a⟩
   exact ⟨rfl, .inr rfl⟩
  rintro ⟨a, b | b⟩
  ·exact .inl ⟨b, by rw [a]⟩
  by_cases hl : 1 < (X0a w).length
  ·exact .inl ⟨hl, by rw [a]⟩
  right;cases w with
  | nil => exact absurd rfl hne
  | cons c r =>
   have hc : c = 45 := by simpa using b
   subst hc;have hcm : X0a (45 :: r) = r := by unfold X0a; rw [if_pos (by simp)]; rfl
   cases r with
   | nil => rw [hcm] at hpos; simp at hpos
   | cons e q =>
    cases q with
    | nil =>
     have : (X0a [45, e])[0] = e := rfl;have a' : e = 48 := a;rw [a']
    | cons e2 q2 => rw [hcm] at hl; simp at hl
 unfold numS
 by_cases hz : (X0a w)[0] = 48 /\ (1 < (X0a w).length \/ w.head? = some 45)
 ·rw [if_pos (zero.2 hz), Z7d];refine Y73 ?_ rfl;rw [decide_eq_true hz.1, cond_true]
  by_cases e : ((X0a w).length : Int) > 1
  ·rw [decide_eq_true e]; rfl
  rw [decide_eq_false e];exact decide_eq_true (hz.2.resolve_left (by omega))
 rw [if_neg (fun h => hz (zero.1 h))];refine Y33 ?_ ?_
 ·by_cases e : (X0a w)[0] = 48
  ·have hz2 : ¬ (1 < (X0a w).length \/ w.head? = some 45) := fun h => hz ⟨e, h⟩
   simp only [not_or] at hz2;rw [decide_eq_true e, decide_eq_false (show ¬ ((X0a w).length : Int) > 1 by omega), decide_eq_false hz2.2]; rfl
  rw [decide_eq_false e]; rfl
 have hv := Z11 (X0a w) 0;refine Y96 hd (by omega) _ (fun hn => ?_) (fun n hn hk => ?_)
 ·rw [hn] at hv
  by_cases hm : 1152921504606846976 < valD 0 (X0a w)
  ·rw [if_pos hm, Z6e]
  rw [if_neg hm] at hv; cases hv
 rw [hv] at hk
 by_cases hm : 1152921504606846976 < n
 ·have d1 : decide ((n : Int) > 1152921504606846976) = true := by apply decide_eq_true; omega
  rw [if_pos hm] at hk;have hm2 : 1152921504606846976 < valD 0 (X0a w) := by
   apply Classical.byContradiction;intro hc; rw [if_neg hc] at hk; cases hk
  rw [if_pos hm2, Z6e];exact Y73 d1 rfl
 have d1 : decide ((n : Int) > 1152921504606846976) = false := by apply decide_eq_false; omega
 rw [if_neg hm] at hk;have hm2 : ¬ 1152921504606846976 < valD 0 (X0a w) := by
  intro hc; rw [if_pos hc] at hk; cases hk
 rw [if_neg hm2] at hk;have hn2 : n = valD 0 (X0a w) := Option.some.inj hk;rw [if_neg hm2, <- hn2];refine Y33 d1 ?_
 by_cases h45 : w.head? = some 45
 ·rw [if_pos h45];refine Z2D (v := ((- (n : Int), ()), ())) (Y73 (decide_eq_true h45) ?_) rfl;show some ((IntKind.wrap .i64 (0 - (n : Int)), ()), ()) = _;rw [w64 (n := 0 - (n : Int)) (by omega) (by omega), Int.zero_sub]
 rw [if_neg h45];exact Z2D (v := (((n : Int), ()), ())) (Y33 (decide_eq_false h45) rfl) rfl
end Go.Ab
namespace Go.Ab
open Go Go.RowKit Go.Proofs
theorem ymg {R : Type} {a b : Option R} {v : R} (ha : a = some v) (hb : b = some v) : mgC a b = some v := by
 subst ha; subst hb;unfold mgC;split
 ·rfl
 rename_i h _; exact absurd rfl h
section
variable {α : Type} {P : List α} {x y d : α}
theorem X0Z : (P ++ [x]).length = P.length + 1 := by simp
theorem X9b : (P ++ [x]).getD P.length d = x := by simp [List.getD_eq_getElem?_getD]
theorem Y5t : (P ++ [x]).set P.length y = P ++ [y] := by
 rw [List.set_append_right _ _ (Nat.le_refl _), Nat.sub_self]; rfl
theorem Y6E : (P ++ [x]).take P.length = P := by simp
theorem X6J (h : P.length < 4611686018427387904) : IntKind.wrap .i64 (((P.length + 1 : Nat) : Int) - 1) = (P.length : Int) := by
 rw [w64 (by omega) (by omega)]; omega
theorem Y45 {f z : α} {n : Nat} : [z].set (n - n) f = [f] := by rw [Nat.sub_self]; rfl
end
theorem Y5E (c : UInt8) : X3V ((c.toNat : Nat) : Int) = some (decide (c = 34) || visS c) := by
 unfold X3V;have q34 : decide (((c.toNat : Nat) : Int) = 34) = decide (c = 34) := X0u _ 34 (by decide);simp only [q34, yout];cases hc : decide (c = 34) with
 | true => rfl
 | false => rfl
def resP : Int ⊕ List Fm -> List Fm × Int × Unit
 | .inl e => ([], e, ())
 | .inr l => (l, 0, ())
structure Szs (j : Nat) (top : List Fm) (st : List (List Fm)) : Prop where
 hst : st.length <= j
 htop : top.length <= j
 hrows : ∀ t ∈ st, t.length <= j
theorem Szs.app {j j' : Nat} {top : List Fm} {st : List (List Fm)} (h : Szs j top st) (hj : j < j') (f : Fm) : Szs j' (top ++ [f]) st :=
 ⟨by have := h.hst; omega, by have := h.htop; simp; omega, fun t ht => by have := h.hrows t ht; omega⟩
theorem Szs.push {j j' : Nat} {top : List Fm} {st : List (List Fm)} (h : Szs j top st) (hj : j < j') : Szs j' [] (top :: st) :=
 ⟨by have := h.hst; simp only [List.length_cons]; omega, by simp, fun t ht => by
  rcases List.mem_cons.1 ht with rfl | ht
  ·have := h.htop; omega
  have := h.hrows t ht; omega⟩
theorem Szs.pop {j j' : Nat} {top t : List Fm} {st : List (List Fm)} (h : Szs j top (t :: st)) (hj : j < j') (f : Fm) : Szs j' (t ++ [f]) st :=
 ⟨by have := h.hst; simp only [List.length_cons] at this; omega, by have := h.hrows t (by simp); simp; omega, fun x hx => by have := h.hrows x (by simp [hx]); omega⟩
theorem Szs.le {j j' : Nat} {top : List Fm} {st : List (List Fm)} (h : Szs j top st) (hj : j <= j') : Szs j' top st :=
 ⟨Nat.le_trans h.hst hj, Nat.le_trans h.htop hj, fun t ht => Nat.le_trans (h.hrows t ht) hj⟩
theorem ywpv {L R : Type} {b : L -> Option (Step L R)} {l0 : L} {v : R} (I : L -> Prop) (μ : L -> Nat) (h0 : I l0)
  (h : ∀ l, I l -> (∃ l', b l = some (.next l') /\ I l' /\ μ l' < μ l) \/ b l = some (.done v)) : X0v b l0 = some v := by
 obtain ⟨r, h1, h2⟩ := ywp I μ (fun r => r = v) (fun l hl => (h l hl).imp id fun h => ⟨v, h, rfl⟩) h0;rw [<- h2]; exact h1
end Go.Ab
