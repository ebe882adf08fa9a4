/- merged by minib.py -/
import Derived.Test.YthbkbjlfghikfaaGreatDoorT7
set_option linter.unusedVariables false
set_option linter.unusedSimpArgs false
set_option maxRecDepth 100000
noncomputable section
namespace Go.Ab
open Go Go.RowKit Go.Proofs
theorem Y7Y {A : Type} {s q : List UInt8} {j : Nat} (hj : j <= s.length) (hd : s.drop j = q) (X Y : Option A) :
  cond ((ixOK (j : Int) s.length) || !(decide ((j : Int) < (s.length : Int)))) (Option.bind (cond (decide ((j : Int) < (s.length : Int))) (X3V (X0b s (j : Int))) (some false)) fun r10 => cond (cond (decide ((j : Int) < (s.length : Int))) r10 false) X Y) none = cond (X0S visS q) X Y := by
 by_cases h : j < s.length
 ·have x1 : ixOK (j : Int) s.length = true := X0e.2 (by omega);have c1 : decide ((j : Int) < (s.length : Int)) = true := decide_eq_true (by omega);rw [X2k h] at hd;subst hd;simp only [x1, c1, Bool.true_or, cond_true, X2d h, Y5E, Option.bind_some, X0S]
 have c1 : decide ((j : Int) < (s.length : Int)) = false := decide_eq_false (by omega);have hq : q = [] := by rw [<- hd]; exact List.drop_of_length_le (by omega)
 subst hq;simp only [c1, Bool.not_false, Bool.or_true, cond_true, cond_false, Option.bind_some, X0S]
theorem Z0a {s : List UInt8} (hs : s.length <= 1000000000) : Y0X s = some (resP (X0G visS (tokS numS) (s.length + 1) s [] [])) := by
 unfold Y0X;generalize hT0 : X0G visS (tokS numS) (s.length + 1) s [] [] = T0
 refine ywpv (fun l => ∃ (j : Nat) (top : List Fm) (st : List (List Fm)) (n : Nat), l = (((), (), ()), ((s, (j : Int), ()), st.reverse ++ [top], ())) /\ j <= s.length /\ s.length - j < n /\ X0G visS (tokS numS) n (s.drop j) top st = T0 /\ Szs j top st)
  (fun l => s.length - l.2.1.2.1.toNat) ⟨0, [], [], s.length + 1, rfl, Nat.zero_le _, by omega, by simpa using hT0, ⟨by simp, by simp, by simp⟩⟩ ?_
 rintro l ⟨j, top, st, n, rfl, hj, hn, hT, hz⟩;obtain ⟨v, hv, hq⟩ := Z1Z (num := numS) hs hj (fun w hw h => Y7z (by omega) h);cases n with
 | zero => omega
 | succ n =>
 rw [X0N] at hT;dsimp only;rw [hv];simp only [Option.bind_some];have hPl : st.reverse.length = st.length := List.length_reverse;have hst := hz.hst;have htop := hz.htop;have hstl : st.reverse.length < 4611686018427387904 := by rw [hPl]; omega
 cases hsk : X0z false (s.drop j) with
 | nil =>
  rw [hsk] at hq hT;subst hq;right;cases st with
  | nil => subst hT; simp [ixOK, resP, X0Z, IntKind.wrap_i64]
  | cons t st' =>
   subst hT;have c1 : decide (IntKind.wrap .i64 ((((t :: st').reverse ++ [top]).length : Int) - 1) > 0) = true := by
    rw [X0Z, X6J hstl]; apply decide_eq_true; rw [hPl]; simp only [List.length_cons]; omega
   simp only [c1];rfl
 | cons c r =>
  rw [hsk] at hq hT;simp only [Z3v] at hq
  by_cases c4 : c = 40 \/ c = 41
  ·rw [if_pos c4] at hq;obtain ⟨j', rfl, hjj, hj', hdr⟩ := hq;have hlen : s.drop j = X0z false (s.drop j) -> True := fun _ => trivial
   by_cases c40 : c = 40
   ·subst c40;left;have cl : (st.length + 1 + 1) * 24 <= 140737488355328 := by omega
    refine ⟨(((), (), ()), ((s, (j' : Int), ()), (st.reverse ++ [top]) ++ [[]], ())), ?_, ⟨j', [], top :: st, n, by simp, hj', by omega, ?_, hz.push hjj⟩, ?_⟩
    ·simp [cl]
    ·rw [hdr]; simpa using hT
    simp only [Int.toNat_natCast]; omega
   have c41 : c = 41 := c4.resolve_left c40;subst c41;cases st with
   | nil =>
    right;have hT' : Sum.inl 4 = T0 := by simpa using hT
    subst hT';simp [X0Z, IntKind.wrap_i64, resP]
   | cons t st' =>
    left;have hP : (t :: st').reverse = st'.reverse ++ [t] := by simp
    have hl1 : st'.reverse.length = st'.length := List.length_reverse;have hst2 : st'.length + 1 <= j := by simpa using hst
    have htl : t.length <= j := hz.hrows t (by simp);rw [hP];have w1 : IntKind.wrap .i64 ((((st'.reverse ++ [t]) ++ [top]).length : Int) - 1) = (((st'.reverse ++ [t]).length : Nat) : Int) := by
     rw [X0Z]; exact X6J (by rw [X0Z, hl1]; omega)
    have w2 : IntKind.wrap .i64 ((((st'.reverse ++ [t]).length : Nat) : Int) - 1) = (st'.reverse.length : Int) := by
     rw [X0Z]; exact X6J (by rw [hl1]; omega)
    have g1 : ((st'.reverse ++ [t]) ++ [top]).getD (st'.reverse ++ [t]).length ([] : List Fm) = top := X9b;have g2 : (st'.reverse ++ [t]).getD st'.reverse.length ([] : List Fm) = t := X9b;have g3 : ((st'.reverse ++ [t]) ++ [top]).take (st'.reverse ++ [t]).length = st'.reverse ++ [t] := Y6E;have g4 : ∀ y : List Fm, (st'.reverse ++ [t]).set st'.reverse.length y = st'.reverse ++ [y] := fun y => Y5t
    have c1 : decide (((st'.reverse ++ [t]).length : Int) = 0) = false := by apply decide_eq_false; rw [X0Z]; omega
    have c2 : ixOK (((st'.reverse ++ [t]).length : Nat) : Int) ((st'.reverse ++ [t]) ++ [top]).length = true := X0e.2 (by rw [X0Z (x := top)]; omega);have c3 : decide ((st'.reverse ++ [t]).length < ((st'.reverse ++ [t]) ++ [top]).length) = true := decide_eq_true (by rw [X0Z (x := top)]; omega);have c4' : hiOK (((st'.reverse ++ [t]).length : Nat) : Int) ((st'.reverse ++ [t]) ++ [top]).length = true := Y6k.2 (by rw [X0Z (x := top)]; omega);have c5 : ixOK ((st'.reverse.length : Nat) : Int) (st'.reverse ++ [t]).length = true := X0e.2 (by rw [X0Z]; omega);have c6 : decide (st'.reverse.length < (st'.reverse ++ [t]).length) = true := decide_eq_true (by rw [X0Z]; omega);have c7 : ∀ f : Fm, decide ((t.length + [f].length) * 56 <= 140737488355328) = true := fun f => decide_eq_true (by simp only [List.length_cons, List.length_nil]; omega)
    have c8 : decide (st'.reverse.length = st'.reverse.length) = true := decide_eq_true rfl;have c9 : ∀ f : Fm, ixOK ((t.length : Nat) : Int) (t.length + [f].length) = true := fun f => X0e.2 (by simp only [List.length_cons, List.length_nil]; omega)
    have c10 : decide (t.length <= t.length) = true := decide_eq_true (Nat.le_refl _);have c11 : ∀ f : Fm, decide (t.length < t.length + [f].length) = true := fun f => decide_eq_true (by simp)
    refine ⟨(((), (), ()), ((s, (j' : Int), ()), (st'.reverse ++ [t ++ [lstF top]]), ())), ?_, ⟨j', t ++ [lstF top], st', n, rfl, hj', by omega, ?_, hz.pop hjj _⟩, ?_⟩
    ·have e41 : (((41 : UInt8).toNat : Nat) : Int) = 41 := rfl;simp only [e41, w1, w2, Int.toNat_natCast, g1, g2, g3, g4, c1, c2, c3, c4', c5, c6, c7, c8, c9, c10, c11, cond_true, cond_false, Bool.true_and, Y45, Bool.not_true, show decide ((41 : Int) = 40) = false from rfl, show decide ((41 : Int) = 41) = true from rfl, show decide ((0 : Int) = 0) = true from rfl, show decide ((41 : Int) = 0) = false from rfl];refine Z2D (ymg rfl rfl) ?_;simp [lstF]
    ·rw [hdr]; simpa using hT
    simp only [Int.toNat_natCast]; omega
  rw [if_neg c4] at hq;simp only [not_or] at c4;simp only [if_neg c4.1, if_neg c4.2] at hT
  have key : (∃ e : Int, e ≠ 0 /\ (∃ (t : Int × Fm) (a : Bool) (jj : Int), v = ((t, a, e, ()), ((s, jj, ()), ()))) /\ T0 = .inl e) \/
    (∃ (f : Fm) (q : List UInt8) (j' : Nat), v = (((0, f), true, 0, ()), ((s, (j' : Int), ()), ())) /\ j < j' /\ j' <= s.length /\ s.drop j' = q /\ T0 = if X0S visS q = true then .inl 4 else X0G visS (tokS numS) n q (top ++ [f]) st) := by
   by_cases c34 : c = 34
   ·rw [if_pos c34] at hq;simp only [if_pos c34] at hT;cases ht : X0T r [] with
    | inl e =>
     rw [ht] at hq hT;exact .inl ⟨e, hq.1, hq.2, hT.symm⟩
    | inr p =>
     obtain ⟨b, q⟩ := p;rw [ht] at hq hT;obtain ⟨j', h1, h2, h3, h4⟩ := hq;exact .inr ⟨txtF b, q, j', h1, h2, h3, h4, hT.symm⟩
   rw [if_neg c34] at hq;simp only [if_neg c34] at hT
   by_cases cv : visS c = true
   ·rw [if_pos cv] at hq;simp only [if_pos cv] at hT;cases ht : tokS numS ((c :: r).takeWhile visS) with
    | inl e =>
     rw [ht] at hq hT;exact .inl ⟨e, hq.1, hq.2, hT.symm⟩
    | inr f =>
     rw [ht] at hq hT;obtain ⟨j', h1, h2, h3, h4⟩ := hq;exact .inr ⟨f, _, j', h1, h2, h3, h4, hT.symm⟩
   rw [if_neg cv] at hq;simp only [if_neg cv] at hT;exact .inl ⟨4, by decide, hq, hT.symm⟩
  rcases key with ⟨e, he, ⟨tt, a, jj, rfl⟩, hR⟩ | ⟨f, q, j', rfl, hjj, hj', hdr, hR⟩
  ·right;rw [hR];have ce : decide (e = 0) = false := decide_eq_false he;simp only [ce, Bool.not_false, cond_true, Option.bind_some];rfl
  have w1 : IntKind.wrap .i64 (((st.reverse ++ [top]).length : Int) - 1) = (st.reverse.length : Int) := by
   rw [X0Z]; exact X6J hstl
  have g1 : (st.reverse ++ [top]).getD st.reverse.length ([] : List Fm) = top := X9b;have g4 : ∀ y : List Fm, (st.reverse ++ [top]).set st.reverse.length y = st.reverse ++ [y] := fun y => Y5t
  have c5 : ixOK ((st.reverse.length : Nat) : Int) (st.reverse ++ [top]).length = true := X0e.2 (by rw [X0Z]; omega);have c6 : decide (st.reverse.length < (st.reverse ++ [top]).length) = true := decide_eq_true (by rw [X0Z]; omega);have c7 : ∀ f : Fm, decide ((top.length + [f].length) * 56 <= 140737488355328) = true := fun f => decide_eq_true (by simp only [List.length_cons, List.length_nil]; omega)
  have c8 : decide (st.reverse.length = st.reverse.length) = true := decide_eq_true rfl;have c9 : ∀ f : Fm, ixOK ((top.length : Nat) : Int) (top.length + [f].length) = true := fun f => X0e.2 (by simp only [List.length_cons, List.length_nil]; omega)
  have c10 : decide (top.length <= top.length) = true := decide_eq_true (Nat.le_refl _);have c11 : ∀ f : Fm, decide (top.length < top.length + [f].length) = true := fun f => decide_eq_true (by simp)
  have fin : ∀ X : Option (Step ((Unit × Unit × Unit) × ((List UInt8 × Int × Unit) × (List (List Fm)) × Unit)) ((List Fm) × Int × Unit)), X = cond (X0S visS q) (some (.done ([], 4, ()))) (some (.next (((), (), ()), ((s, (j' : Int), ()), (st.reverse ++ [top ++ [f]]), ())))) ->
    (∃ l', X = some (.next l') /\ (∃ (j : Nat) (top : List Fm) (st : List (List Fm)) (n : Nat), l' = (((), (), ()), ((s, (j : Int), ()), st.reverse ++ [top], ())) /\ j <= s.length /\ s.length - j < n /\ X0G visS (tokS numS) n (s.drop j) top st = T0 /\ Szs j top st) /\ s.length - l'.2.1.2.1.toNat < s.length - (j : Int).toNat) \/ X = some (.done (resP T0)) := fun X hX => by
   cases htc : X0S visS q with
   | true =>
    rw [htc] at hX hR;right;rw [hX, hR]; rfl
   | false =>
    rw [htc] at hX hR;left;refine ⟨_, hX, ⟨j', top ++ [f], st, n, rfl, hj', by omega, ?_, hz.app hjj f⟩, by simp only [Int.toNat_natCast]; omega⟩;rw [hdr, hR, if_neg (by decide)]
  refine fin _ ?_;simp only [w1, Int.toNat_natCast, g1, g4, c5, c6, c7, c8, c9, c10, c11, cond_true, cond_false, Bool.true_and, Bool.and_true, Y45, Bool.not_true, Bool.not_false, show decide ((0 : Int) = 40) = false from rfl, show decide ((0 : Int) = 41) = false from rfl, show decide ((0 : Int) = 0) = true from rfl];refine Z2D (ymg rfl rfl) ?_;simp only [Fm.eta_eq, show decide ((0 : Int) = 0) = true from rfl, cond_true];exact Y7Y hj' hdr _ _
abbrev RdS : Type := (List UInt8) × Int × Unit × Bool × Int × Unit
theorem X2L {f : Fm} {s : List UInt8} {a e : Int} {b : Bool} {P : List (List Fm)} {top : List Fm} (hP : P.length <= 1000000000) (ht : top.length <= 1000000000) :
  X7T f (s, a, (), b, e, ()) (P ++ [top]) = some ((), ((s, a, (), b, e, ()), P ++ [top ++ [f]], ())) := by
 unfold X7T;have w1 : IntKind.wrap .i64 (((P ++ [top]).length : Int) - 1) = (P.length : Int) := by
  rw [X0Z]; exact X6J (by omega)
 have g1 : (P ++ [top]).getD P.length ([] : List Fm) = top := X9b;have g4 : ∀ y : List Fm, (P ++ [top]).set P.length y = P ++ [y] := fun y => Y5t
 have c5 : ixOK ((P.length : Nat) : Int) (P ++ [top]).length = true := X0e.2 (by rw [X0Z]; omega);have c6 : decide (P.length < (P ++ [top]).length) = true := decide_eq_true (by rw [X0Z]; omega);have c7 : ∀ f : Fm, decide ((top.length + [f].length) * 56 <= 140737488355328) = true := fun f => decide_eq_true (by simp only [List.length_cons, List.length_nil]; omega)
 have c8 : decide (P.length = P.length) = true := decide_eq_true rfl;have c9 : ∀ f : Fm, ixOK ((top.length : Nat) : Int) (top.length + [f].length) = true := fun f => X0e.2 (by simp only [List.length_cons, List.length_nil]; omega)
 have c10 : decide (top.length <= top.length) = true := decide_eq_true (Nat.le_refl _);have c11 : ∀ f : Fm, decide (top.length < top.length + [f].length) = true := fun f => decide_eq_true (by simp)
 simp only [w1, Int.toNat_natCast, g1, g4, c5, c6, c7, c8, c9, c10, c11, cond_true, cond_false, Bool.true_and, Bool.and_true, Y45, Fm.eta_eq];exact ymg rfl rfl
theorem Y6F (b : List UInt8) : strOf (X0f b) = b := by
 unfold strOf X0f;rw [List.map_map];refine List.map_id'' (fun c => ?_) b;simp
def RQ (s : List UInt8) (i0 : Nat) (near : Bool) (P : List (List Fm)) (top : List Fm) (v : Unit × (RdS × (List (List Fm)) × Unit)) : Int ⊕ (List UInt8 × List UInt8) -> Prop
 | .inl e => e ≠ 0 /\ ∃ (a : Int) (nr : Bool) (L : List (List Fm)), v = ((), ((s, a, (), nr, e, ()), L, ()))
 | .inr (b, q) => ∃ j : Nat, v = ((), ((s, (j : Int), (), near, 0, ()), P ++ [top ++ [txtF b]], ())) /\ i0 < j /\ j <= s.length /\ s.drop j = q
theorem Y5l {s : List UInt8} {i0 : Nat} {near : Bool} {P : List (List Fm)} {top : List Fm} (hs : s.length <= 1000000000) (h0 : i0 < s.length) (hP : P.length <= 1000000000) (ht : top.length <= 1000000000) :
  ∃ v, X5C (s, (i0 : Int), (), near, 0, ()) (P ++ [top]) = some v /\ RQ s i0 near P top v (X0T (s.drop (i0 + 1)) []) := by
 unfold X5C;simp only [X5y (show i0 < 4611686018427387904 by omega)];refine X6M (fun d => ∃ (i : Nat) (b : List UInt8), d = (((), (), ()), ((s, (i : Int), (), near, 0, ()), P ++ [top], X0f b, ())) /\ i0 < i /\ i <= s.length /\ b.length <= i /\ X0T (s.drop i) b = X0T (s.drop (i0 + 1)) []) (fun d => s.length - d.2.1.2.1.toNat) _ ?_ ⟨i0 + 1, [], rfl, by omega, by omega, by simp, rfl⟩;rintro d ⟨i, b, rfl, hi0, hi, hbl, hk⟩;simp only [Int.toNat_natCast];rw [<- hk]
 by_cases hi' : i < s.length
 ·have e1 : decide ((i : Int) < (s.length : Int)) = true := by apply decide_eq_true; omega
  have x1 : ixOK (i : Int) s.length = true := X0e.2 (by omega);have hd := X2k hi';have q34 : decide (((s[i].toNat : Nat) : Int) = 34) = decide (s[i] = 34) := X0u _ 34 (by decide);have q92 : decide (((s[i].toNat : Nat) : Int) = 92) = decide (s[i] = 92) := X0u _ 92 (by decide);have wi := X5y (show i < 4611686018427387904 by omega);have app : ∀ (c : UInt8), decide (((X0f b).length + ([((c.toNat : Nat) : Int)] : List Int).length) * 1 <= 140737488355328) = true := fun c => by
   apply decide_eq_true; rw [X0J]; simp only [List.length_cons, List.length_nil]; omega
  simp only [e1, x1, X2d hi', q34, q92, cond_true, Bool.true_or, wi];rw [hd, Y3Y]
  by_cases c34 : s[i] = 34
  ·have d34 : decide (s[i] = 34) = true := decide_eq_true c34;have ne : decide ((i : Int) = (s.length : Int)) = false := decide_eq_false (by omega);simp only [d34, Bool.not_true, cond_false, if_pos c34]
   by_cases hb : b.length > 2000
   ·have db : decide (((X0f b).length : Int) > 2000) = true := by rw [X0J]; exact decide_eq_true (by omega)
    rw [if_pos hb];refine .inr ⟨_, rfl, ?_⟩;simp only [ne, db, cond_false, cond_true, Option.bind_some, Y6F, wi];rw [X2L hP ht];exact ⟨_, rfl, by decide, _, _, _, rfl⟩
   have db : decide (((X0f b).length : Int) > 2000) = false := by rw [X0J]; exact decide_eq_false (by omega)
   rw [if_neg hb];refine .inr ⟨_, rfl, ?_⟩;simp only [ne, db, cond_false, cond_true, Option.bind_some, Y6F, wi];rw [X2L hP ht];exact ⟨_, rfl, i + 1, rfl, by omega, by omega, rfl⟩
  have d34 : decide (s[i] = 34) = false := decide_eq_false c34;rw [if_neg c34];simp only [d34, Bool.not_false, cond_true]
  by_cases c92 : s[i] = 92
  ·have d92 : decide (s[i] = 92) = true := decide_eq_true c92;simp only [d92, cond_true, if_pos c92]
   by_cases hl : i + 1 = s.length
   ·have dl : decide (((i + 1 : Nat) : Int) = (s.length : Int)) = true := decide_eq_true (by omega);have he : s.drop (i + 1) = [] := List.drop_of_length_le (by omega);rw [dl, cond_true, he];refine .inr ⟨_, rfl, ?_⟩;simp only [dl, cond_true];exact ⟨_, rfl, by decide, _, _, _, rfl⟩
   have hj : i + 1 < s.length := by omega
   have dl : decide (((i + 1 : Nat) : Int) = (s.length : Int)) = false := decide_eq_false (by omega);have x2 : ixOK ((i + 1 : Nat) : Int) s.length = true := X0e.2 (by omega);have r34 : decide (((s[i + 1].toNat : Nat) : Int) = 34) = decide (s[i + 1] = 34) := X0u _ 34 (by decide);have r92 : decide (((s[i + 1].toNat : Nat) : Int) = 92) = decide (s[i + 1] = 92) := X0u _ 92 (by decide);have r110 : decide (((s[i + 1].toNat : Nat) : Int) = 110) = decide (s[i + 1] = 110) := X0u _ 110 (by decide);have wi2 := X5y (show i + 1 < 4611686018427387904 by omega);rw [dl, cond_false, x2, cond_true, X2d hj, r34, r92, r110, X2k hj]
   by_cases c110 : s[i + 1] = 110
   ·have d110 : decide (s[i + 1] = 110) = true := decide_eq_true c110;have a10 : decide (((X0f b).length + ([(10 : Int)] : List Int).length) * 1 <= 140737488355328) = true := app 10;simp only [d110, cond_true, if_pos c110, Option.bind_some, a10, wi2];refine .inl ⟨_, rfl, ⟨i + 1 + 1, b ++ [10], by rw [<- X3y]; rfl, by omega, by omega, by simp; omega, ?_⟩, by simp only [Int.toNat_natCast]; omega⟩;rfl
   have d110 : decide (s[i + 1] = 110) = false := decide_eq_false c110;simp only [d110, cond_false, if_neg c110]
   by_cases c3 : s[i + 1] = 34 \/ s[i + 1] = 92
   ·rw [if_pos c3]
    by_cases e34 : s[i + 1] = 34
    ·have dd : decide (s[i + 1] = 34) = true := decide_eq_true e34;simp only [dd, cond_true, Option.bind_some, app, wi2];refine .inl ⟨_, rfl, ⟨i + 1 + 1, b ++ [s[i + 1]], by rw [<- X3y], by omega, by omega, by simp; omega, ?_⟩, by simp only [Int.toNat_natCast]; omega⟩;rfl
    have dd : decide (s[i + 1] = 34) = false := decide_eq_false e34;have dd2 : decide (s[i + 1] = 92) = true := decide_eq_true (c3.resolve_left e34);simp only [dd, dd2, cond_false, cond_true, Option.bind_some, app, wi2];refine .inl ⟨_, rfl, ⟨i + 1 + 1, b ++ [s[i + 1]], by rw [<- X3y], by omega, by omega, by simp; omega, ?_⟩, by simp only [Int.toNat_natCast]; omega⟩;rfl
   simp only [not_or] at c3;have dd : decide (s[i + 1] = 34) = false := decide_eq_false c3.1;have dd2 : decide (s[i + 1] = 92) = false := decide_eq_false c3.2;rw [if_neg (by simp [c3.1, c3.2])];simp only [dd, dd2, cond_false, Option.bind_some];exact .inr ⟨_, rfl, _, rfl, by decide, _, _, _, rfl⟩
  have d92 : decide (s[i] = 92) = false := decide_eq_false c92;simp only [d92, cond_false, if_neg c92];have hlt : (s[i] < 32) = (s[i].toNat < 32) := rfl;have hgt : (s[i] > 126) = (126 < s[i].toNat) := rfl
  by_cases cr : s[i] < 32 \/ s[i] > 126
  ·have dd : cond (decide (((s[i].toNat : Nat) : Int) < 32)) true (decide (((s[i].toNat : Nat) : Int) > 126)) = true := by
    rw [hlt, hgt] at cr
    by_cases h : ((s[i].toNat : Nat) : Int) < 32
    ·rw [decide_eq_true h]; rfl
    rw [decide_eq_false h]; exact decide_eq_true (by omega)
   simp only [dd, cond_true, if_pos cr];exact .inr ⟨_, rfl, _, rfl, by decide, _, _, _, rfl⟩
  have dd : cond (decide (((s[i].toNat : Nat) : Int) < 32)) true (decide (((s[i].toNat : Nat) : Int) > 126)) = false := by
   rw [hlt, hgt] at cr;rw [decide_eq_false (show ¬ ((s[i].toNat : Nat) : Int) < 32 by omega)]; exact decide_eq_false (by omega)
  simp only [dd, cond_false, if_neg cr, Option.bind_some, app, cond_true, wi];refine .inl ⟨_, rfl, ⟨i + 1, b ++ [s[i]], by rw [<- X3y], by omega, by omega, by simp; omega, ?_⟩, by simp only [Int.toNat_natCast]; omega⟩;rfl
 have e1 : decide ((i : Int) < (s.length : Int)) = false := by apply decide_eq_false; omega
 have el : decide ((i : Int) = (s.length : Int)) = true := decide_eq_true (by omega);have hd : s.drop i = [] := List.drop_of_length_le (by omega);rw [hd, Y6H];refine .inr ⟨_, by simp only [e1, Bool.not_false, Bool.or_true, cond_true, cond_false]; rfl, ?_⟩;simp only [el, cond_true];exact ⟨_, rfl, by decide, _, _, _, rfl⟩
theorem Z6p {L R A : Type} {b : L -> Option (Step L R)} {l0 : L} {F : R -> Option A} {Q : A -> Prop} (r : R) (I : L -> Prop) (μ : L -> Nat) (h0 : I l0)
  (h : ∀ l, I l -> (∃ l', b l = some (.next l') /\ I l' /\ μ l' < μ l) \/ b l = some (.done r)) (k : ∃ v, F r = some v /\ Q v) : ∃ v, Option.bind (X0v b l0) F = some v /\ Q v := by
 rw [ywpv I μ h0 h]; exact k
theorem X68 (c : UInt8) : X4A ((c.toNat : Nat) : Int) = some (visS c) := X9n c
theorem Y5d {t : List UInt8} (ht : t.length <= 4611686018427387000) : X7O t = some (X0q t) := X97 ht
theorem Z12 (w : List UInt8) : (numS w).2 = 0 \/ (numS w).2 = 4 \/ (numS w).2 = 5 := by
 unfold numS
 repeat' split
 all_goals simp
theorem Z4E {p : UInt8 -> Bool} (l : List UInt8) : l.take (l.takeWhile p).length = l.takeWhile p := (List.prefix_iff_eq_take.1 (List.takeWhile_prefix p)).symm
theorem Y9B {p : UInt8 -> Bool} (l : List UInt8) : l.drop (l.takeWhile p).length = l.dropWhile p := by
 have h := List.takeWhile_append_dropWhile (p := p) (l := l);generalize l.takeWhile p = a at h ⊢;generalize l.dropWhile p = b at h ⊢;rw [<- h, List.drop_left]
def RT (s : List UInt8) (i0 : Nat) (near : Bool) (P : List (List Fm)) (top : List Fm) (q : List UInt8) (v : Unit × (RdS × (List (List Fm)) × Unit)) : Int ⊕ Fm -> Prop
 | .inl e => e ≠ 0 /\ ∃ (a : Int) (nr : Bool) (L : List (List Fm)), v = ((), ((s, a, (), nr, e, ()), L, ()))
 | .inr f => ∃ j : Nat, v = ((), ((s, (j : Int), (), near, 0, ()), P ++ [top ++ [f]], ())) /\ i0 < j /\ j <= s.length /\ s.drop j = q
theorem Y7K {s : List UInt8} {i0 : Nat} {near : Bool} {P : List (List Fm)} {top : List Fm} (hs : s.length <= 1000000000) (h0 : i0 < s.length) (hv : visS s[i0] = true) (hP : P.length <= 1000000000) (ht : top.length <= 1000000000) :
  ∃ v, X7q (s, (i0 : Int), (), near, 0, ()) (P ++ [top]) = some v /\ RT s i0 near P top ((s.drop i0).dropWhile visS) v (tokS numS ((s.drop i0).takeWhile visS)) := by
 unfold X7q;generalize hk : i0 + ((s.drop i0).takeWhile visS).length = k;have hkl : k <= s.length := by
  have := (List.takeWhile_prefix visS (l := s.drop i0)).length_le;rw [List.length_drop] at this; omega
 have hpos : 0 < ((s.drop i0).takeWhile visS).length := by rw [X2k h0, List.takeWhile_cons_of_pos hv]; simp
 refine Z6p (((), (i0 : Int), ()), ((s, (k : Int), (), near, (0 : Int), ()), P ++ [top], ())) (fun d => ∃ i : Nat, d = (((), (i0 : Int), ()), ((s, (i : Int), (), near, (0 : Int), ()), P ++ [top], ())) /\ i <= s.length /\ i + ((s.drop i).takeWhile visS).length = k) (fun d => s.length - d.2.1.2.1.toNat) ⟨i0, rfl, by omega, hk⟩ ?_ ?_
 ·rintro d ⟨i, rfl, hi, hki⟩;simp only [Int.toNat_natCast]
  by_cases hi' : i < s.length
  ·have e1 : decide ((i : Int) < (s.length : Int)) = true := by apply decide_eq_true; omega
   have x1 : ixOK (i : Int) s.length = true := X0e.2 (by omega);simp only [e1, x1, X2d hi', X68, cond_true, Bool.true_or, Option.bind_some, X5y (show i < 4611686018427387904 by omega)];rw [X2k hi'] at hki;cases hvi : visS s[i] with
   | true =>
    rw [List.takeWhile_cons_of_pos hvi, List.length_cons] at hki;exact .inl ⟨_, rfl, ⟨i + 1, rfl, by omega, by omega⟩, by simp only [Int.toNat_natCast]; omega⟩
   | false =>
    rw [List.takeWhile_cons_of_neg (by rw [hvi]; decide), List.length_nil, Nat.add_zero] at hki;subst hki;exact .inr rfl
  have e1 : decide ((i : Int) < (s.length : Int)) = false := by apply decide_eq_false; omega
  have hd : s.drop i = [] := List.drop_of_length_le (by omega);rw [hd, List.takeWhile_nil, List.length_nil, Nat.add_zero] at hki;subst hki;right;simp only [e1, Bool.not_false, Bool.or_true, cond_true, cond_false, Option.bind_some]
 have hki0 : k - i0 = ((s.drop i0).takeWhile visS).length := by omega
 have hw : (s.drop i0).take (k - i0) = (s.drop i0).takeWhile visS := by rw [hki0]; exact Z4E _
 have hq : s.drop k = (s.drop i0).dropWhile visS := by
  rw [<- Y9B, List.drop_drop, hk]
 have sl : slOK (i0 : Int) (k : Int) s.length = true := X1t.2 (by omega);have hwl : ((s.drop i0).takeWhile visS).length <= 1000000000 := by omega
 simp only [Option.bind_some, sl, cond_true, Int.toNat_natCast, hw, Y5d (show ((s.drop i0).takeWhile visS).length <= 4611686018427387000 by omega)];generalize (s.drop i0).takeWhile visS = w at *
 unfold tokS;cases hn : X0q w with
 | true =>
  simp only [Bool.not_true, cond_false, if_true, Z2f hwl hn, Option.bind_some];rcases Z12 w with h | h | h
  ·simp only [resN, h, show ¬ ((0 : Int) = 4) by decide, show ¬ ((0 : Int) = 5) by decide, if_false, if_true, Bool.not_true, cond_false, Option.bind_some, Y19, Fm.eta_eq];rw [X2L hP ht];exact ⟨_, rfl, k, rfl, by omega, hkl, hq⟩
  ·simp only [resN, h, show ¬ ((4 : Int) = 0) by decide, if_false, if_true, Bool.not_false, cond_true, Option.bind_some, Y19, Fm.eta_eq];rw [X2L hP ht];exact ⟨_, rfl, by decide, _, _, _, rfl⟩
  simp only [resN, h, show ¬ ((5 : Int) = 0) by decide, show ¬ ((5 : Int) = 4) by decide, if_false, if_true, Bool.not_true, Bool.not_false, cond_true, cond_false, Option.bind_some, Y19, Fm.eta_eq];rw [X2L hP ht];exact ⟨_, rfl, by decide, _, _, _, rfl⟩
 | false =>
  simp only [Bool.not_false, cond_true, if_neg (show ¬ (false = true) by decide), Y37, Option.bind_some, Fm.eta_eq]
  by_cases hl30 : w.length > 30
  ·have d30 : decide ((w.length : Int) > 30) = true := decide_eq_true (by omega);simp only [d30, cond_true, if_pos hl30, Option.bind_some];rw [X2L hP ht];exact ⟨_, rfl, by decide, _, _, _, rfl⟩
  have d30 : decide ((w.length : Int) > 30) = false := decide_eq_false (by omega);simp only [d30, cond_false, if_neg hl30, Option.bind_some];rw [X2L hP ht];exact ⟨_, rfl, k, rfl, by omega, hkl, hq⟩
def SQ (s : List UInt8) (n j : Nat) (near : Bool) (top : List Fm) (st : List (List Fm)) (v : Unit × (RdS × (List (List Fm)) × Unit)) : Prop :=
 (∃ e : Int, e ≠ 0 /\ refS visS (tokS numS) (n + 1) (s.drop j) near top st = .inl e /\ ∃ (a : Int) (nr : Bool) (L : List (List Fm)), v = ((), ((s, a, (), nr, e, ()), L, ()))) \/
 (∃ (j' : Nat) (near' : Bool) (top' : List Fm) (st' : List (List Fm)), v = ((), ((s, (j' : Int), (), near', 0, ()), st'.reverse ++ [top'], ())) /\ j < j' /\ j' <= s.length /\ refS visS (tokS numS) (n + 1) (s.drop j) near top st = refS visS (tokS numS) n (s.drop j') near' top' st' /\ Szs j' top' st')
theorem Z0m {s : List UInt8} {n j : Nat} {near : Bool} {top : List Fm} {st : List (List Fm)} (hs : s.length <= 1000000000) (hj : j < s.length) (hz : Szs j top st) :
  ∃ v, X7U (s, (j : Int), (), near, 0, ()) (st.reverse ++ [top]) = some v /\ SQ s n j near top st v := by
 have hPl : st.reverse.length = st.length := List.length_reverse;have hst := hz.hst;have htop := hz.htop;have x1 : ixOK (j : Int) s.length = true := X0e.2 (by omega);have wi := X5y (show j < 4611686018427387904 by omega);have q59 : decide (((s[j].toNat : Nat) : Int) = 59) = decide (s[j] = 59) := X0u _ 59 (by decide);have q40 : decide (((s[j].toNat : Nat) : Int) = 40) = decide (s[j] = 40) := X0u _ 40 (by decide);have q41 : decide (((s[j].toNat : Nat) : Int) = 41) = decide (s[j] = 41) := X0u _ 41 (by decide);have q34 : decide (((s[j].toNat : Nat) : Int) = 34) = decide (s[j] = 34) := X0u _ 34 (by decide);have hd := X2k hj;unfold X7U SQ;rw [hd];simp only [x1, cond_true, X2d hj, X23, q59, q40, q41, q34, wi, X52]
 by_cases hb : X0m s[j] = true
 ·simp only [hb, cond_true, if_true];exact ⟨_, rfl, .inr ⟨j + 1, false, top, st, rfl, by omega, by omega, rfl, hz.le (by omega)⟩⟩
 have hbf : X0m s[j] = false := by simpa using hb
 simp only [hbf, cond_false, if_neg (show ¬ (false = true) by decide)]
 by_cases c59 : s[j] = 59
 ·simp only [decide_eq_true c59, cond_true, if_pos c59];generalize hk : j + ((s.drop j).takeWhile (fun x => !decide (x = 10))).length = k;have hkl : k <= s.length := by
   have := (List.takeWhile_prefix (fun x => !decide (x = 10)) (l := s.drop j)).length_le;rw [List.length_drop] at this; omega
  have hpos : 0 < ((s.drop j).takeWhile (fun x : UInt8 => !decide (x = 10))).length := by rw [hd, List.takeWhile_cons_of_pos (by rw [c59]; decide)]; simp
  rw [ywpv (v := ((), ((s, (k : Int), (), false, (0 : Int), ()), st.reverse ++ [top], ()))) (fun d => ∃ i : Nat, d = (((), ()), ((s, (i : Int), (), false, (0 : Int), ()), st.reverse ++ [top], ())) /\ i <= s.length /\ i + ((s.drop i).takeWhile (fun x => !decide (x = 10))).length = k) (fun d => s.length - d.2.1.2.1.toNat) ⟨j, rfl, by omega, hk⟩ ?_]
  ·refine ⟨_, rfl, .inr ⟨k, false, top, st, rfl, by omega, hkl, ?_, hz.le (by omega)⟩⟩;rw [<- hd, <- Y9B, List.drop_drop, hk]
  rintro d ⟨i, rfl, hi, hki⟩;simp only [Int.toNat_natCast]
  by_cases hi' : i < s.length
  ·have e1 : decide ((i : Int) < (s.length : Int)) = true := by apply decide_eq_true; omega
   have x1 : ixOK (i : Int) s.length = true := X0e.2 (by omega);have q10 : decide (((s[i].toNat : Nat) : Int) = 10) = decide (s[i] = 10) := X0u _ 10 (by decide);simp only [e1, x1, X2d hi', q10, cond_true, Bool.true_or, X5y (show i < 4611686018427387904 by omega)];rw [X2k hi'] at hki
   by_cases c10 : s[i] = 10
   ·rw [List.takeWhile_cons_of_neg (by simp [c10]), List.length_nil, Nat.add_zero] at hki;subst hki;simp only [decide_eq_true c10, Bool.not_true, cond_false];exact .inr trivial
   rw [List.takeWhile_cons_of_pos (by simp [c10]), List.length_cons] at hki;simp only [decide_eq_false c10, Bool.not_false, cond_true];exact .inl ⟨_, rfl, ⟨i + 1, rfl, by omega, by omega⟩, by simp only [Int.toNat_natCast]; omega⟩
  have e1 : decide ((i : Int) < (s.length : Int)) = false := by apply decide_eq_false; omega
  have hd2 : s.drop i = [] := List.drop_of_length_le (by omega);rw [hd2, List.takeWhile_nil, List.length_nil, Nat.add_zero] at hki;subst hki;right;simp only [e1, Bool.not_false, Bool.or_true, cond_true, cond_false]
 simp only [decide_eq_false c59, cond_false, if_neg c59]
 by_cases c40 : s[j] = 40
 ·have cl : decide (((st.reverse ++ [top]).length + 1) * 24 <= 140737488355328) = true := by
   apply decide_eq_true; rw [X0Z, hPl]; omega
  simp only [decide_eq_true c40, cond_true, if_pos c40, cl];exact ⟨_, rfl, .inr ⟨j + 1, false, [], top :: st, by simp, by omega, by omega, rfl, hz.push (by omega)⟩⟩
 simp only [decide_eq_false c40, cond_false, if_neg c40];have w1 : IntKind.wrap .i64 (((st.reverse ++ [top]).length : Int) - 1) = (st.reverse.length : Int) := by
  rw [X0Z]; exact X6J (by omega)
 by_cases c41 : s[j] = 41
 ·simp only [decide_eq_true c41, cond_true, if_pos c41, w1];cases st with
  | nil =>
   simp only [List.reverse_nil, List.length_nil];exact ⟨_, rfl, .inl ⟨4, by decide, rfl, _, _, _, rfl⟩⟩
  | cons t st' =>
   have hP : (t :: st').reverse = st'.reverse ++ [t] := by simp
   have hl1 : st'.reverse.length = st'.length := List.length_reverse;have hst2 : st'.length + 1 <= j := by simpa using hst
   have htl : t.length <= j := hz.hrows t (by simp);have n0 : decide ((((t :: st').reverse.length : Nat) : Int) = 0) = false := decide_eq_false (by rw [hPl]; simp only [List.length_cons]; omega);have c5 : ixOK (((t :: st').reverse.length : Nat) : Int) ((t :: st').reverse ++ [top]).length = true := X0e.2 (by rw [X0Z]; omega);have c6 : decide ((t :: st').reverse.length < ((t :: st').reverse ++ [top]).length) = true := decide_eq_true (by rw [X0Z]; omega);have c7 : hiOK (((t :: st').reverse.length : Nat) : Int) ((t :: st').reverse ++ [top]).length = true := Y6k.2 (by rw [X0Z]; omega);have g1 : ((t :: st').reverse ++ [top]).getD (t :: st').reverse.length ([] : List Fm) = top := X9b;have g3 : ((t :: st').reverse ++ [top]).take (t :: st').reverse.length = (t :: st').reverse := Y6E;simp only [n0, cond_false, c5, c6, c7, cond_true, Int.toNat_natCast, g1, g3, X7R, Option.bind_some, Fm.eta_eq];rw [hP, X2L (by rw [hl1]; omega) (by omega)];exact ⟨_, rfl, .inr ⟨j + 1, false, t ++ [lstF top], st', rfl, by omega, by omega, rfl, hz.pop (by omega) _⟩⟩
 simp only [decide_eq_false c41, cond_false, if_neg c41];cases near with
 | true =>
  simp only [cond_true, if_true];exact ⟨_, rfl, .inl ⟨4, by decide, rfl, _, _, _, rfl⟩⟩
 | false =>
  simp only [cond_false, if_neg (show ¬ (false = true) by decide)]
  by_cases c34 : s[j] = 34
  ·simp only [decide_eq_true c34, cond_true, if_pos c34];obtain ⟨v, h1, h2⟩ := Y5l (near := false) (P := st.reverse) (top := top) hs hj (by rw [hPl]; omega) (by omega);rw [h1];cases ht : X0T (s.drop (j + 1)) [] with
   | inl e =>
    rw [ht] at h2;obtain ⟨he, a, nr, L, rfl⟩ := h2;exact ⟨_, rfl, .inl ⟨e, he, rfl, _, _, _, rfl⟩⟩
   | inr p =>
    obtain ⟨b, q⟩ := p;rw [ht] at h2;obtain ⟨j', rfl, k1, k2, k3⟩ := h2;exact ⟨_, rfl, .inr ⟨j', true, top ++ [txtF b], st, rfl, k1, k2, by rw [k3], hz.app k1 _⟩⟩
  simp only [decide_eq_false c34, cond_false, if_neg c34, X68, Option.bind_some];cases hv : visS s[j] with
  | false =>
   simp only [cond_false, if_neg (show ¬ (false = true) by decide)];exact ⟨_, rfl, .inl ⟨4, by decide, rfl, _, _, _, rfl⟩⟩
  | true =>
   simp only [cond_true, if_true];obtain ⟨v, h1, h2⟩ := Y7K (near := false) (P := st.reverse) (top := top) hs hj hv (by rw [hPl]; omega) (by omega);rw [h1];rw [hd] at h2;cases ht : tokS numS ((s[j] :: s.drop (j + 1)).takeWhile visS) with
   | inl e =>
    rw [ht] at h2;obtain ⟨he, a, nr, L, rfl⟩ := h2;exact ⟨_, rfl, .inl ⟨e, he, rfl, _, _, _, rfl⟩⟩
   | inr f =>
    rw [ht] at h2;obtain ⟨j', rfl, k1, k2, k3⟩ := h2;exact ⟨_, rfl, .inr ⟨j', true, top ++ [f], st, rfl, k1, k2, by rw [k3], hz.app k1 _⟩⟩
theorem Z0j {A : Type} {s : List UInt8} (hs : s.length <= 60000) {F : (Unit × Unit) × (RdS × (List (List Fm)) × Unit) -> Option A} {v : A} {T : Int ⊕ List Fm} (hT : refS visS (tokS numS) (s.length + 1) s false [] [] = T)
  (herr : ∀ e : Int, e ≠ 0 -> T = .inl e -> ∀ (a : Int) (nr : Bool) (L : List (List Fm)), F (((), ()), ((s, a, (), nr, e, ()), L, ())) = some v)
  (hend : ∀ (n : Nat) (nr : Bool) (top : List Fm) (st : List (List Fm)), refS visS (tokS numS) (n + 1) [] nr top st = T -> Szs s.length top st -> F (((), ()), ((s, (s.length : Int), (), nr, 0, ()), st.reverse ++ [top], ())) = some v) :
  Option.bind (X0v (L := (List UInt8 × Unit × Unit) × ((List UInt8 × Int × Unit × Bool × Int × Unit) × (List (List Fm)) × Unit)) (R := (Unit × Unit) × ((List UInt8 × Int × Unit × Bool × Int × Unit) × (List (List Fm)) × Unit)) (fun d1 => (
 let l2 := d1.2.2.1
 let v0_3 := d1.1.1
 cond (cond (decide (d1.2.1.2.1 < (v0_3.length : Int))) (decide (d1.2.1.2.2.2.2.1 = 0)) false) (Option.bind (α := (Unit) × ((List UInt8 × Int × Unit × Bool × Int × Unit) × (List (List Fm)) × Unit)) (X7U (d1.2.1.1, d1.2.1.2.1, (), d1.2.1.2.2.2.1, d1.2.1.2.2.2.2.1, ()) l2) fun r4 => (
 some (Step.next ((v0_3, (), ()), ((r4.2.1.1, r4.2.1.2.1, (), r4.2.1.2.2.2.1, r4.2.1.2.2.2.2.1, ()), r4.2.2.1, ()))))) (some (Step.done (((), ()), ((d1.2.1.1, d1.2.1.2.1, (), d1.2.1.2.2.2.1, d1.2.1.2.2.2.2.1, ()), l2, ())))))) ((s, (), ()), ((s, 0, (), false, 0, ()), [([] : List Fm)], ()))) F = some v := by
 refine Exists.elim (X6M (F := F) (l0 := ((s, (), ()), ((s, 0, (), false, 0, ()), [([] : List Fm)], ()))) (fun d => (∃ (j n : Nat) (nr : Bool) (top : List Fm) (st : List (List Fm)), d = ((s, (), ()), ((s, (j : Int), (), nr, (0 : Int), ()), st.reverse ++ [top], ())) /\ j <= s.length /\ s.length - j < n /\ refS visS (tokS numS) n (s.drop j) nr top st = T /\ Szs j top st) \/
   (∃ (e a : Int) (nr : Bool) (L : List (List Fm)), d = ((s, (), ()), ((s, a, (), nr, e, ()), L, ())) /\ e ≠ 0 /\ T = .inl e)) (fun d => if d.2.1.2.2.2.2.1 = 0 then s.length + 1 - d.2.1.2.1.toNat else 0) (fun w => w = v) ?_
  (.inl ⟨0, s.length + 1, false, [], [], rfl, Nat.zero_le _, by omega, by simpa using hT, ⟨by simp, by simp, by simp⟩⟩)) (fun w h => by rw [h.1, h.2])
 rintro d (⟨j, n, nr, top, st, rfl, hj, hn, hR, hz⟩ | ⟨e, a, nr, L, rfl, he, hTe⟩)
 ·simp only [Int.toNat_natCast];cases n with
  | zero => omega
  | succ n =>
  by_cases hj' : j < s.length
  ·have e1 : decide ((j : Int) < (s.length : Int)) = true := by apply decide_eq_true; omega
   obtain ⟨w, h1, h2⟩ := Z0m (n := n) (near := nr) (show s.length <= 1000000000 by omega) hj' hz;simp only [e1, cond_true, show decide ((0 : Int) = 0) = true from rfl];rw [h1];left;rcases h2 with ⟨e, he, hr, a, nr', L, rfl⟩ | ⟨j', nr', top', st', rfl, k1, k2, k3, k4⟩
   ·refine ⟨_, rfl, .inr ⟨e, a, nr', L, rfl, he, by rw [<- hR, hr]⟩, ?_⟩;simp only [if_neg he, if_true];omega
   ·refine ⟨_, rfl, .inl ⟨j', n, nr', top', st', rfl, k2, by omega, by rw [<- k3, hR], k4⟩, ?_⟩;simp only [if_true, Int.toNat_natCast];omega
  ·have e1 : decide ((j : Int) < (s.length : Int)) = false := by apply decide_eq_false; omega
   have hjl : j = s.length := by omega
   subst hjl;right;rw [List.drop_length] at hR;refine ⟨_, by simp only [e1, cond_false]; rfl, _, ?_, rfl⟩;exact hend n nr top st hR hz
 ·right;have d0 : decide (e = 0) = false := decide_eq_false he;refine ⟨_, by simp only [d0]; cases decide (a < (s.length : Int)) <;> rfl, _, herr e he hTe a nr L, rfl⟩
theorem X4R : ∀ (b : Bool) (r : List UInt8), (X0z b r).length <= r.length
 | _, [] => by simp [X0z]
 | true, c :: r => by
  simp only [X0z, List.length_cons];split
  ·have := X4R false r; omega
  have := X4R true r; omega
 | false, c :: r => by
  simp only [X0z, List.length_cons];split
  ·have := X4R false r; omega
  split
  ·have := X4R true r; omega
  simp
def goodT (b : List UInt8) : Prop := ∀ c ∈ b, badB c = false
theorem goodT.app {b : List UInt8} {c : UInt8} (h : goodT b) (hc : badB c = false) : goodT (b ++ [c]) := fun x hx => by
 rcases List.mem_append.1 hx with hx | hx
 ·exact h x hx
 rw [List.mem_singleton.1 hx]; exact hc
theorem Z1N {d : UInt8} (h : d = 34 \/ d = 92) : badB d = false := by rcases h with rfl | rfl <;> decide
theorem Y7q {c : UInt8} (h : ¬ (c < 32 \/ c > 126)) : badB c = false := by
 revert h;have : ∀ n : Fin 256, ¬ ((UInt8.ofFin n) < 32 \/ (UInt8.ofFin n) > 126) -> badB (UInt8.ofFin n) = false := by decide +kernel
 exact this c.toFin
theorem X4T : ∀ (r b x q : List UInt8), X0T r b = .inr (x, q) -> goodT b -> goodT x /\ x.length <= 2000 /\ x.length + q.length + 1 <= b.length + r.length
 | [], b, x, q, h, _ => by simp [X0T] at h
 | [c], b, x, q, h, hb => by
  simp only [X0T] at h;split at h
  ·split at h
   ·cases h
   cases h; exact ⟨hb, by omega, by simp⟩
  split at h
  ·cases h
  split at h <;> cases h
 | c :: d :: r, b, x, q, h, hb => by
  simp only [X0T] at h;split at h
  ·split at h
   ·cases h
   cases h; exact ⟨hb, by omega, by simp only [List.length_cons]; omega⟩
  split at h
  ·split at h
   ·obtain ⟨h1, h2, h3⟩ := X4T r _ x q h (hb.app (by decide));refine ⟨h1, h2, ?_⟩;simp only [List.length_append, List.length_cons, List.length_nil] at h3 ⊢; omega
   split at h
   ·rename_i hd;obtain ⟨h1, h2, h3⟩ := X4T r _ x q h (hb.app (Z1N hd));refine ⟨h1, h2, ?_⟩;simp only [List.length_append, List.length_cons, List.length_nil] at h3 ⊢; omega
   cases h
  split at h
  ·cases h
  rename_i hc;obtain ⟨h1, h2, h3⟩ := X4T (d :: r) _ x q h (hb.app (Y7q hc));refine ⟨h1, h2, ?_⟩;simp only [List.length_append, List.length_cons, List.length_nil] at h3 ⊢; omega
theorem X7K : ∀ (r b : List UInt8), X0T r b ≠ .inl 0
 | [], b => by simp [X0T]
 | [c], b => by
  simp only [X0T];split
  ·split <;> simp
  split
  ·simp
  split <;> simp
 | c :: d :: r, b => by
  simp only [X0T];split
  ·split <;> simp
  split
  ·split
   ·exact X7K r _
   split
   ·exact X7K r _
   simp
  split
  ·simp
  exact X7K (d :: r) _
theorem Z2A {b : List UInt8} (h : goodT b) (hl : b.length <= 2000) : X0w (txtF b) = true := by
 have : badT b = false := by
  rw [Y6a, List.any_eq_false];intro c hc; rw [h c hc]; decide
 simp [txtF, X0w, X0s, X1J, this, hl]
theorem Y7y (w : List UInt8) (h : (numS w).2 = 0) : -1152921504606846976 <= (numS w).1 /\ (numS w).1 <= 1152921504606846976 := by
 unfold numS at h ⊢;split
 ·rename_i h1; rw [if_pos h1] at h; simp at h
 rename_i h1;rw [if_neg h1] at h;split
 ·rename_i h2; rw [if_pos h2] at h; simp at h
 simp only;split <;> omega
theorem Z2z {w : List UInt8} {f : Fm} (h : tokS numS w = .inr f) (hv : ∀ c ∈ w, visS c = true) (hne : w ≠ []) : X0w f = true /\ f.big <= 2 * w.length := by
 have hpos : 0 < w.length := List.length_pos_iff.2 hne;unfold tokS at h;split at h
 ·split at h
  ·rename_i h0;cases h;have := Y7y w h0;refine ⟨?_, by simp only [nuF, Fm.big, Fm.bigL, List.length_nil]; omega⟩;simp [nuF, X0w, X0s, X1J, this]
  cases h
 rename_i hn;split at h
 ·cases h
 rename_i hl;cases h;refine ⟨?_, by simp only [wrdF, Fm.big, Fm.bigL]; omega⟩;have ho : w.all (fun c => !X0P c) = true := List.all_eq_true.2 fun c hc => hv c hc
 have hn' : X0q w = false := by simpa using hn
 have hl' : w.length <= 30 := by omega
 simp only [wrdF, X0w, X0s, X1J, X9o, ho, hn', hl'];simp [hne]
theorem Z4F (w : List UInt8) : tokS numS w ≠ .inl 0 := by
 unfold tokS;split
 ·split
  ·simp
  rename_i h; simpa using h
 split <;> simp
theorem X3w : ∀ (a b : List Fm), X0s (a ++ b) = (X0s a && X0s b)
 | [], b => by simp [X0s]
 | f :: a, b => by simp [X0s, X3w a b, Bool.and_assoc]
theorem X7A : ∀ (a b : List Fm), Fm.bigL (a ++ b) = Fm.bigL a + Fm.bigL b
 | [], b => by simp [Fm.bigL]
 | f :: a, b => by simp [Fm.bigL, X7A a b]; omega
def Y7f : List (List Fm) -> Nat
 | [] => 0
 | t :: st => Fm.bigL t + Y7f st
theorem X2j {p : UInt8 -> Bool} : ∀ {l : List UInt8} {c : UInt8}, c ∈ l.takeWhile p -> p c = true := fun {l c} h => by
 have := List.all_takeWhile (p := p) (l := l);exact List.all_eq_true.1 this c h
theorem X3c : ∀ (n : Nat) (r : List UInt8) (top : List Fm) (st : List (List Fm)) (l : List Fm), X0G visS (tokS numS) n r top st = .inr l -> X0s top = true -> (∀ t ∈ st, X0s t = true) ->
  X0s l = true /\ Fm.bigL l <= Fm.bigL top + Y7f st + 2 * r.length
 | 0, r, top, st, l, h, _, _ => by simp [X0G] at h
 | n + 1, r, top, st, l, h, ht, hst => by
  have hsl := X4R false r;rw [X0N] at h;cases hsk : X0z false r with
  | nil =>
   rw [hsk] at h;cases st with
   | nil => cases h; exact ⟨ht, by simp [Y7f]⟩
   | cons t st' => cases h
  | cons c r' =>
   rw [hsk] at h hsl;simp only [List.length_cons] at hsl;simp only at h;split at h
   ·obtain ⟨h1, h2⟩ := X3c n r' [] (top :: st) l h rfl (fun t hx => by rcases List.mem_cons.1 hx with rfl | hx; exact ht; exact hst t hx);refine ⟨h1, ?_⟩;simp only [Fm.bigL, Y7f] at h2; omega
   split at h
   ·cases st with
    | nil => cases h
    | cons t st' =>
     simp only at h
     obtain ⟨h1, h2⟩ := X3c n r' (t ++ [lstF top]) st' l h (by
      rw [X3w, hst t (by simp)];simp [X0s, lstF, X0w, X1J, ht]) (fun x hx => hst x (by simp [hx]))
     refine ⟨h1, ?_⟩;simp only [X7A, Fm.bigL, lstF, Fm.big, List.length_nil, Y7f] at h2 ⊢; omega
   split at h
   ·cases hx : X0T r' [] with
    | inl e => rw [hx] at h; cases h
    | inr p =>
     obtain ⟨b, q⟩ := p;rw [hx] at h;simp only at h;obtain ⟨k1, k2, k3⟩ := X4T r' [] b q hx (fun c hc => by cases hc);simp only [List.length_nil] at k3;split at h
     ·cases h
     obtain ⟨h1, h2⟩ := X3c n q (top ++ [txtF b]) st l h (by rw [X3w, ht]; simp [X0s, Z2A k1 k2]) hst;refine ⟨h1, ?_⟩;simp only [X7A, Fm.bigL, txtF, Fm.big] at h2; omega
   split at h
   ·rename_i hv;cases hx : tokS numS ((c :: r').takeWhile visS) with
    | inl e => rw [hx] at h; cases h
    | inr f =>
     rw [hx] at h;simp only at h;have hne : (c :: r').takeWhile visS ≠ [] := by rw [List.takeWhile_cons_of_pos hv]; simp
     obtain ⟨k1, k2⟩ := Z2z hx (fun c hc => X2j hc) hne;have hlen : ((c :: r').takeWhile visS).length + ((c :: r').dropWhile visS).length = r'.length + 1 := by
      rw [<- List.length_append, List.takeWhile_append_dropWhile, List.length_cons]
     split at h
     ·cases h
     obtain ⟨h1, h2⟩ := X3c n _ (top ++ [f]) st l h (by rw [X3w, ht]; simp [X0s, k1]) hst;refine ⟨h1, ?_⟩;simp only [X7A, Fm.bigL] at h2; omega
   cases h
theorem X4N : ∀ (n : Nat) (r : List UInt8) (top : List Fm) (st : List (List Fm)), r.length < n -> X0G visS (tokS numS) n r top st ≠ .inl 0
 | 0, r, top, st, h => by omega
 | n + 1, r, top, st, h => by
  have hsl := X4R false r;rw [X0N];cases hsk : X0z false r with
  | nil => cases st <;> simp
  | cons c r' =>
   rw [hsk] at hsl;simp only [List.length_cons] at hsl;simp only;split
   ·exact X4N n r' _ _ (by omega)
   split
   ·cases st with
    | nil => simp
    | cons t st' => exact X4N n r' _ _ (by omega)
   split
   ·cases hx : X0T r' [] with
    | inl e => have := X7K r' []; rw [hx] at this; simpa using this
    | inr p =>
     obtain ⟨b, q⟩ := p;have := X3l r' [] b q hx;simp only;split
     ·simp
     exact X4N n q _ _ (by omega)
   split
   ·rename_i hv;cases hx : tokS numS ((c :: r').takeWhile visS) with
    | inl e => have := Z4F ((c :: r').takeWhile visS); rw [hx] at this; simpa using this
    | inr f =>
     simp only;have hl : ((c :: r').dropWhile visS).length <= r'.length := by rw [List.dropWhile_cons_of_pos hv]; exact X1O _ _
     split
     ·simp
     exact X4N n _ _ _ (by omega)
   simp
def X1s (s : List UInt8) : List Fm × Int × Unit :=
 if s.length > 60000 then ([], 2, ()) else match X0G visS (tokS numS) (s.length + 1) s [] [] with
  | .inl e => ([], e, ())
  | .inr l => if l.all X0H = true then (l, 0, ()) else ([], 2, ())
theorem Y9N {l : List Fm} {i : Nat} (h : i < l.length) : l.getD i (Fm.mk 0 0 [] []) = l[i] := by simp [List.getD_eq_getElem?_getD, h]
theorem Y57 {l : List Fm} {i : Nat} {p : Fm -> Bool} (h : i < l.length) : (l.drop i).all p = (p l[i] && (l.drop (i + 1)).all p) := by
 rw [List.drop_eq_getElem_cons h, List.all_cons]
theorem Y3g {l : List Fm} (hl : l.length <= 1000000000) (hb : ∀ f ∈ l, f.big <= 4611686018427387000) : ∃ k : Int, X4u l () = some k /\ (0 <= k ↔ l.all X0H = false) := by
 unfold X4u;refine X6M (fun d => ∃ i : Nat, d = ((l, (), (l.length : Int), (i : Int), ()), ()) /\ i <= l.length /\ (l.drop i).all X0H = l.all X0H) (fun d => l.length - d.1.2.2.2.1.toNat) _ ?_ ⟨0, rfl, Nat.zero_le _, rfl⟩;rintro d ⟨i, rfl, hi, hk⟩;simp only [Int.toNat_natCast]
 by_cases hi' : i < l.length
 ·have e1 : decide ((i : Int) < (l.length : Int)) = true := decide_eq_true (by omega);have x1 : ixOK (i : Int) l.length = true := X0e.2 (by omega);have hm : l[i] ∈ l := List.getElem_mem hi';simp only [e1, x1, cond_true, Y9N hi', Fm.eta_eq, X7Q, X6G (hb _ hm), Option.bind_some, X5y (show i < 4611686018427387904 by omega)];rw [Y57 hi'] at hk;cases hv : X0H l[i] with
  | true =>
   rw [hv, Bool.true_and] at hk;simp only [Bool.not_true, cond_false];exact .inl ⟨_, rfl, ⟨i + 1, rfl, by omega, hk⟩, by simp only [Int.toNat_natCast]; omega⟩
  | false =>
   rw [hv, Bool.false_and] at hk;simp only [Bool.not_false, cond_true];exact .inr ⟨_, rfl, _, rfl, by rw [<- hk]; simp⟩
 have e1 : decide ((i : Int) < (l.length : Int)) = false := decide_eq_false (by omega);have hd : l.drop i = [] := List.drop_of_length_le (by omega);rw [hd, List.all_nil] at hk;simp only [e1, cond_false];exact .inr ⟨_, rfl, _, rfl, by rw [<- hk]; simp⟩
theorem Y22 {l : List Fm} (hl : l.length <= 1000000000) (hb : ∀ f ∈ l, f.big <= 4611686018427387000) : X14 l () = some (!l.all X0H) := by
 obtain ⟨k, h1, h2⟩ := Y3g hl hb;unfold X14;rw [h1];simp only [Option.bind_some];cases ha : l.all X0H with
 | true =>
  have : ¬ (0 <= k) := fun h => by rw [h2.1 h] at ha; cases ha
  rw [decide_eq_false (by omega)]; rfl
 | false => rw [decide_eq_true (h2.2 ha)]; rfl
theorem X2v : ∀ {l : List Fm}, X0s l = true -> ∀ f ∈ l, X0w f = true
 | [], _, f, h => by cases h
 | g :: l, hl, f, h => by
  simp only [X0s, Bool.and_eq_true] at hl;rcases List.mem_cons.1 h with rfl | h
  ·exact hl.1
  exact X2v hl.2 f h
theorem Y9p : ∀ l : List Fm, l.length <= Fm.bigL l
 | [] => Nat.le_refl _
 | f :: l => by
  have := Y9p l;have := X2s f;simp only [List.length_cons, Fm.bigL]; omega
theorem X7F {s : List UInt8} {l : List Fm} (hs : s.length <= 60000) (h : X0G visS (tokS numS) (s.length + 1) s [] [] = .inr l) : (∀ f ∈ l, X0w f = true) /\ (∀ f ∈ l, f.big <= 120000) /\ l.length <= 120000 := by
 obtain ⟨h1, h2⟩ := X3c _ s [] [] l h rfl (fun t ht => by cases ht);simp only [Fm.bigL, Y7f] at h2;refine ⟨X2v h1, fun f hf => ?_, ?_⟩
 ·have := X2r hf; omega
 have := Y9p l; omega
theorem Y3A {s : List UInt8} : Y0Z s = some (X1s s) := by
 unfold Y0Z X1s
 by_cases h : s.length > 60000
 ·rw [if_pos h, decide_eq_true (show ((s.length : Int) > 60000) by omega)]; rfl
 rw [if_neg h, decide_eq_false (show ¬ ((s.length : Int) > 60000) by omega), cond_false, Z0a (by omega)];cases hp : X0G visS (tokS numS) (s.length + 1) s [] [] with
 | inl e =>
  have he : e ≠ 0 := fun h0 => X4N _ s [] [] (Nat.lt_succ_self _) (by rw [hp, h0])
  simp only [Option.bind_some, resP, decide_eq_false he, Bool.not_false, cond_true]
 | inr l =>
  obtain ⟨h1, h2, h3⟩ := X7F (by omega) hp;simp only [Option.bind_some, resP, show decide ((0 : Int) = 0) = true from rfl, Bool.not_true, cond_false, Y22 (show l.length <= 1000000000 by omega) (fun f hf => by have := h2 f hf; omega)];cases l.all X0H with
  | true => rfl
  | false => rfl
theorem X9m (c : UInt8) (h : visS c = true) : X0m c = false /\ c ≠ 59 /\ c ≠ 40 /\ c ≠ 41 /\ c ≠ 34 := by
 revert h;have : ∀ n : Fin 256, visS (UInt8.ofFin n) = true -> X0m (UInt8.ofFin n) = false /\ UInt8.ofFin n ≠ 59 /\ UInt8.ofFin n ≠ 40 /\ UInt8.ofFin n ≠ 41 /\ UInt8.ofFin n ≠ 34 := by decide +kernel
 exact this c.toFin
theorem Y7N {f : Fm} (hb : f.big <= 4611686018427387000) (hf : X0w f = true) : X4B f = some (X0H f) := by
 have h := X65 hb;unfold X2Z at h;simp only [Fm.eta_eq, Y0d hb, hf, Option.bind_some, cond_true] at h;cases hs : X4B f with
 | none => rw [hs] at h; cases h
 | some b => rw [hs] at h; simpa using h
theorem Y3y {s : List UInt8} : X7P s = some (X1s s) := by
 unfold X7P X1s
 by_cases h : s.length > 60000
 ·rw [if_pos h, decide_eq_true (show ((s.length : Int) > 60000) by omega)]; rfl
 rw [if_neg h, decide_eq_false (show ¬ ((s.length : Int) > 60000) by omega), cond_false];have hsame : refS visS (tokS numS) (s.length + 1) s false [] [] = X0G visS (tokS numS) (s.length + 1) s [] [] := by
  rw [X51 visS (tokS numS) X9m s.length s (Nat.le_refl _) (s.length + 1) (s.length + 1) false [] [] (Nat.lt_succ_self _) (Nat.lt_succ_self _)];simp
 generalize hT : X0G visS (tokS numS) (s.length + 1) s [] [] = T at hsame;refine Z0j (by omega) hsame (fun e he hTe a nr L => ?_) (fun n nr top st hr hz => ?_)
 ·subst hTe;simp only [decide_eq_false he, cond_false, Option.bind_some, Bool.not_false, cond_true]
 cases st with
 | cons t st' =>
  have hT2 : T = .inl 12 := by rw [<- hr]; rfl
  subst hT2;have hl : decide ((((t :: st').reverse ++ [top]).length : Int) > 1) = true := decide_eq_true (by simp; omega);simp only [show decide ((0 : Int) = 0) = true from rfl, hl, cond_true, Option.bind_some];rfl
 | nil =>
  have hT2 : T = .inr top := by rw [<- hr]; rfl
  subst hT2;obtain ⟨h1, h2, h3⟩ := X7F (by omega) hT;simp only [List.reverse_nil, List.nil_append, List.length_cons, List.length_nil, Nat.zero_add, decide_true, show decide (((1 : Nat) : Int) > 1) = false from rfl, cond_true, cond_false, Option.bind_some, Bool.not_true];refine Exists.elim (X6M (l0 := (((), 0, ()), ((s, (s.length : Int), (), nr, 0, ()), [top], ()))) (fun d => ∃ i : Nat, d = (((), (i : Int), ()), ((s, (s.length : Int), (), nr, (0 : Int), ()), [top], ())) /\ i <= top.length /\ (top.drop i).all X0H = top.all X0H) (fun d => top.length - d.1.2.1.toNat) (fun w => w = (if top.all X0H = true then (top, (0 : Int), ()) else ([], 2, ()))) ?_ ⟨0, rfl, Nat.zero_le _, rfl⟩) (fun w h => by rw [h.1, h.2]);rintro d ⟨i, rfl, hi, hk⟩;have x0 : ixOK 0 [top].length = true := rfl;have d0 : decide ((0 : Int).toNat < [top].length) = true := rfl;have g0 : [top].getD ((0 : Int).toNat) ([] : List Fm) = top := rfl;simp only [Int.toNat_natCast, x0, d0, g0, cond_true]
  by_cases hi' : i < top.length
  ·have e1 : decide ((i : Int) < (top.length : Int)) = true := decide_eq_true (by omega);have x1 : ixOK (i : Int) top.length = true := X0e.2 (by omega);have hm : top[i] ∈ top := List.getElem_mem hi';have hbm := h2 _ hm;simp only [e1, x1, cond_true, Y9N hi', Fm.eta_eq, Y7N (show top[i].big <= 4611686018427387000 by omega) (h1 _ hm), Option.bind_some, X5y (show i < 4611686018427387904 by omega)];rw [Y57 hi'] at hk;cases hv : X0H top[i] with
   | true =>
    rw [hv, Bool.true_and] at hk;simp only [Bool.not_true, cond_false];exact .inl ⟨_, rfl, ⟨i + 1, rfl, by omega, hk⟩, by simp only [Int.toNat_natCast]; omega⟩
   | false =>
    rw [hv, Bool.false_and] at hk;simp only [Bool.not_false, cond_true];exact .inr ⟨_, rfl, _, rfl, by rw [<- hk]; rfl⟩
  have e1 : decide ((i : Int) < (top.length : Int)) = false := decide_eq_false (by omega);have hd : top.drop i = [] := List.drop_of_length_le (by omega);rw [hd, List.all_nil] at hk;simp only [e1, cond_false];exact .inr ⟨_, rfl, _, rfl, by rw [<- hk]; rfl⟩
theorem Z0c {n m : Nat} {r : List UInt8} (hn : r.length < n) (hm : r.length < m) (top : List Fm) (st : List (List Fm)) : X0G visS (tokS numS) n r top st = X0G visS (tokS numS) m r top st := by
 have h1 := X51 visS (tokS numS) X9m r.length r (Nat.le_refl _) n n false top st hn hn;have h2 := X51 visS (tokS numS) X9m r.length r (Nat.le_refl _) n m false top st hn hm;rw [Bool.false_and, if_neg (by simp)] at h1 h2;exact h1.symm.trans h2
def PF (r : List UInt8) (top : List Fm) (st : List (List Fm)) : Int ⊕ List Fm := X0G visS (tokS numS) (r.length + 1) r top st
theorem Z0d {n : Nat} {r : List UInt8} (hn : r.length < n) (top : List Fm) (st : List (List Fm)) : X0G visS (tokS numS) n r top st = PF r top st := Z0c hn (Nat.lt_succ_self _) top st
theorem Z0b {r q : List UInt8} (h : X0z false r = X0z false q) (top : List Fm) (st : List (List Fm)) : PF r top st = PF q top st := by
 have h1 : PF r top st = X0G visS (tokS numS) (r.length + q.length + 1) r top st := (Z0d (by omega) top st).symm;have h2 : PF q top st = X0G visS (tokS numS) (r.length + q.length + 1) q top st := (Z0d (by omega) top st).symm;rw [h1, h2]; exact X6B visS (tokS numS) h top st
theorem X4O {c : UInt8} (h : X0m c = true) (r : List UInt8) (top : List Fm) (st : List (List Fm)) : PF (c :: r) top st = PF r top st :=
 Z0b (by simp [X0z, h]) top st
theorem X8Y (r : List UInt8) (top : List Fm) (st : List (List Fm)) : PF (40 :: r) top st = PF r [] (top :: st) := by
 unfold PF;rw [X0N];have hs : X0z false (40 :: r) = 40 :: r := by simp [X0z, X0m]
 rw [hs];exact Z0d (by simp) _ _
theorem Y1N (r : List UInt8) (top t : List Fm) (st : List (List Fm)) : PF (41 :: r) top (t :: st) = PF r (t ++ [lstF top]) st := by
 unfold PF;rw [X0N];have hs : X0z false (41 :: r) = 41 :: r := by simp [X0z, X0m]
 rw [hs];exact Z0d (by simp) _ _
theorem Z23 (top : List Fm) : PF [] top [] = .inr top := rfl
def X0M (n : Nat) : List UInt8 := List.replicate n 32
def X0F : List Fm -> List UInt8
 | [] => []
 | h :: r => if h.k = 1 then h.t ++ (match r with
  | [] => []
  | g :: _ => if g.k = 3 then [] else 32 :: wr g) else []
def X0I : List Fm -> Nat
 | [] => 0
 | h :: r => if h.k = 1 then (match r with
  | [] => 1
  | g :: _ => if g.k = 3 then 1 else 2) else 0
mutual
def layF (w : Nat) : Fm -> Nat -> Nat -> List UInt8
 | .mk k n t l, c, cl =>
  if c + (wr (.mk k n t l)).length + cl <= w \/ k ≠ 3 \/ l = [] then wr (.mk k n t l)
  else 40 :: (X0F l ++ (layL w l (X0I l) (!decide (X0I l = 0)) (if X0I l = 0 then c + 1 else c + 2) cl ++ [41]))
def layL (w : Nat) : List Fm -> Nat -> Bool -> Nat -> Nat -> List UInt8
 | [], _, _, _, _ => []
 | f :: r, sk + 1, nl, ind, cl => layL w r sk nl ind cl
 | f :: r, 0, nl, ind, cl => (if nl = true then 10 :: X0M ind else []) ++ (layF w f ind (if r = [] then cl + 1 else 0) ++ layL w r 0 true ind cl)
end
theorem Y1F (w : Nat) (f : Fm) (c cl : Nat) : layF w f c cl = if c + (wr f).length + cl <= w \/ f.k ≠ 3 \/ f.l = [] then wr f
  else 40 :: (X0F f.l ++ (layL w f.l (X0I f.l) (!decide (X0I f.l = 0)) (if X0I f.l = 0 then c + 1 else c + 2) cl ++ [41])) := by
 cases f; rw [layF]; rfl
theorem X8P (w : Nat) : ∀ (l : List Fm) (sk : Nat) (nl : Bool) (ind cl : Nat), layL w l sk nl ind cl = layL w (l.drop sk) 0 nl ind cl
 | [], sk, nl, ind, cl => by rw [List.drop_nil]; simp [layL]
 | f :: r, 0, nl, ind, cl => rfl
 | f :: r, sk + 1, nl, ind, cl => by rw [layL, List.drop_succ_cons]; exact X8P w r sk nl ind cl
theorem X7L {h : Fm} (hk : h.k = 1) (hf : X0w h = true) : wr h = h.t := by rw [Z4L, if_neg (by rw [hk]; decide), if_pos hk]
def n10 (x : UInt8) : Bool := !decide (x = 10)
def tokc (c : UInt8) : Bool := !(X0m c) && (!decide (c = 40) && (!decide (c = 41) && (!decide (c = 34) && !decide (c = 59))))
def X0U (r : List UInt8) : List UInt8 := r.dropWhile n10
def qEnd : List UInt8 -> List UInt8
 | [] => []
 | [_] => []
 | c :: d :: r => if c = 92 then qEnd r else if c = 34 then d :: r else qEnd (d :: r)
def X6s : Bool -> List UInt8 -> Bool
 | b, [] => b
 | b, c :: r => X6s (if c = 10 then true else b && (decide (c = 32) || decide (c = 9))) r
def evS : Nat -> Int -> Bool -> Bool -> List UInt8 -> List (Bool × List UInt8)
 | 0, _, _, _, _ => []
 | _ + 1, _, _, _, [] => []
 | n + 1, d, near, bare, c :: r =>
  if c = 59 then (if d = 0 /\ bare = true then [(false, c :: r)] else []) ++ evS n d false false (X0U (c :: r))
  else if c = 34 then (if d = 0 /\ near = false then [(true, c :: r)] else []) ++ evS n d false (X6s bare ((c :: r).take ((c :: r).length - (qEnd r).length))) (qEnd r)
  else if c = 40 then (if d = 0 then [(true, c :: r)] else []) ++ evS n (d + 1) false false r
  else if c = 41 then evS n (d - 1) false false r
  else if X0m c = true then evS n d false (if c = 10 then true else bare) r
  else if near = true then evS n d true false r
  else (if d = 0 then [(true, c :: r)] else []) ++ evS n d true false r
def X5Y : Nat -> Nat -> List UInt8 -> List UInt8
 | 0, _, r => r
 | _ + 1, _, [] => []
 | n + 1, d, c :: r =>
  if c = 34 then (if d = 0 then qEnd r else X5Y n d (qEnd r))
  else if c = 59 then (if d = 0 then X0U (c :: r) else X5Y n d (X0U (c :: r)))
  else if c = 40 then X5Y n (d + 1) r
  else if c = 41 then (if d = 1 then r else X5Y n (d - 1) r)
  else if X0m c = true then (if d = 0 then r else X5Y n d r)
  else if d = 0 then (c :: r).dropWhile tokc else X5Y n d ((c :: r).dropWhile tokc)
theorem Y6o (r : List UInt8) : (X0U r).length <= r.length := X1O _ r
theorem X1m {c : UInt8} (h : c ≠ 10) (r : List UInt8) : (X0U (c :: r)).length <= r.length := by
 unfold X0U;rw [List.dropWhile_cons_of_pos (by simp [n10, h])]; exact X1O _ r
theorem X2y : ∀ r : List UInt8, (qEnd r).length <= r.length
 | [] => by simp [qEnd]
 | [c] => by simp [qEnd]
 | c :: d :: r => by
  rw [qEnd];split
  ·have := X2y r; simp only [List.length_cons]; omega
  split
  ·simp
  have := X2y (d :: r); simp only [List.length_cons] at *; omega
theorem X5u {c : UInt8} (h : tokc c = true) (r : List UInt8) : ((c :: r).dropWhile tokc).length <= r.length := by
 rw [List.dropWhile_cons_of_pos h]; exact X1O _ r
theorem X58 {c : UInt8} (h1 : c ≠ 59) (h2 : c ≠ 34) (h3 : c ≠ 40) (h4 : c ≠ 41) (h5 : ¬ X0m c = true) : tokc c = true := by
 simp [tokc, h1, h2, h3, h4, h5]
theorem Y10 {c : UInt8} (h : tokc c = true) : c ≠ 59 /\ c ≠ 34 /\ c ≠ 40 /\ c ≠ 41 /\ X0m c = false := by
 simp only [tokc, Bool.and_eq_true, Bool.not_eq_true', decide_eq_false_iff_not] at h;exact ⟨h.2.2.2.2, h.2.2.2.1, h.2.1, h.2.2.1, h.1⟩
theorem Z4K {c : UInt8} (h : visS c = true) : tokc c = true := by
 obtain ⟨h1, h2, h3, h4, h5⟩ := X9m c h;exact X58 h2 h5 h3 h4 (by simp [h1])
theorem X4a : ∀ (n m : Nat) (d : Int) (near bare : Bool) (r : List UInt8), r.length < n -> r.length < m -> evS n d near bare r = evS m d near bare r
 | 0, m, d, near, bare, r, h, _ => by omega
 | n + 1, 0, d, near, bare, r, _, h => by omega
 | n + 1, m + 1, d, near, bare, [], _, _ => rfl
 | n + 1, m + 1, d, near, bare, c :: r, h1, h2 => by
  simp only [List.length_cons] at h1 h2;simp only [evS]
  by_cases c1 : c = 59
  ·have := X1m (show c ≠ 10 by rw [c1]; decide) r;rw [if_pos c1, if_pos c1, X4a n m _ _ _ _ (by omega) (by omega)]
  have hq := X2y r;rw [if_neg c1, if_neg c1, X4a n m d false _ (qEnd r) (by omega) (by omega), X4a n m (d + 1) false false r (by omega) (by omega), X4a n m (d - 1) false false r (by omega) (by omega), X4a n m d false _ r (by omega) (by omega), X4a n m d true false r (by omega) (by omega)]
def EV (d : Int) (near bare : Bool) (r : List UInt8) : List (Bool × List UInt8) := evS (r.length + 1) d near bare r
theorem Y8s (d : Int) (near bare : Bool) : EV d near bare [] = [] := rfl
theorem X01 (d : Int) (near bare : Bool) (c : UInt8) (r : List UInt8) : EV d near bare (c :: r) =
  (if c = 59 then (if d = 0 /\ bare = true then [(false, c :: r)] else []) ++ EV d false false (X0U (c :: r))
  else if c = 34 then (if d = 0 /\ near = false then [(true, c :: r)] else []) ++ EV d false (X6s bare ((c :: r).take ((c :: r).length - (qEnd r).length))) (qEnd r)
  else if c = 40 then (if d = 0 then [(true, c :: r)] else []) ++ EV (d + 1) false false r
  else if c = 41 then EV (d - 1) false false r
  else if X0m c = true then EV d false (if c = 10 then true else bare) r
  else if near = true then EV d true false r
  else (if d = 0 then [(true, c :: r)] else []) ++ EV d true false r) := by
 have hq := X2y r;unfold EV;simp only [evS, List.length_cons]
 by_cases c1 : c = 59
 ·have := X1m (show c ≠ 10 by rw [c1]; decide) r;rw [if_pos c1, if_pos c1, X4a (r.length + 1) ((X0U (c :: r)).length + 1) _ _ _ _ (by omega) (by omega)]
 rw [if_neg c1, if_neg c1, X4a (r.length + 1) ((qEnd r).length + 1) d false _ (qEnd r) (by omega) (by omega)]
theorem X1Q : ∀ (n m d : Nat) (r : List UInt8), r.length < n -> r.length < m -> X5Y n d r = X5Y m d r
 | 0, m, d, r, h, _ => by omega
 | n + 1, 0, d, r, _, h => by omega
 | n + 1, m + 1, d, [], _, _ => rfl
 | n + 1, m + 1, d, c :: r, h1, h2 => by
  simp only [List.length_cons] at h1 h2;have hq := X2y r;simp only [X5Y]
  by_cases c1 : c = 34
  ·rw [if_pos c1, if_pos c1, X1Q n m d (qEnd r) (by omega) (by omega)]
  rw [if_neg c1, if_neg c1]
  by_cases c2 : c = 59
  ·have := X1m (show c ≠ 10 by rw [c2]; decide) r;rw [if_pos c2, if_pos c2, X1Q n m d (X0U (c :: r)) (by omega) (by omega)]
  rw [if_neg c2, if_neg c2]
  by_cases c3 : c = 40
  ·rw [if_pos c3, if_pos c3, X1Q n m (d + 1) r (by omega) (by omega)]
  rw [if_neg c3, if_neg c3]
  by_cases c4 : c = 41
  ·rw [if_pos c4, if_pos c4, X1Q n m (d - 1) r (by omega) (by omega)]
  rw [if_neg c4, if_neg c4]
  by_cases c5 : X0m c = true
  ·rw [if_pos c5, if_pos c5, X1Q n m d r (by omega) (by omega)]
  have := X5u (X58 c2 c1 c3 c4 c5) r;rw [if_neg c5, if_neg c5, X1Q n m d ((c :: r).dropWhile tokc) (by omega) (by omega)]
def PA (d : Nat) (r : List UInt8) : List UInt8 := X5Y (r.length + 1) d r
theorem X1y (d : Nat) (c : UInt8) (r : List UInt8) : PA d (c :: r) =
  (if c = 34 then (if d = 0 then qEnd r else PA d (qEnd r))
  else if c = 59 then (if d = 0 then X0U (c :: r) else PA d (X0U (c :: r)))
  else if c = 40 then PA (d + 1) r
  else if c = 41 then (if d = 1 then r else PA (d - 1) r)
  else if X0m c = true then (if d = 0 then r else PA d r)
  else if d = 0 then (c :: r).dropWhile tokc else PA d ((c :: r).dropWhile tokc)) := by
 have hq := X2y r;unfold PA;simp only [X5Y, List.length_cons]
 by_cases c1 : c = 34
 ·rw [if_pos c1, if_pos c1, X1Q (r.length + 1) ((qEnd r).length + 1) d (qEnd r) (by omega) (by omega)]
 rw [if_neg c1, if_neg c1]
 by_cases c2 : c = 59
 ·have := X1m (show c ≠ 10 by rw [c2]; decide) r;rw [if_pos c2, if_pos c2, X1Q (r.length + 1) ((X0U (c :: r)).length + 1) d (X0U (c :: r)) (by omega) (by omega)]
 rw [if_neg c2, if_neg c2]
 by_cases c3 : c = 40
 ·rw [if_pos c3, if_pos c3]
 rw [if_neg c3, if_neg c3]
 by_cases c4 : c = 41
 ·rw [if_pos c4, if_pos c4]
 rw [if_neg c4, if_neg c4]
 by_cases c5 : X0m c = true
 ·rw [if_pos c5, if_pos c5]
 have := X5u (X58 c2 c1 c3 c4 c5) r;rw [if_neg c5, if_neg c5, X1Q (r.length + 1) (((c :: r).dropWhile tokc).length + 1) d ((c :: r).dropWhile tokc) (by omega) (by omega)]
theorem X7H (r : List UInt8) (top : List Fm) (st : List (List Fm)) : PF (34 :: r) top st = match X0T r [] with
  | .inl e => .inl e
  | .inr (b, q) => if X0S visS q = true then .inl 4 else PF q (top ++ [txtF b]) st := by
 have hs : X0z false (34 :: r) = 34 :: r := by simp [X0z, X0m]
 unfold PF;rw [X0N, hs];simp only [show ¬ ((34 : UInt8) = 40) from by decide, show ¬ ((34 : UInt8) = 41) from by decide, if_false, if_true];cases hx : X0T r [] with
 | inl e => rfl
 | inr p =>
  obtain ⟨b, q⟩ := p;have := X3l r [] b q hx;simp only;rw [Z0d (show q.length < (34 :: r).length by simp only [List.length_cons]; omega)];rfl
theorem Z59 {c : UInt8} (hc : visS c = true) (r : List UInt8) (top : List Fm) (st : List (List Fm)) : PF (c :: r) top st = match tokS numS ((c :: r).takeWhile visS) with
  | .inl e => .inl e
  | .inr f => if X0S visS ((c :: r).dropWhile visS) = true then .inl 4 else PF ((c :: r).dropWhile visS) (top ++ [f]) st := by
 obtain ⟨h1, h2, h3, h4, h5⟩ := X9m c hc;have hs : X0z false (c :: r) = c :: r := by simp [X0z, h1, h2]
 have hl : ((c :: r).dropWhile visS).length < (c :: r).length := by rw [List.dropWhile_cons_of_pos hc]; have := X1O visS r; simp only [List.length_cons]; omega
 unfold PF;rw [X0N, hs];simp only [if_neg h3, if_neg h4, if_neg h5, if_pos hc];cases tokS numS ((c :: r).takeWhile visS) with
 | inl e => rfl
 | inr f =>
  simp only;rw [Z0c hl (Nat.lt_succ_self _)]
theorem Z22 {c : UInt8} (h1 : X0m c = false) (h2 : c ≠ 59) (h3 : c ≠ 40) (h4 : c ≠ 41) (h5 : c ≠ 34) (h6 : visS c = false) (r : List UInt8) (top : List Fm) (st : List (List Fm)) : PF (c :: r) top st = .inl 4 := by
 have hs : X0z false (c :: r) = c :: r := by simp [X0z, h1, h2]
 unfold PF;rw [X0N, hs];simp only [if_neg h3, if_neg h4, if_neg h5, h6];rfl
theorem X8X (r : List UInt8) (top : List Fm) : PF (41 :: r) top [] = .inl 4 := by
 have hs : X0z false (41 :: r) = 41 :: r := by simp [X0z, X0m]
 unfold PF;rw [X0N, hs];rfl
theorem X50 (r : List UInt8) (top : List Fm) (st : List (List Fm)) : PF (59 :: r) top st = PF (X0U (59 :: r)) top st := by
 refine Z0b ?_ top st;have e1 : X0z false (59 :: r) = X0z true r := by simp [X0z, X0m]
 have e2 : X0U (59 :: r) = X0U r := by unfold X0U; rw [List.dropWhile_cons_of_pos (by decide)]
 rw [e1, X55, e2];rfl
theorem X2C : ∀ (r b x q : List UInt8), X0T r b = .inr (x, q) -> qEnd r = q /\ ∃ p, r = p ++ q /\ ∀ c ∈ p, c ≠ 10
 | [], b, x, q, h => by simp [X0T] at h
 | [c], b, x, q, h => by
  simp only [X0T] at h;split at h
  ·rename_i hc;split at h
   ·cases h
   cases h; exact ⟨rfl, [c], rfl, by simp [hc]⟩
  split at h
  ·cases h
  split at h <;> cases h
 | c :: d :: r, b, x, q, h => by
  simp only [X0T] at h;rw [qEnd];split at h
  ·rename_i hc;split at h
   ·cases h
   cases h;rw [if_neg (by rw [hc]; decide), if_pos hc];exact ⟨rfl, [c], rfl, by simp [hc]⟩
  rename_i hc34;split at h
  ·rename_i hc;rw [if_pos hc];split at h
   ·rename_i hd;obtain ⟨h1, p, h2, h3⟩ := X2C r _ x q h;exact ⟨h1, c :: d :: p, by rw [h2]; rfl, fun y hy => by
     rcases List.mem_cons.1 hy with rfl | hy
     ·rw [hc]; decide
     rcases List.mem_cons.1 hy with rfl | hy
     ·rw [hd]; decide
     exact h3 y hy⟩
   split at h
   ·rename_i hd;obtain ⟨h1, p, h2, h3⟩ := X2C r _ x q h;exact ⟨h1, c :: d :: p, by rw [h2]; rfl, fun y hy => by
     rcases List.mem_cons.1 hy with rfl | hy
     ·rw [hc]; decide
     rcases List.mem_cons.1 hy with rfl | hy
     ·rcases hd with rfl | rfl <;> decide
     exact h3 y hy⟩
   cases h
  rename_i hc92;rw [if_neg hc92, if_neg hc34];split at h
  ·cases h
  rename_i hc;obtain ⟨h1, p, h2, h3⟩ := X2C (d :: r) _ x q h;exact ⟨h1, c :: p, by rw [h2]; rfl, fun y hy => by
   rcases List.mem_cons.1 hy with rfl | hy
   ·intro e; subst e; exact hc (.inl (by decide))
   exact h3 y hy⟩
theorem X5i : ∀ r : List UInt8, (∀ c ∈ r, c ≠ 10) -> X6s false r = false
 | [], _ => rfl
 | c :: r, h => by
  rw [X6s, if_neg (h c (by simp)), Bool.false_and];exact X5i r fun x hx => h x (by simp [hx])
theorem Z4G {q : List UInt8} {top l : List Fm} {st : List (List Fm)} (h : PF q top st = .inr l) (ht : X0S visS q = false) : ∀ c r, q = c :: r -> tokc c = false /\ c ≠ 34 := by
 rintro c r rfl;simp only [X0S, Bool.or_eq_false_iff, decide_eq_false_iff_not] at ht;refine ⟨?_, ht.1⟩;cases hc : tokc c with
 | false => rfl
 | true =>
  obtain ⟨h1, h2, h3, h4, h5⟩ := Y10 hc;rw [Z22 h5 h1 h3 h4 h2 ht.2] at h;cases h
theorem Z2x {w q : List UInt8} (hw : ∀ c ∈ w, tokc c = true) (hq : ∀ c r, q = c :: r -> tokc c = false /\ c ≠ 34) : (w ++ q).dropWhile tokc = q := by
 induction w with
 | nil =>
  cases q with
  | nil => rfl
  | cons c r => rw [List.nil_append, List.dropWhile_cons_of_neg (by simp [(hq c r rfl).1])]
 | cons c w ih =>
  rw [List.cons_append, List.dropWhile_cons_of_pos (hw c (by simp))];exact ih fun x hx => hw x (by simp [hx])
theorem X59 {c : UInt8} {r : List UInt8} {top l : List Fm} {st : List (List Fm)} (hc : tokc c = true) (h : PF (c :: r) top st = .inr l) : ∃ f q, (c :: r).dropWhile tokc = q /\ q.length <= r.length /\ (∀ x y, q = x :: y -> tokc x = false /\ x ≠ 34) /\ PF q (top ++ [f]) st = .inr l := by
 obtain ⟨h1, h2, h3, h4, h5⟩ := Y10 hc;have hv : visS c = true := by
  cases hv : visS c with
  | true => rfl
  | false => rw [Z22 h5 h1 h3 h4 h2 hv] at h; cases h
 rw [Z59 hv] at h;cases hx : tokS numS ((c :: r).takeWhile visS) with
 | inl e => rw [hx] at h; cases h
 | inr f =>
  rw [hx] at h;simp only at h;cases ht : X0S visS ((c :: r).dropWhile visS) with
  | true => rw [ht] at h; cases h
  | false =>
   rw [ht, if_neg (by decide)] at h;have he := Z4G h ht;have hall : ∀ x ∈ (c :: r).takeWhile visS, tokc x = true := fun x hx => Z4K (X2j hx)
   have hd := Z2x hall he;rw [List.takeWhile_append_dropWhile] at hd;refine ⟨f, (c :: r).dropWhile visS, hd, ?_, he, h⟩;rw [List.dropWhile_cons_of_pos hv]; exact X1O _ r
theorem Y9E {d : Int} : ∀ (r : List UInt8) (b : Bool), (∀ c y, r.dropWhile tokc = c :: y -> c ≠ 34) -> r = r.dropWhile tokc \/ b = false -> EV d true b r = EV d false b (r.dropWhile tokc)
 | [], b, _, _ => rfl
 | c :: r, b, h, hb => by
  by_cases hc : tokc c = true
  ·obtain ⟨h1, h2, h3, h4, h5⟩ := Y10 hc;have hb' : b = false := by
    rcases hb with hb | hb
    ·rw [List.dropWhile_cons_of_pos hc] at hb;have := congrArg List.length hb;have := X1O tokc r;simp only [List.length_cons] at *
     omega
    exact hb
   rw [List.dropWhile_cons_of_pos hc] at h ⊢;rw [X01, if_neg h1, if_neg h2, if_neg h3, if_neg h4, if_neg (by simp [h5]), if_pos rfl, hb'];exact Y9E r false h (.inr rfl)
  rw [List.dropWhile_cons_of_neg hc] at h ⊢;have h34 := h c r rfl;rw [X01, X01, if_neg h34, if_neg h34]
  by_cases c1 : c = 59
  ·rw [if_pos c1, if_pos c1]
  rw [if_neg c1, if_neg c1]
  by_cases c2 : c = 40
  ·rw [if_pos c2, if_pos c2]
  rw [if_neg c2, if_neg c2]
  by_cases c3 : c = 41
  ·rw [if_pos c3, if_pos c3]
  rw [if_neg c3, if_neg c3]
  by_cases c4 : X0m c = true
  ·rw [if_pos c4, if_pos c4]
  exact absurd (X58 c1 h34 c2 c3 c4) hc
theorem Z2X {c : UInt8} {d : Int} {b : Bool} {r q : List UInt8} (hc : tokc c = true) (hq : (c :: r).dropWhile tokc = q) (he : ∀ x y, q = x :: y -> tokc x = false /\ x ≠ 34) : EV d false b (c :: r) = (if d = 0 then [(true, c :: r)] else []) ++ EV d false false q := by
 obtain ⟨h1, h2, h3, h4, h5⟩ := Y10 hc;rw [X01, if_neg h1, if_neg h2, if_neg h3, if_neg h4, if_neg (by simp [h5]), if_neg (by decide)];rw [List.dropWhile_cons_of_pos hc] at hq;rw [Y9E r false (fun x y e => (he x y (by rw [<- hq]; exact e)).2) (.inr rfl), hq]
theorem Y1O : ∀ (N : Nat) (r : List UInt8), r.length <= N -> ∀ (top t0 l : List Fm) (st : List (List Fm)) (bare : Bool), PF r top (st ++ [t0]) = .inr l ->
  ∃ f, (PA (st.length + 1) r).length < r.length /\ PF (PA (st.length + 1) r) (t0 ++ [f]) [] = .inr l /\ EV ((st.length : Int) + 1) false bare r = EV 0 false false (PA (st.length + 1) r)
 | 0, [], _, top, t0, l, st, bare, h => by
  unfold PF at h;rw [X0N] at h;cases st <;> cases h
 | 0, c :: r, hN, _, _, _, _, _, _ => by simp at hN
 | N + 1, [], _, top, t0, l, st, bare, h => by
  unfold PF at h;rw [X0N] at h;cases st <;> cases h
 | N + 1, c :: r, hN, top, t0, l, st, bare, h => by
  simp only [List.length_cons] at hN ⊢;have ih := Y1O N;have hd0 : ¬ ((st.length : Int) + 1 = 0) := by omega
  by_cases c1 : c = 59
  ·subst c1;have hl := X1m (show (59 : UInt8) ≠ 10 by decide) r;rw [X50] at h;obtain ⟨f, h1, h2, h3⟩ := ih (X0U (59 :: r)) (by omega) top t0 l st false h;have e : PA (st.length + 1) (59 :: r) = PA (st.length + 1) (X0U (59 :: r)) := by rw [X1y, if_neg (by decide), if_pos rfl, if_neg (by omega)]
   rw [e];refine ⟨f, by omega, h2, ?_⟩;rw [X01, if_pos rfl, if_neg (fun h => hd0 h.1), List.nil_append];exact h3
  by_cases c2 : c = 34
  ·subst c2;rw [X7H] at h;cases hx : X0T r [] with
   | inl e => rw [hx] at h; cases h
   | inr p =>
    obtain ⟨b, q⟩ := p;rw [hx] at h;simp only at h;obtain ⟨hq, p, hp, hp10⟩ := X2C r [] b q hx;have hql := X2y r;cases ht : X0S visS q with
    | true => rw [ht] at h; cases h
    | false =>
     rw [ht, if_neg (by decide), <- hq] at h;obtain ⟨f, h1, h2, h3⟩ := ih (qEnd r) (by omega) _ t0 l st (X6s bare ((34 :: r).take ((34 :: r).length - (qEnd r).length))) h;have e : PA (st.length + 1) (34 :: r) = PA (st.length + 1) (qEnd r) := by rw [X1y, if_pos rfl, if_neg (by omega)]
     rw [e];refine ⟨f, by omega, h2, ?_⟩;rw [X01, if_neg (by decide), if_pos rfl, if_neg (fun h => hd0 h.1), List.nil_append];exact h3
  by_cases c3 : c = 40
  ·subst c3;rw [X8Y] at h;obtain ⟨f, h1, h2, h3⟩ := ih r (by omega) [] t0 l (top :: st) false h;have e : PA (st.length + 1) (40 :: r) = PA (st.length + 1 + 1) r := by rw [X1y, if_neg (by decide), if_neg (by decide), if_pos rfl]
   rw [List.length_cons] at h1 h2 h3;rw [e];refine ⟨f, by omega, h2, ?_⟩;rw [X01, if_neg (by decide), if_neg (by decide), if_pos rfl, if_neg hd0, List.nil_append, <- h3];rfl
  by_cases c4 : c = 41
  ·subst c4;cases st with
   | nil =>
    rw [List.nil_append, Y1N] at h;have e : PA (([] : List (List Fm)).length + 1) (41 :: r) = r := by rw [X1y, if_neg (by decide), if_neg (by decide), if_neg (by decide), if_pos rfl]; rfl
    rw [e];refine ⟨lstF top, by omega, h, ?_⟩;rw [X01, if_neg (by decide), if_neg (by decide), if_neg (by decide), if_pos rfl];rfl
   | cons t st' =>
    rw [List.cons_append, Y1N] at h;obtain ⟨f, h1, h2, h3⟩ := ih r (by omega) _ t0 l st' false h;have e : PA ((t :: st').length + 1) (41 :: r) = PA (st'.length + 1) r := by
     rw [X1y, if_neg (by decide), if_neg (by decide), if_neg (by decide), if_pos rfl, List.length_cons, if_neg (by omega)]; rfl
    rw [e];refine ⟨f, by omega, h2, ?_⟩;rw [X01, if_neg (by decide), if_neg (by decide), if_neg (by decide), if_pos rfl, List.length_cons, <- h3]
    congr 1; omega
  by_cases c5 : X0m c = true
  ·rw [X4O c5] at h;obtain ⟨f, h1, h2, h3⟩ := ih r (by omega) top t0 l st (if c = 10 then true else bare) h;have e : PA (st.length + 1) (c :: r) = PA (st.length + 1) r := by rw [X1y, if_neg c2, if_neg c1, if_neg c3, if_neg c4, if_pos c5, if_neg (by omega)]
   rw [e];refine ⟨f, by omega, h2, ?_⟩;rw [X01, if_neg c1, if_neg c2, if_neg c3, if_neg c4, if_pos c5];exact h3
  have hc := X58 c1 c2 c3 c4 c5;obtain ⟨g, q, hq, hql, he, h'⟩ := X59 hc h;obtain ⟨f, h1, h2, h3⟩ := ih q (by omega) _ t0 l st false h';have e : PA (st.length + 1) (c :: r) = PA (st.length + 1) q := by rw [X1y, if_neg c2, if_neg c1, if_neg c3, if_neg c4, if_neg c5, if_neg (by omega), hq]
  rw [e];refine ⟨f, by omega, h2, ?_⟩;rw [Z2X hc hq he, if_neg hd0, List.nil_append];exact h3
def zF : Fm := .mk 0 0 [] []
def wsL : List UInt8 := [32, 9]
def wsB (c : UInt8) : Bool := decide (c ∈ wsL)
def X9I (s : List UInt8) : List UInt8 := X00 wsB s s.length
def comS (r : List UInt8) : List UInt8 := X9I (r.takeWhile n10)
def X1b : List (Bool × List UInt8) -> List Fm -> List (List UInt8 × Fm)
 | [], _ => []
 | (false, r) :: E, fs => (comS r, zF) :: X1b E fs
 | (true, _) :: E, f :: fs => ([], f) :: X1b E fs
 | (true, _) :: _, [] => []
def itS : Nat -> Bool -> List UInt8 -> List Fm -> List (List UInt8 × Fm)
 | 0, _, _, _ => []
 | _ + 1, _, [], _ => []
 | n + 1, bare, c :: r, fs =>
  if c = 10 then itS n true r fs
  else if X0m c = true then itS n bare r fs
  else if c = 59 then (if bare = true then [(comS (c :: r), zF)] else []) ++ itS n bare (X0U (c :: r)) fs
  else match fs with
   | [] => []
   | f :: fs' => ([], f) :: itS n false (PA 0 (c :: r)) fs'
theorem X5p : ∀ (n d : Nat) (r : List UInt8), (X5Y n d r).length <= r.length
 | 0, d, r => Nat.le_refl _
 | n + 1, d, [] => by simp [X5Y]
 | n + 1, d, c :: r => by
  have hq := X2y r;have ht := X1O tokc (c :: r);have hl := Y6o (c :: r);simp only [List.length_cons] at ht hl ⊢;simp only [X5Y];have i1 := X5p n d (qEnd r);have i2 := X5p n d (X0U (c :: r));have i3 := X5p n (d + 1) r;have i4 := X5p n (d - 1) r;have i5 := X5p n d r;have i6 := X5p n d ((c :: r).dropWhile tokc)
  repeat' split
  all_goals first | omega | (have := Y6o (c :: r); simp only [List.length_cons] at this; omega)
theorem Z5x (d : Nat) (r : List UInt8) : (PA d r).length <= r.length := X5p _ _ _
theorem Y5P {c : UInt8} {r : List UInt8} (h : X0m c = false) (h2 : c ≠ 59) : (PA 0 (c :: r)).length <= r.length := by
 rw [X1y];have hq := X2y r
 by_cases c1 : c = 34
 ·rw [if_pos c1, if_pos rfl]; exact hq
 rw [if_neg c1, if_neg h2]
 by_cases c3 : c = 40
 ·rw [if_pos c3]; exact Z5x _ _
 rw [if_neg c3]
 by_cases c4 : c = 41
 ·rw [if_pos c4, if_neg (by decide)]; exact Z5x _ _
 rw [if_neg c4, if_neg (by simp [h]), if_pos rfl];exact X5u (X58 h2 c1 c3 c4 (by simp [h])) r
theorem X6v : ∀ (n m : Nat) (bare : Bool) (r : List UInt8) (fs : List Fm), r.length < n -> r.length < m -> itS n bare r fs = itS m bare r fs
 | 0, m, bare, r, fs, h, _ => by omega
 | n + 1, 0, bare, r, fs, _, h => by omega
 | n + 1, m + 1, bare, [], fs, _, _ => rfl
 | n + 1, m + 1, bare, c :: r, fs, h1, h2 => by
  simp only [List.length_cons] at h1 h2;simp only [itS]
  by_cases c1 : c = 10
  ·rw [if_pos c1, if_pos c1, X6v n m _ r fs (by omega) (by omega)]
  have hl := X1m c1 r;rw [if_neg c1, if_neg c1]
  by_cases c2 : X0m c = true
  ·rw [if_pos c2, if_pos c2, X6v n m _ r fs (by omega) (by omega)]
  rw [if_neg c2, if_neg c2]
  by_cases c3 : c = 59
  ·rw [if_pos c3, if_pos c3, X6v n m _ (X0U (c :: r)) fs (by omega) (by omega)]
  rw [if_neg c3, if_neg c3];cases fs with
  | nil => rfl
  | cons f fs' =>
   have := Y5P (c := c) (r := r) (by simpa using c2) c3;simp only;rw [X6v n m _ (PA 0 (c :: r)) fs' (by omega) (by omega)]
def IT (bare : Bool) (r : List UInt8) (fs : List Fm) : List (List UInt8 × Fm) := itS (r.length + 1) bare r fs
theorem Z2J (bare : Bool) (fs : List Fm) : IT bare [] fs = [] := rfl
theorem X49 (bare : Bool) (c : UInt8) (r : List UInt8) (fs : List Fm) : IT bare (c :: r) fs =
  (if c = 10 then IT true r fs
  else if X0m c = true then IT bare r fs
  else if c = 59 then (if bare = true then [(comS (c :: r), zF)] else []) ++ IT bare (X0U (c :: r)) fs
  else match fs with
   | [] => []
   | f :: fs' => ([], f) :: IT false (PA 0 (c :: r)) fs') := by
 unfold IT;simp only [itS, List.length_cons]
 by_cases c1 : c = 10
 ·rw [if_pos c1, if_pos c1]
 have hl := X1m c1 r;rw [if_neg c1, if_neg c1]
 by_cases c2 : X0m c = true
 ·rw [if_pos c2, if_pos c2]
 rw [if_neg c2, if_neg c2]
 by_cases c3 : c = 59
 ·rw [if_pos c3, if_pos c3, X6v (r.length + 1) ((X0U (c :: r)).length + 1) _ (X0U (c :: r)) fs (by omega) (by omega)]
 rw [if_neg c3, if_neg c3];cases fs with
 | nil => rfl
 | cons f fs' =>
  have := Y5P (c := c) (r := r) (by simpa using c2) c3;simp only;rw [X6v (r.length + 1) ((PA 0 (c :: r)).length + 1) _ (PA 0 (c :: r)) fs' (by omega) (by omega)]
def X18 (E : List (Bool × List UInt8)) : Nat := (E.filter fun e => e.1).length
theorem X8S (r : List UInt8) : X0U r = [] \/ ∃ q, X0U r = 10 :: q := by
 induction r with
 | nil => exact .inl rfl
 | cons c r ih =>
  by_cases h : c = 10
  ·subst h; right; exact ⟨r, by unfold X0U; rw [List.dropWhile_cons_of_neg (by decide)]⟩
  have e : X0U (c :: r) = X0U r := by unfold X0U; rw [List.dropWhile_cons_of_pos (by simp [n10, h])]
  rw [e]; exact ih
theorem X4L : ∀ (N : Nat) (r : List UInt8), r.length <= N -> ∀ (top l : List Fm) (bare : Bool), PF r top [] = .inr l ->
  ∃ fs, l = top ++ fs /\ X1b (EV 0 false bare r) fs = IT bare r fs /\ X18 (EV 0 false bare r) = fs.length
 | N, [], _, top, l, bare, h => by
  rw [Z23] at h;cases h;exact ⟨[], by simp, rfl, rfl⟩
 | 0, c :: r, hN, _, _, _, _ => by simp at hN
 | N + 1, c :: r, hN, top, l, bare, h => by
  simp only [List.length_cons] at hN;have ih := X4L N
  by_cases c5 : X0m c = true
  ·have hne : c ≠ 59 /\ c ≠ 34 /\ c ≠ 40 /\ c ≠ 41 := by
    refine ⟨?_, ?_, ?_, ?_⟩ <;> (intro e; subst e; revert c5; decide)
   rw [X4O c5] at h;rw [X01, if_neg hne.1, if_neg hne.2.1, if_neg hne.2.2.1, if_neg hne.2.2.2, if_pos c5]
   by_cases c10 : c = 10
   ·have hI : ∀ fs, IT bare (c :: r) fs = IT true r fs := fun fs => by rw [X49, if_pos c10]
    simp only [hI];rw [if_pos c10]; exact ih r (by omega) top l true h
   have hI : ∀ fs, IT bare (c :: r) fs = IT bare r fs := fun fs => by rw [X49, if_neg c10, if_pos c5]
   simp only [hI];rw [if_neg c10]; exact ih r (by omega) top l bare h
  have c10 : c ≠ 10 := by intro e; subst e; exact c5 (by decide)
  by_cases c1 : c = 59
  ·subst c1;have hl := X1m (show (59 : UInt8) ≠ 10 by decide) r;rw [X50] at h;have hI : ∀ fs, IT bare (59 :: r) fs = (if bare = true then [(comS (59 :: r), zF)] else []) ++ IT bare (X0U (59 :: r)) fs := fun fs => by rw [X49, if_neg c10, if_neg c5, if_pos rfl]
   simp only [hI];rw [X01, if_pos rfl];have key : ∃ fs, l = top ++ fs /\ X1b (EV 0 false false (X0U (59 :: r))) fs = IT bare (X0U (59 :: r)) fs /\ X18 (EV 0 false false (X0U (59 :: r))) = fs.length := by
    rcases X8S (59 :: r) with e | ⟨q, e⟩
    ·rw [e] at h ⊢;rw [Z23] at h;cases h;exact ⟨[], by simp, rfl, rfl⟩
    rw [e] at h hl ⊢;simp only [List.length_cons] at hl;rw [X4O (by decide)] at h;have hI : ∀ fs, IT bare (10 :: q) fs = IT true q fs := fun fs => by rw [X49, if_pos rfl]
    simp only [hI];rw [X01, if_neg (by decide), if_neg (by decide), if_neg (by decide), if_neg (by decide), if_pos (by decide), if_pos rfl];exact ih q (by omega) top l true h
   obtain ⟨fs, h1, h2, h3⟩ := key;refine ⟨fs, h1, ?_, ?_⟩
   ·cases bare with
    | true => rw [if_pos ⟨rfl, rfl⟩, if_pos rfl]; simp only [List.cons_append, List.nil_append, X1b, h2]
    | false => rw [if_neg (by simp), if_neg (by simp)]; simp only [List.nil_append, h2]
   cases bare with
   | true => rw [if_pos ⟨rfl, rfl⟩, <- h3]; rfl
   | false => rw [if_neg (by simp), List.nil_append]; exact h3
  have hI : ∀ fs, IT bare (c :: r) fs = (match fs with
   | [] => []
   | f :: fs' => ([], f) :: IT false (PA 0 (c :: r)) fs') := fun fs => by rw [X49, if_neg c10, if_neg c5, if_neg c1]
  simp only [hI]
  have fin : ∀ (g : Fm) (q : List UInt8) (E : List (Bool × List UInt8)), PA 0 (c :: r) = q -> q.length <= r.length -> PF q (top ++ [g]) [] = .inr l -> E = EV 0 false false q ->
    ∃ fs, l = top ++ fs /\ X1b ((true, c :: r) :: E) fs = (match fs with
     | [] => []
     | f :: fs' => ([], f) :: IT false (PA 0 (c :: r)) fs') /\ X18 ((true, c :: r) :: E) = fs.length := by
   intro g q E hq hql hp hE;obtain ⟨fs, h1, h2, h3⟩ := ih q (by omega) _ l false hp;refine ⟨g :: fs, by rw [h1]; simp, ?_, ?_⟩
   ·simp only [X1b, hE, h2, hq]
   rw [List.length_cons, <- h3, hE]; rfl
  by_cases c2 : c = 34
  ·subst c2;rw [X7H] at h;cases hx : X0T r [] with
   | inl e => rw [hx] at h; cases h
   | inr p =>
    obtain ⟨b, q⟩ := p;rw [hx] at h;simp only at h;obtain ⟨hq, p, hp, hp10⟩ := X2C r [] b q hx;cases ht : X0S visS q with
    | true => rw [ht] at h; cases h
    | false =>
     rw [ht, if_neg (by decide)] at h;have e1 : PA 0 (34 :: r) = q := by rw [X1y, if_pos rfl, if_pos rfl, hq]
     have e2 : (34 :: r).take ((34 :: r).length - (qEnd r).length) = 34 :: p := by
      rw [hq, hp];have : (34 :: (p ++ q)).length - q.length = (34 :: p).length := by simp only [List.length_cons, List.length_append]; omega
      rw [this, show (34 :: (p ++ q) : List UInt8) = (34 :: p) ++ q from rfl, List.take_left]
     have e3 : X6s bare (34 :: p) = false := by
      rw [X6s, if_neg (by decide)];have : (bare && (decide ((34 : UInt8) = 32) || decide ((34 : UInt8) = 9))) = false := by cases bare <;> rfl
      rw [this]; exact X5i p hp10
     rw [X01, if_neg (by decide), if_pos rfl, if_pos ⟨rfl, rfl⟩, e2, e3, hq];exact fin _ q _ e1 (by rw [hp]; simp) h rfl
  by_cases c3 : c = 40
  ·subst c3;rw [X8Y] at h;obtain ⟨f, h1, h2, h3⟩ := Y1O r.length r (Nat.le_refl _) [] top l [] false h;have e1 : PA 0 (40 :: r) = PA (0 + 1) r := by rw [X1y, if_neg (by decide), if_neg (by decide), if_pos rfl]
   rw [X01, if_neg (by decide), if_neg (by decide), if_pos rfl, if_pos rfl];exact fin f _ _ e1 (by have : (PA (0 + 1) r).length < r.length := h1; omega) h2 h3
  by_cases c4 : c = 41
  ·subst c4;rw [X8X] at h; cases h
  have hc := X58 c1 c2 c3 c4 c5;obtain ⟨g, q, hq, hql, he, h'⟩ := X59 hc h;have e1 : PA 0 (c :: r) = q := by rw [X1y, if_neg c2, if_neg c1, if_neg c3, if_neg c4, if_neg c5, if_pos rfl, hq]
  rw [Z2X hc hq he, if_pos rfl];exact fin g q _ e1 hql h' rfl
theorem Z1D (p : UInt8 -> Bool) (r : List UInt8) : r.dropWhile p <:+ r := List.dropWhile_suffix p
theorem Y1P : ∀ r : List UInt8, qEnd r <:+ r
 | [] => List.suffix_refl _
 | [c] => by simp [qEnd]
 | c :: d :: r => by
  rw [qEnd];split
  ·exact (Y1P r).trans ⟨[c, d], rfl⟩
  split
  ·exact ⟨[c], rfl⟩
  exact (Y1P (d :: r)).trans ⟨[c], rfl⟩
theorem X42 : ∀ (n : Nat) (d : Int) (near bare : Bool) (r : List UInt8), r.length < n -> ∀ e ∈ evS n d near bare r, e.2 <:+ r
 | 0, d, near, bare, r, h => by omega
 | n + 1, d, near, bare, [], h => by intro e he; simp [evS] at he
 | n + 1, d, near, bare, c :: r, h => by
  simp only [List.length_cons] at h;have up : ∀ {q : List UInt8}, q <:+ r -> q <:+ c :: r := fun hq => hq.trans ⟨[c], rfl⟩
  intro e he;simp only [evS] at he;have self : ∀ (P : Prop) [Decidable P] (b : Bool), e ∈ (if P then [(b, c :: r)] else []) -> e.2 <:+ c :: r := fun P _ b hx => by
   by_cases hP : P
   ·rw [if_pos hP, List.mem_singleton] at hx; subst hx; exact List.suffix_refl _
   rw [if_neg hP] at hx; cases hx
  by_cases c1 : c = 59
  ·rw [if_pos c1] at he;have hl := X1m (show c ≠ 10 by rw [c1]; decide) r;rcases List.mem_append.1 he with he | he
   ·exact self _ _ he
   exact (X42 n _ _ _ _ (by omega) e he).trans (Z1D _ _)
  rw [if_neg c1] at he
  by_cases c2 : c = 34
  ·rw [if_pos c2] at he;have hq := X2y r;rcases List.mem_append.1 he with he | he
   ·exact self _ _ he
   exact up ((X42 n _ _ _ _ (by omega) e he).trans (Y1P r))
  rw [if_neg c2] at he
  by_cases c3 : c = 40
  ·rw [if_pos c3] at he;rcases List.mem_append.1 he with he | he
   ·exact self _ _ he
   exact up (X42 n _ _ _ _ (by omega) e he)
  rw [if_neg c3] at he
  by_cases c4 : c = 41
  ·rw [if_pos c4] at he; exact up (X42 n _ _ _ _ (by omega) e he)
  rw [if_neg c4] at he
  by_cases c5 : X0m c = true
  ·rw [if_pos c5] at he; exact up (X42 n _ _ _ _ (by omega) e he)
  rw [if_neg c5] at he
  by_cases c6 : near = true
  ·rw [if_pos c6] at he; exact up (X42 n _ _ _ _ (by omega) e he)
  rw [if_neg c6] at he;rcases List.mem_append.1 he with he | he
  ·exact self _ _ he
  exact up (X42 n _ _ _ _ (by omega) e he)
theorem Y0c : ∀ (n : Nat) (d : Int) (near bare : Bool) (r : List UInt8), r.length < n -> (evS n d near bare r).Pairwise fun a b => b.2.length < a.2.length
 | 0, d, near, bare, r, h => by omega
 | n + 1, d, near, bare, [], h => by simp [evS]
 | n + 1, d, near, bare, c :: r, h => by
  simp only [List.length_cons] at h;have add : ∀ (P : Prop) [Decidable P] (b : Bool) (d' : Int) (near' bare' : Bool) (q : List UInt8), q.length <= r.length -> ((if P then [(b, c :: r)] else []) ++ evS n d' near' bare' q).Pairwise fun a b => b.2.length < a.2.length := by
   intro P _ b d' near' bare' q hq;have ih := Y0c n d' near' bare' q (by omega)
   by_cases hP : P
   ·rw [if_pos hP, List.singleton_append, List.pairwise_cons];refine ⟨fun e he => ?_, ih⟩;have := (X42 n d' near' bare' q (by omega) e he).length_le;simp only [List.length_cons]; omega
   rw [if_neg hP, List.nil_append]; exact ih
  simp only [evS]
  by_cases c1 : c = 59
  ·rw [if_pos c1]; exact add _ _ _ _ _ _ (X1m (show c ≠ 10 by rw [c1]; decide) r)
  rw [if_neg c1]
  by_cases c2 : c = 34
  ·rw [if_pos c2]; exact add _ _ _ _ _ _ (X2y r)
  rw [if_neg c2]
  by_cases c3 : c = 40
  ·rw [if_pos c3]; exact add _ _ _ _ _ _ (Nat.le_refl _)
  rw [if_neg c3]
  by_cases c4 : c = 41
  ·rw [if_pos c4]; exact Y0c n _ _ _ _ (by omega)
  rw [if_neg c4]
  by_cases c5 : X0m c = true
  ·rw [if_pos c5]; exact Y0c n _ _ _ _ (by omega)
  rw [if_neg c5]
  by_cases c6 : near = true
  ·rw [if_pos c6]; exact Y0c n _ _ _ _ (by omega)
  rw [if_neg c6]; exact add _ _ _ _ _ _ (Nat.le_refl _)
def X03 (t : List UInt8) : Bool := t.any fun c => decide (c = 10)
def outS (w : Nat) : Bool -> Bool -> List (List UInt8 × Fm) -> List UInt8
 | _, _, [] => []
 | pf, lw, (b, f) :: r =>
  if b = [] then (if pf = true /\ lw = true /\ X03 (layF w f 0 0) = true then [10] else []) ++ (layF w f 0 0 ++ (10 :: outS w true (X03 (layF w f 0 0)) r))
  else (if pf = true then [10] else []) ++ (b ++ (10 :: outS w false lw r))
theorem X3K (p : UInt8 -> Bool) (s : List UInt8) : ∀ i, i <= s.length -> ∃ j, j <= i /\ X00 p s i = s.take j /\ (j = 0 \/ p (s.getD (j - 1) 0) = false)
 | 0, _ => ⟨0, Nat.le_refl _, by simp [X00], .inl rfl⟩
 | i + 1, h => by
  rw [X00];cases hp : p (s.getD i 0) with
  | true =>
   rw [if_pos rfl];obtain ⟨j, a, b, c⟩ := X3K p s i (by omega);exact ⟨j, by omega, b, c⟩
  | false =>
   rw [if_neg (by decide)];exact ⟨i + 1, Nat.le_refl _, rfl, .inr (by simpa using hp)⟩
theorem Y5F (p : UInt8 -> Bool) (s : List UInt8) {j : Nat} (h : j = 0 \/ p (s.getD (j - 1) 0) = false) : X00 p s j = s.take j := by
 cases j with
 | zero => simp [X00]
 | succ j =>
  rw [X00];have := h.resolve_left (by omega);rw [Nat.add_sub_cancel] at this;rw [this, if_neg (by decide)]
theorem Y7o {s : List UInt8} {j i : Nat} (h : i < j) : (s.take j).getD i 0 = s.getD i 0 := by
 simp [List.getD_eq_getElem?_getD, List.getElem?_take, h]
theorem Y71 (s : List UInt8) : X9I (X9I s) = X9I s := by
 unfold X9I;obtain ⟨j, a, b, c⟩ := X3K wsB s s.length (Nat.le_refl _);rw [b];have hl : (s.take j).length = j := by rw [List.length_take]; omega
 rw [hl, Y5F]
 ·rw [List.take_of_length_le (by omega)]
 rcases c with c | c
 ·exact .inl c
 by_cases hj : j = 0
 ·exact .inl hj
 right; rw [Y7o (by omega)]; exact c
theorem Z3Z (r : List UInt8) : ∃ b, comS (59 :: r) = 59 :: b /\ (∀ c ∈ comS (59 :: r), c ≠ 10) /\ X9I (comS (59 :: r)) = comS (59 :: r) := by
 have ht : (59 :: r).takeWhile n10 = 59 :: r.takeWhile n10 := List.takeWhile_cons_of_pos (by decide);have hall : ∀ c ∈ (59 :: r).takeWhile n10, c ≠ 10 := fun c hc => by
  have := X2j hc;simpa [n10] using this
 unfold comS;obtain ⟨j, a, b, c⟩ := X3K wsB ((59 :: r).takeWhile n10) ((59 :: r).takeWhile n10).length (Nat.le_refl _);have e : X9I ((59 :: r).takeWhile n10) = ((59 :: r).takeWhile n10).take j := b;have hj : j ≠ 0 := by
  intro hj;have key : ∀ i, i <= ((59 :: r).takeWhile n10).length -> 1 <= i -> X00 wsB ((59 :: r).takeWhile n10) i ≠ [] := by
   intro i
   induction i with
   | zero => intro _ h; omega
   | succ i ih =>
    intro h1 _;rw [X00]
    by_cases hi : i = 0
    ·subst hi;have : wsB (((59 :: r).takeWhile n10).getD 0 0) = false := by rw [ht]; rfl
     rw [this, if_neg (by decide), ht]; simp
    split
    ·exact ih (by omega) (by omega)
    rw [ht]; simp
  have h0 := key ((59 :: r).takeWhile n10).length (Nat.le_refl _) (by rw [ht]; simp);rw [b, hj] at h0;exact h0 (by simp)
 refine ⟨(r.takeWhile n10).take (j - 1), ?_, fun c hc => ?_, Y71 _⟩
 ·rw [e, ht];cases j with
  | zero => exact absurd rfl hj
  | succ j => rfl
 rw [e] at hc;exact hall c (List.mem_of_mem_take hc)
theorem X47 {L R A : Type} {N : Prop} {b : L -> Option (Step L R)} {l0 : L} {F : R -> Option A} {v : A} (I : L -> Prop) (μ : L -> Nat)
  (h : ∀ l, I l -> (∃ l', b l = some (.next l') /\ I l' /\ μ l' < μ l) \/ (∃ r, b l = some (.done r) /\ Up N (F r) v) \/ (b l = none /\ N)) (h0 : I l0) : Up N (Option.bind (X0v b l0) F) v := by
 have key : ∀ (n : Nat) (l : L), μ l <= n -> I l -> Up N (Option.bind (X0v b l) F) v := by
  intro n
  induction n with
  | zero =>
   intro l hl hi;rcases h l hi with ⟨l', h1, h2, h3⟩ | ⟨r, h1, h2⟩ | ⟨h1, h2⟩
   ·omega
   ·rw [X0R h1]; exact h2
   rw [X6x h1]; exact .inr ⟨rfl, h2⟩
  | succ n ih =>
   intro l hl hi;rcases h l hi with ⟨l', h1, h2, h3⟩ | ⟨r, h1, h2⟩ | ⟨h1, h2⟩
   ·rw [X29 h1]; exact ih l' (by omega) h2
   ·rw [X0R h1]; exact h2
   rw [X6x h1]; exact .inr ⟨rfl, h2⟩
 exact key _ l0 (Nat.le_refl _) h0
theorem Y6L {f : Fm} (h : X0H f = true) : wrV f = wr f := if_pos h
theorem X6c {f g : Fm} (hv : X0H f = true) (hg : g ∈ f.l) : X0H g = true := by
 rw [X6L] at hv ⊢;simp only [Bool.and_eq_true, decide_eq_true_eq] at hv ⊢;obtain ⟨h1, h2, h3⟩ := hv;have hf := h1;rw [X1Y] at hf;simp only [Bool.and_eq_true] at hf;have hk : f.k = 3 := by
  by_cases c : f.k = 3
  ·exact c
  have := hf.1;unfold X1J at this;have hl : f.l = [] := by
   by_cases c0 : f.k = 0
   ·rw [if_pos c0] at this; simp only [Bool.and_eq_true, decide_eq_true_eq] at this; exact this.2.1
   rw [if_neg c0] at this
   by_cases c1 : f.k = 1
   ·rw [if_pos c1] at this; simp only [Bool.and_eq_true, decide_eq_true_eq] at this; exact this.2.2
   rw [if_neg c1] at this
   by_cases c2 : f.k = 2
   ·rw [if_pos c2] at this; simp only [Bool.and_eq_true, decide_eq_true_eq] at this; exact this.2.2.2
   rw [if_neg c2, if_neg c] at this; cases this
  rw [hl] at hg; cases hg
 have hs : f.size = 1 + Fm.sizeL f.l := by rw [Fm.size_eq, if_pos hk]
 have hd : f.depth = 1 + Fm.depthL f.l := by rw [Fm.depth_eq, if_pos hk]
 obtain ⟨i, hi, rfl⟩ := List.getElem_of_mem hg;have a1 := X3i f.l hi;have a2 := X1T f.l (i + 1);have b1 := X5k f.l hi;have b2 := X41 f.l (i + 1);exact ⟨X2v hf.2 _ hg, by omega, by omega⟩
theorem X8y {f g : Fm} (hk : f.k = 3) (hg : g ∈ f.l) : g.depth + 1 <= f.depth := by
 have hd : f.depth = 1 + Fm.depthL f.l := by rw [Fm.depth_eq, if_pos hk]
 obtain ⟨i, hi, rfl⟩ := List.getElem_of_mem hg;have b1 := X5k f.l hi;have b2 := X41 f.l (i + 1);omega
theorem X5v {f : Fm} (hv : X0H f = true) : f.depth <= 100 := by
 rw [X6L] at hv;simp only [Bool.and_eq_true, decide_eq_true_eq] at hv;omega
theorem Y9J {w A : Nat} (hA : 4101 <= A) : ∀ l : List Fm, (∀ f ∈ l, X0w f = true) -> (X0F l).length <= A * Fm.sizeL (l.take (X0I l))
 | [], _ => by simp [X0F]
 | [h], hf => by
  by_cases hk : h.k = 1
  ·have e2 : X0F [h] = h.t := by simp [X0F, hk]
   have := X2N h (hf h (by simp));rw [X7L hk (hf h (by simp))] at this;have e3 : [h].take (X0I [h]) = [h] := by simp [X0I, hk]
   rw [e2, e3];simp only [Fm.sizeL];have : 4101 * h.size <= A * h.size := Nat.mul_le_mul_right _ hA;simp only [Nat.add_zero]; omega
  have e2 : X0F [h] = [] := by simp [X0F, hk]
  rw [e2]; simp
 | h :: g :: r, hf => by
  by_cases hk : h.k = 1
  ·have h1 := X2N h (hf h (by simp));rw [X7L hk (hf h (by simp))] at h1;have m1 : 4101 * h.size <= A * h.size := Nat.mul_le_mul_right _ hA
   by_cases hg : g.k = 3
   ·have e2 : X0F (h :: g :: r) = h.t := by simp [X0F, hk, hg]
    have e3 : (h :: g :: r).take (X0I (h :: g :: r)) = [h] := by simp [X0I, hk, hg]
    rw [e2, e3];simp only [Fm.sizeL, Nat.add_zero]; omega
   have e2 : X0F (h :: g :: r) = h.t ++ (32 :: wr g) := by simp [X0F, hk, hg]
   have e3 : (h :: g :: r).take (X0I (h :: g :: r)) = [h, g] := by simp [X0I, hk, hg]
   have h2 := X2N g (hf g (by simp));have m2 : 4101 * g.size <= A * g.size := Nat.mul_le_mul_right _ hA;rw [e2, e3];simp only [Fm.sizeL, Nat.add_zero, List.length_append, List.length_cons, Nat.mul_add]; omega
  have e2 : X0F (h :: g :: r) = [] := by simp [X0F, hk]
  rw [e2]; simp
theorem Y0F : ∀ (l : List Fm) (j : Nat), Fm.sizeL (l.take j) + Fm.sizeL (l.drop j) = Fm.sizeL l
 | [], j => by simp [Fm.sizeL]
 | f :: l, 0 => by simp [Fm.sizeL]
 | f :: l, j + 1 => by
  have := Y0F l j;simp only [List.take_succ_cons, List.drop_succ_cons, Fm.sizeL]; omega
theorem X8R (w : Nat) : ∀ f : Fm, X0w f = true -> ∀ c cl D, c + 2 * f.depth <= D -> (layF w f c cl).length + 1 + c <= (4103 + D) * f.size := Fm.ind fun k n t l ih hf c cl D hD => by
 have hsz : 1 <= (Fm.mk k n t l).size := by rw [Fm.size_eq]; omega
 rw [layF];split
 ·have := X2N _ hf;have e : (4103 + D) * (Fm.mk k n t l).size = 4101 * (Fm.mk k n t l).size + (2 + D) * (Fm.mk k n t l).size := by rw [<- Nat.add_mul]; congr 1; omega
  have : (2 + D) * 1 <= (2 + D) * (Fm.mk k n t l).size := Nat.mul_le_mul_left _ hsz;omega
 rename_i hc;simp only [not_or, Decidable.not_not] at hc;obtain ⟨_, hk, hl⟩ := hc;have hf' := hf;rw [X1Y] at hf';simp only [Bool.and_eq_true] at hf';obtain ⟨_, h2⟩ := hf';simp only [Fm.l] at h2;have hs : (Fm.mk k n t l).size = 1 + Fm.sizeL l := by rw [Fm.size_eq, if_pos (show (Fm.mk k n t l).k = 3 from hk)]; rfl
 have hdk : ∀ g ∈ l, g.depth + 1 <= (Fm.mk k n t l).depth := fun g hg => X8y (f := Fm.mk k n t l) hk hg
 rw [X8P];have hind : (if X0I l = 0 then c + 1 else c + 2) <= c + 2 := by split <;> omega
 generalize (if X0I l = 0 then c + 1 else c + 2) = ind at hind;generalize (!decide (X0I l = 0)) = nl;have key : ∀ (r : List Fm) (nl : Bool), (∀ g ∈ r, g ∈ l) -> (layL w r 0 nl ind cl).length <= (4103 + D) * Fm.sizeL r := by
  intro r
  induction r with
  | nil => intro nl _; simp [layL]
  | cons g r ihr =>
   intro nl hr;have hg := hr g (by simp);have h1 := ih g hg (X2v h2 g hg) ind (if r = [] then cl + 1 else 0) D (by have := hdk g hg; omega);have h2' := ihr true fun x hx => hr x (List.mem_cons_of_mem _ hx)
   rw [layL];simp only [List.length_append, Fm.sizeL, Nat.mul_add];have : (if nl = true then 10 :: X0M ind else []).length <= 1 + ind := by split <;> simp [X0M] <;> omega
   omega
 have k1 := key (l.drop (X0I l)) nl fun g hg => List.mem_of_mem_drop hg
 have k2 := Y9J (w := w) (A := 4103 + D) (by omega) l (fun f hm => X2v h2 f hm);have k3 := Y0F l (X0I l);rw [hs, Nat.mul_add, Nat.mul_one, <- k3, Nat.mul_add];simp only [List.length_cons, List.length_append, List.length_nil];omega
def segK (w : Nat) (l : List Fm) (ind cl i : Nat) : List UInt8 := (if i = 0 then [] else 10 :: X0M ind) ++ layF w (l.getD i (Fm.mk 0 0 [] [])) ind (if i + 1 = l.length then cl + 1 else 0)
def sufK (w : Nat) (l : List Fm) (ind cl : Nat) : Nat -> Nat -> List UInt8
 | _, 0 => []
 | i, m + 1 => segK w l ind cl i ++ sufK w l ind cl (i + 1) m
theorem Z0A (w : Nat) (l : List Fm) (ind cl : Nat) : ∀ (m i : Nat), i + m = l.length -> sufK w l ind cl i m = layL w (l.drop i) 0 (!decide (i = 0)) ind cl
 | 0, i, h => by rw [List.drop_of_length_le (by omega), layL, sufK]
 | m + 1, i, h => by
  have hi : i < l.length := by omega
  rw [List.drop_eq_getElem_cons hi, layL, sufK, Z0A w l ind cl m (i + 1) (by omega)];have e1 : (!decide (i + 1 = 0)) = true := by simp
  have e2 : l.getD i (Fm.mk 0 0 [] []) = l[i] := X09 hi _;have e3 : (l.drop (i + 1) = []) ↔ i + 1 = l.length := by rw [List.drop_eq_nil_iff]; omega
  unfold segK;rw [e1, e2, List.append_assoc]
  congr 1
  ·by_cases c : i = 0
   ·subst c; rfl
   rw [if_neg c, if_pos (by simp [c])]
  congr 2
  by_cases c : i + 1 = l.length
  ·rw [if_pos c, if_pos (e3.2 c)]
  rw [if_neg c, if_neg (fun h => c (e3.1 h))]
theorem Y40 : ∀ l : List Fm, X0I l <= l.length
 | [] => by simp [X0I]
 | [h] => by by_cases hk : h.k = 1 <;> simp [X0I, hk]
 | h :: g :: r => by
  by_cases hk : h.k = 1
  ·by_cases hg : g.k = 3
   ·simp [X0I, hk, hg]
   simp [X0I, hk, hg]
  simp [X0I, hk]
theorem Y0l {w : Nat} {f : Fm} {c cl : Nat} (h : ¬ (c + (wr f).length + cl <= w \/ f.k ≠ 3 \/ f.l = [])) : layF w f c cl = 40 :: X0F f.l ++ (sufK w f.l (if X0I f.l = 0 then c + 1 else c + 2) cl (X0I f.l) (f.l.length - X0I f.l) ++ [41]) := by
 have hm := Y40 f.l;rw [Y1F, if_neg h, X8P, Z0A _ _ _ _ _ _ (by omega)];rfl
theorem Y9T (f : Fm) : Y18 f = some (hdW f) := by rw [Z1P]; rfl
theorem Y9K {f : Fm} (hv : X0H f = true) (hb : f.big <= 4611686018427387000) (hk : f.k = 3) (hl : f.l ≠ []) : Y0U f = some (40 :: X0F f.l, (X0I f.l : Int), ()) := by
 have hkids := fun g hg => X6c (f := f) (g := g) hv hg
 have hbk := fun g hg => X2r (l := f.l) (f := g) hg
 have hbl := X2h f;unfold Y0U;rw [Fm.eta_eq, Y9T];simp only [Option.bind_some];cases hfl : f.l with
 | nil => exact absurd hfl hl
 | cons h r =>
  rw [hfl] at hkids hbk hbl;have hd : hdW f = if h.k = 1 then h.t else [] := by unfold hdW; rw [if_pos hk, hfl]
  by_cases hk1 : h.k = 1
  ·have hfh := (X0E (hkids h (by simp))).1;have htne : h.t ≠ [] := by
    have hf' := hfh;rw [X1Y] at hf';simp only [Bool.and_eq_true] at hf';have := hf'.1;unfold X1J at this;rw [if_neg (by rw [hk1]; decide), if_pos hk1] at this;simp only [X9o, Bool.and_eq_true, decide_eq_true_eq] at this;exact this.1.1.1
   have hlen := X2N h hfh;rw [X7L hk1 hfh] at hlen;have hsz := (X0E (hkids h (by simp))).2;rw [hd, if_pos hk1, decide_eq_false htne, cond_false];cases r with
   | nil =>
    have e1 : X0I [h] = 1 := by simp [X0I, hk1]
    have e2 : X0F [h] = h.t := by simp [X0F, hk1]
    have x1 : (ixOK 1 [h].length || !decide ((([h] : List Fm).length : Int) > 1)) = true := by simp
    have x2 : decide ((([h] : List Fm).length : Int) > 1) = false := by simp
    rw [x1, x2, e1, e2];simp only [cond_true, cond_false, List.length_cons, List.length_nil];rw [decide_eq_true (by omega)];rfl
   | cons g r' =>
    have hfg := (X0E (hkids g (by simp))).1;have x0 : ixOK 1 (h :: g :: r').length = true := X0e.2 (by simp only [List.length_cons]; omega);have x2 : decide (((h :: g :: r').length : Int) > 1) = true := by apply decide_eq_true; simp only [List.length_cons]; omega
    have g1 : (h :: g :: r').getD (1 : Int).toNat (Fm.mk 0 0 [] []) = g := rfl;rw [x0, x2, g1];simp only [Bool.true_or, cond_true]
    by_cases hg3 : g.k = 3
    ·have e1 : X0I (h :: g :: r') = 1 := by simp [X0I, hk1, hg3]
     have e2 : X0F (h :: g :: r') = h.t := by simp [X0F, hk1, hg3]
     rw [decide_eq_true hg3, e1, e2];simp only [Bool.not_true, cond_false, List.length_cons, List.length_nil];rw [decide_eq_true (by omega)];rfl
    have e1 : X0I (h :: g :: r') = 2 := by simp [X0I, hk1, hg3]
    have e2 : X0F (h :: g :: r') = h.t ++ (32 :: wr g) := by simp [X0F, hk1, hg3]
    have hlg := X2N g hfg;have hszg := (X0E (hkids g (by simp))).2;have hbg := hbk g (by simp);rw [decide_eq_false hg3, e1, e2];simp only [Bool.not_false, cond_true, List.length_cons, List.length_nil, List.length_append, Fm.eta_eq, Y0x (show g.big <= 4611686018427387000 by omega), Y6L (hkids g (by simp)), Option.bind_some];rw [decide_eq_true (by omega), decide_eq_true (by omega), decide_eq_true (by omega)];simp
  have e1 : X0I (h :: r) = 0 := by simp [X0I, hk1]
  have e2 : X0F (h :: r) = [] := by simp [X0F, hk1]
  rw [hd, if_neg hk1, e1, e2];rfl
theorem X81 {c : Int} {b : Bool} {w : Int} {l : List Int} (h : l.length + 1 <= 140737488355328) : X3R c (b, (), w, ()) l = some (true, ((true, (), w, ()), l ++ [c], ())) := by
 unfold X3R;simp only [Option.bind_some, List.length_cons, List.length_nil, Nat.mul_one, Nat.zero_add];rw [decide_eq_true h];rfl
theorem X6D {x : List UInt8} {b : Bool} {w : Int} {l : List Int} (h : l.length + x.length <= 140737488355328) : X4w x (b, (), w, ()) l = some (((x.length : Int), true, ()), ((true, (), w, ()), l ++ X0f x, ())) := by
 unfold X4w;simp only [Option.bind_some, List.length_map, Nat.mul_one];rw [decide_eq_true h];rfl
theorem Y0A : ∀ n : Nat, Lib.repeatL [32] n = X0M n
 | 0 => rfl
 | n + 1 => by rw [Lib.repeatL, Y0A n]; rfl
theorem Y5a {n : Nat} {b : Bool} {w : Int} {l : List Int} (hn : n <= 1000000) (h : l.length + 1 + n <= 140737488355328) : X3S (n : Int) (b, (), w, ()) l = some ((), ((true, (), w, ()), l ++ X0f (10 :: X0M n), ())) := by
 unfold X3S repF;rw [X81 (by omega)];simp only [Option.bind_some];rw [if_pos ⟨rfl, by omega, by omega⟩, Int.toNat_natCast, Y0A];simp only [Option.bind_some];rw [X6D (by simp only [List.length_append, List.length_cons, List.length_nil, X0M, List.length_replicate]; omega)];simp only [Option.bind_some];rw [show (10 :: X0M n : List UInt8) = [10] ++ X0M n from rfl, <- X0k, <- List.append_assoc];rfl
theorem Y91 (f : Fm) : Y0V f = some (decide (f.k ≠ 3 \/ f.l = [])) := by
 unfold Y0V;rw [len0]
 by_cases h : f.k = 3
 ·by_cases h2 : f.l = [] <;> simp [h, h2]
 simp [h]
theorem Y0u (w : Nat) : ∀ (k : Nat) (f : Fm) (c cl : Nat) (b : Bool) (l : List Int) (D : Nat), X0H f = true -> f.big <= 4611686018427387000 -> c + 2 * f.depth <= D -> D <= 1000 -> cl + f.depth <= 1000 -> l.length + (layF w f c cl).length <= 100000000000 ->
  Up (k < f.big) (X2X k f (c : Int) (cl : Int) (b, (), (w : Int), ()) l) ((), ((true, (), (w : Int), ()), l ++ X0f (layF w f c cl), ()))
 | 0, f, c, cl, b, l, D, hv, hb, hD, hD2, hcl, hl => .inr ⟨by unfold X2X; rfl, by have := X2s f; omega⟩
 | k + 1, f, c, cl, b, l, D, hv, hb, hD, hD2, hcl, hl => by
  have hff := (X0E hv).1;have hfs := (X0E hv).2;have hwl := X2N f hff;have hll := X8R w f hff c cl D hD;unfold X2X;rw [Fm.eta_eq, Y0x hb, Y6L hv];simp only [Option.bind_some, Y91];rw [show IntKind.wrap .i64 ((c : Int) + ((wr f).length : Int)) = ((c + (wr f).length : Nat) : Int) by rw [w64 (by omega) (by omega)]; omega];rw [show IntKind.wrap .i64 (((c + (wr f).length : Nat) : Int) + (cl : Int)) = ((c + (wr f).length + cl : Nat) : Int) by rw [w64 (by omega) (by omega)]; omega]
  by_cases hc : c + (wr f).length + cl <= w \/ f.k ≠ 3 \/ f.l = []
  ·have e0 : cond (decide (f.k ≠ 3 \/ f.l = [])) true (decide (((c + (wr f).length + cl : Nat) : Int) <= (w : Int))) = true := by
    rcases hc with h | h
    ·rw [decide_eq_true (show ((c + (wr f).length + cl : Nat) : Int) <= (w : Int) by omega)]; cases decide (f.k ≠ 3 \/ f.l = []) <;> rfl
    rw [decide_eq_true h]; rfl
   have e1 : layF w f c cl = wr f := by rw [Y1F, if_pos hc]
   rw [e0, cond_true, e1, X6D (by rw [e1] at hll; omega)];exact .of rfl
  have hbr := Y0l hc;simp only [not_or, Decidable.not_not] at hc;obtain ⟨hc1, hc2, hc3⟩ := hc;have e0 : cond (decide (f.k ≠ 3 \/ f.l = [])) true (decide (((c + (wr f).length + cl : Nat) : Int) <= (w : Int))) = false := by
   rw [decide_eq_false (show ¬ ((c + (wr f).length + cl : Nat) : Int) <= (w : Int) by omega), decide_eq_false (show ¬ (f.k ≠ 3 \/ f.l = []) from fun h => h.elim (fun h => h hc2) hc3)];rfl
  rw [e0, cond_false, Y9K hv hb hc2 hc3];simp only [Option.bind_some];have hm := Y40 f.l;have hbk := X2h f;have hlb := X07 f.l;obtain ⟨ind, hind⟩ : ∃ ind, ind = (if X0I f.l = 0 then c + 1 else c + 2) := ⟨_, rfl⟩;have hind2 : ind <= c + 2 := by rw [hind]; split <;> omega
  rw [<- hind] at hbr;have htot : (40 :: X0F f.l).length + (sufK w f.l ind cl (X0I f.l) (f.l.length - X0I f.l)).length + 1 = (layF w f c cl).length := by
   rw [hbr]; simp only [List.length_append, List.length_cons, List.length_nil]; omega
  rw [X6D (by omega)];simp only [Option.bind_some];have w1 : IntKind.wrap .i64 ((c : Int) + 1) = ((c + 1 : Nat) : Int) := wrapN (by omega);have w2 : IntKind.wrap .i64 ((c : Int) + 2) = ((c + 2 : Nat) : Int) := by rw [w64 (by omega) (by omega)]; omega
  refine Up.bind (v := (((), (cl : Int), (f.k, f.n, f.t, f.l, ()), (X0I f.l : Int), (ind : Int), ()), ((true, (), (w : Int), ()), l ++ X0f (40 :: X0F f.l), ()))) (.of ?_) ?_
  ·rw [w1, w2, hind]
   by_cases c0 : X0I f.l = 0
   ·rw [decide_eq_true (show (X0I f.l : Int) = 0 by omega), if_pos c0, cond_true]
   rw [decide_eq_false (show ¬ (X0I f.l : Int) = 0 by omega), if_neg c0, cond_false]
  dsimp only
  refine X47 (fun d => ∃ (i : Nat) (o : List UInt8), d = (((), (cl : Int), (f.k, f.n, f.t, f.l, ()), (ind : Int), (i : Int), ()), ((true, (), (w : Int), ()), l ++ X0f o, ())) /\ i <= f.l.length /\ o ++ (sufK w f.l ind cl i (f.l.length - i) ++ [41]) = layF w f c cl) (fun d => f.l.length - d.1.2.2.2.2.1.toNat) ?_
   ⟨X0I f.l, 40 :: X0F f.l, rfl, hm, hbr.symm⟩
  rintro d ⟨i, o, rfl, hi, ho⟩;have hol : o.length + (sufK w f.l ind cl i (f.l.length - i)).length + 1 = (layF w f c cl).length := by
   rw [<- ho]; simp only [List.length_append, List.length_cons, List.length_nil]; omega
  dsimp only
  by_cases hi' : i < f.l.length
  ·have e1 : decide ((i : Int) < (f.l.length : Int)) = true := by simp [hi']
   have e2 : ixOK (i : Int) f.l.length = true := X0e.2 (by omega);have hmem := List.getElem_mem hi';have hkv := X6c hv hmem;have hkd := X8y hc2 hmem;have hkb := X2r hmem;have hkf := (X0E hkv).1;have hkl := X8R w f.l[i] hkf ind (if i + 1 = f.l.length then cl + 1 else 0) D (by omega);have hks : f.l[i].size <= f.size := by
    have hs : f.size = 1 + Fm.sizeL f.l := by rw [Fm.size_eq, if_pos hc2]
    have a1 := X3i f.l hi';have a2 := X1T f.l (i + 1);omega
   have esuf : sufK w f.l ind cl i (f.l.length - i) = segK w f.l ind cl i ++ sufK w f.l ind cl (i + 1) (f.l.length - (i + 1)) := by
    rw [show f.l.length - i = (f.l.length - (i + 1)) + 1 by omega]; rfl
   have eseg : segK w f.l ind cl i = (if i = 0 then [] else 10 :: X0M ind) ++ layF w f.l[i] ind (if i + 1 = f.l.length then cl + 1 else 0) := by unfold segK; rw [X09 hi']
   have hsegl : (segK w f.l ind cl i).length + (sufK w f.l ind cl (i + 1) (f.l.length - (i + 1))).length = (sufK w f.l ind cl i (f.l.length - i)).length := by rw [esuf, List.length_append]
   have hbl : ((if i = 0 then [] else 10 :: X0M ind : List UInt8)).length + (layF w f.l[i] ind (if i + 1 = f.l.length then cl + 1 else 0)).length = (segK w f.l ind cl i).length := by rw [eseg, List.length_append]
   rw [e1, cond_true]
   have step1 : ∀ {A : Type} (F : (Unit × Int × (Int × Int × List UInt8 × (List Fm) × Unit) × Int × Int × Unit) × ((Bool × Unit × Int × Unit) × (List Int) × Unit) -> Option A),
     Option.bind (cond (decide ((i : Int) > 0)) (Option.bind (α := (Unit) × ((Bool × Unit × Int × Unit) × (List Int) × Unit)) (X3S (ind : Int) (true, (), (w : Int), ()) (l ++ X0f o)) fun r16 => (
      some (((), (cl : Int), (f.k, f.n, f.t, f.l, ()), (ind : Int), (i : Int), ()), ((r16.2.1.1, (), r16.2.1.2.2.1, ()), r16.2.2.1, ())))) (some (((), (cl : Int), (f.k, f.n, f.t, f.l, ()), (ind : Int), (i : Int), ()), ((true, (), (w : Int), ()), l ++ X0f o, ())))) F =
     F (((), (cl : Int), (f.k, f.n, f.t, f.l, ()), (ind : Int), (i : Int), ()), ((true, (), (w : Int), ()), l ++ X0f (o ++ (if i = 0 then [] else 10 :: X0M ind)), ())) := by
    intro A F
    by_cases c0 : i = 0
    ·rw [decide_eq_false (show ¬ (i : Int) > 0 by omega), if_pos c0, List.append_nil]; rfl
    rw [decide_eq_true (show (i : Int) > 0 by omega), cond_true, if_neg c0, Y5a (by omega) (by
     rw [if_neg c0] at hbl;simp only [List.length_cons, X0M, List.length_replicate] at hbl;rw [List.length_append, X0J]; omega)]
    simp only [Option.bind_some];rw [<- X0k, List.append_assoc]
   rw [step1];dsimp only;rw [show IntKind.wrap .i64 ((f.l.length : Int) - 1) = ((f.l.length - 1 : Nat) : Int) by rw [w64 (by omega) (by omega)]; omega]
   have step2 : ∀ {A : Type} (o' : List Int) (F : (Unit × Int × (Int × Int × List UInt8 × (List Fm) × Unit) × Int × Int × Int × Unit) × ((Bool × Unit × Int × Unit) × (List Int) × Unit) -> Option A),
     Option.bind (cond (decide ((i : Int) = ((f.l.length - 1 : Nat) : Int))) (some (((), (cl : Int), (f.k, f.n, f.t, f.l, ()), (ind : Int), (i : Int), IntKind.wrap .i64 ((cl : Int) + 1), ()), ((true, (), (w : Int), ()), o', ()))) (some (((), (cl : Int), (f.k, f.n, f.t, f.l, ()), (ind : Int), (i : Int), 0, ()), ((true, (), (w : Int), ()), o', ())))) F =
     F (((), (cl : Int), (f.k, f.n, f.t, f.l, ()), (ind : Int), (i : Int), (((if i + 1 = f.l.length then cl + 1 else 0 : Nat)) : Int), ()), ((true, (), (w : Int), ()), o', ())) := by
    intro A o' F
    by_cases c0 : i + 1 = f.l.length
    ·rw [decide_eq_true (show (i : Int) = ((f.l.length - 1 : Nat) : Int) by omega), if_pos c0, wrapN (by omega)]; rfl
    rw [decide_eq_false (show ¬ (i : Int) = ((f.l.length - 1 : Nat) : Int) by omega), if_neg c0]; rfl
   rw [step2];dsimp only;rw [e2, cond_true, Fm.eta_eq, Int.toNat_natCast, X09 hi'];have hprod : (4103 + D) * f.l[i].size <= (4103 + D) * f.size := Nat.mul_le_mul_left _ hks;have hfit : (o ++ (if i = 0 then [] else 10 :: X0M ind)).length + (layF w f.l[i] ind (if i + 1 = f.l.length then cl + 1 else 0)).length <= (layF w f c cl).length := by rw [List.length_append]; omega
   rcases Y0u w k f.l[i] ind (if i + 1 = f.l.length then cl + 1 else 0) true (l ++ X0f (o ++ (if i = 0 then [] else 10 :: X0M ind))) D hkv (by omega) (by omega) hD2 (by split <;> omega) (by
     rw [List.length_append, X0J];omega) with h | ⟨h, hn⟩
   ·left;rw [h];refine ⟨_, rfl, ⟨i + 1, o ++ segK w f.l ind cl i, ?_, by omega, ?_⟩, ?_⟩
    ·rw [wrapN (show i < 4611686018427387904 by omega), eseg, <- X0k, <- X0k, <- X0k];simp only [List.append_assoc]
    ·rw [<- ho, esuf]; simp only [List.append_assoc]
    rw [wrapN (show i < 4611686018427387904 by omega)]; simp only [Int.toNat_natCast]; omega
   right; right;rw [h];exact ⟨rfl, by omega⟩
  have hie : i = f.l.length := by omega
  subst hie;have e1 : decide ((f.l.length : Int) < (f.l.length : Int)) = false := by simp
  right; left;rw [e1, cond_false];refine ⟨_, rfl, .of ?_⟩;have ez : sufK w f.l ind cl f.l.length (f.l.length - f.l.length) = [] := by rw [Nat.sub_self]; rfl
  rw [ez] at ho hol;dsimp only;rw [X81 (by rw [List.length_append, X0J]; omega), <- ho, List.nil_append, <- X0k, <- List.append_assoc];rfl
theorem Y49 {w : Nat} {f : Fm} {b : Bool} {l : List Int} (hv : X0H f = true) (hb : f.big <= 4611686018427387000) (hl : l.length <= 1000000000) : X7V f 0 0 (b, (), (w : Int), ()) l = some ((), ((true, (), (w : Int), ()), l ++ X0f (layF w f 0 0), ())) := by
 have hd := X5v hv;have hs := (X0E hv).2;have h1 : (4103 + 200) * f.size <= (4103 + 200) * 20000 := Nat.mul_le_mul_left _ hs;have h2 := X8R w f (X0E hv).1 0 0 200 (by omega);exact X4g (b := f.big) fun k => Y0u w k f 0 0 b l 200 hv hb (by omega) (by omega) (by omega) (by omega)
theorem Y5c {n : Nat} (hn : n <= 1000000) : X3T (n : Int) = some (X0M n) := by
 refine Up.get ?_;unfold X3T;refine X2x (N := False) (A := List UInt8) (fun i => (((n : Int), X0M i, (i : Int), ()), ())) (fun i => X0M n) n (fun i hi => ?_) ?_
 ·have e1 : decide ((i : Int) < (n : Int)) = true := by simp [hi]
  refine .inl ⟨?_, rfl⟩;simp only [e1, cond_true, List.length_cons, List.length_nil, wrapN (show i < 4611686018427387904 by omega)];rw [decide_eq_true (by simp only [X0M, List.length_replicate]; omega), cond_true];have : X0M i ++ [32] = X0M (i + 1) := by unfold X0M; rw [List.replicate_succ']
  rw [this]
 exact ⟨_, by simp only [show decide ((n : Int) < (n : Int)) = false by simp, cond_false]; rfl, .of rfl⟩
theorem Y3H (w : Nat) (hw : w <= 1000) : ∀ (k : Nat) (f : Fm) (c cl D : Nat), X0H f = true -> f.big <= 4611686018427387000 -> c + 2 * f.depth <= D -> D <= 1000 -> cl + f.depth <= 1000 ->
  Up (k < f.big) (X4x k f (c : Int) (w : Int) (cl : Int)) (layF w f c cl)
 | 0, f, c, cl, D, hv, hb, hD, hD2, hcl => .inr ⟨by unfold X4x; rfl, by have := X2s f; omega⟩
 | k + 1, f, c, cl, D, hv, hb, hD, hD2, hcl => by
  have hff := (X0E hv).1;have hfs := (X0E hv).2;have hwl := X2N f hff;have hll := X8R w f hff c cl D hD;have hK : (4103 + D) * f.size <= 5103 * 20000 := Nat.mul_le_mul (by omega) hfs;unfold X4x;rw [Fm.eta_eq, X66 hb, Y6L hv];simp only [Option.bind_some];rw [show IntKind.wrap .i64 ((c : Int) + ((wr f).length : Int)) = ((c + (wr f).length : Nat) : Int) by rw [w64 (by omega) (by omega)]; omega];rw [show IntKind.wrap .i64 (((c + (wr f).length : Nat) : Int) + (cl : Int)) = ((c + (wr f).length + cl : Nat) : Int) by rw [w64 (by omega) (by omega)]; omega, len0]
  by_cases hc : c + (wr f).length + cl <= w \/ f.k ≠ 3 \/ f.l = []
  ·have e0 : cond (cond (decide (((c + (wr f).length + cl : Nat) : Int) <= (w : Int))) true (!decide (f.k = 3))) true (decide (f.l = [])) = true := by
    rcases hc with h | h | h
    ·rw [decide_eq_true (show ((c + (wr f).length + cl : Nat) : Int) <= (w : Int) by omega)]; rfl
    ·rw [decide_eq_false h]; cases decide (((c + (wr f).length + cl : Nat) : Int) <= (w : Int)) <;> rfl
    rw [decide_eq_true h]; cases cond (decide (((c + (wr f).length + cl : Nat) : Int) <= (w : Int))) true (!decide (f.k = 3)) <;> rfl
   have e1 : layF w f c cl = wr f := by rw [Y1F, if_pos hc]
   rw [e0, cond_true, e1];exact .of rfl
  have hbr := Y0l hc;simp only [not_or, Decidable.not_not] at hc;obtain ⟨hc1, hc2, hc3⟩ := hc;have e0 : cond (cond (decide (((c + (wr f).length + cl : Nat) : Int) <= (w : Int))) true (!decide (f.k = 3))) true (decide (f.l = [])) = false := by
   rw [decide_eq_false (show ¬ ((c + (wr f).length + cl : Nat) : Int) <= (w : Int) by omega), decide_eq_true hc2, decide_eq_false hc3]; rfl
  rw [e0, cond_false];have hm := Y40 f.l;have hbk := X2h f;have hlb := X07 f.l;obtain ⟨ind, hind⟩ : ∃ ind, ind = (if X0I f.l = 0 then c + 1 else c + 2) := ⟨_, rfl⟩;have hind2 : ind <= c + 2 := by rw [hind]; split <;> omega
  rw [<- hind] at hbr;have htot : (40 :: X0F f.l).length + (sufK w f.l ind cl (X0I f.l) (f.l.length - X0I f.l)).length + 1 = (layF w f c cl).length := by
   rw [hbr]; simp only [List.length_append, List.length_cons, List.length_nil]; omega
  have w1 : IntKind.wrap .i64 ((c : Int) + 1) = ((c + 1 : Nat) : Int) := wrapN (by omega);have w2 : IntKind.wrap .i64 ((c : Int) + 2) = ((c + 2 : Nat) : Int) := by rw [w64 (by omega) (by omega)]; omega
  refine Up.bind (v := (((w : Int), (cl : Int), (f.k, f.n, f.t, f.l, ()), 40 :: X0F f.l, (X0I f.l : Int), (ind : Int), ()), ())) (.of ?_) ?_
  ·have hkids := fun g hg => X6c (f := f) (g := g) hv hg
   have hbkk := fun g hg => X2r (l := f.l) (f := g) hg
   rw [w1, w2];clear hbr htot hll hm;generalize f.l = l at hc3 hkids hbkk hind hbk hlb;cases l with
   | nil => exact absurd rfl hc3
   | cons h r =>
    have x0 : ixOK 0 (h :: r).length = true := X0e.2 (by simp only [List.length_cons]; omega);have g0 : (h :: r).getD (0 : Int).toNat (Fm.mk 0 0 [] []) = h := rfl;rw [x0, g0];simp only [cond_true]
    by_cases hk1 : h.k = 1
    ·have hfh := (X0E (hkids h (by simp))).1;have hlen := X2N h hfh;rw [X7L hk1 hfh] at hlen;have hsz := (X0E (hkids h (by simp))).2;rw [decide_eq_true hk1, cond_true];simp only [List.length_cons, List.length_nil];rw [decide_eq_true (by omega), cond_true];cases r with
     | nil =>
      have e1 : X0I [h] = 1 := by simp [X0I, hk1]
      have e2 : X0F [h] = h.t := by simp [X0F, hk1]
      rw [e1] at hind;rw [e1, e2, hind];rfl
     | cons g r' =>
      have hfg := (X0E (hkids g (by simp))).1;have x1 : ixOK 1 ((r'.length + 1) + 1) = true := X0e.2 (by omega);have x2 : decide ((((r'.length + 1) + 1 : Nat) : Int) > 1) = true := by apply decide_eq_true; omega
      have g1 : (h :: g :: r').getD (1 : Int).toNat (Fm.mk 0 0 [] []) = g := rfl;simp only [List.length_cons];rw [x1, x2, g1];simp only [Bool.true_or, cond_true]
      by_cases hg3 : g.k = 3
      ·have e1 : X0I (h :: g :: r') = 1 := by simp [X0I, hk1, hg3]
       have e2 : X0F (h :: g :: r') = h.t := by simp [X0F, hk1, hg3]
       rw [e1] at hind;rw [decide_eq_true hg3, e1, e2, hind];rfl
      have e1 : X0I (h :: g :: r') = 2 := by simp [X0I, hk1, hg3]
      have e2 : X0F (h :: g :: r') = h.t ++ (32 :: wr g) := by simp [X0F, hk1, hg3]
      have hlg := X2N g hfg;have hszg := (X0E (hkids g (by simp))).2;have hbg := hbkk g (by simp);rw [e1] at hind;rw [decide_eq_false hg3, e1, e2, hind];simp only [Bool.not_false, cond_true, List.length_cons, List.length_nil, List.length_append, Fm.eta_eq, X66 (show g.big <= 4611686018427387000 by omega), Y6L (hkids g (by simp)), Option.bind_some];rw [decide_eq_true (by omega), decide_eq_true (by omega)];simp
    have e1 : X0I (h :: r) = 0 := by simp [X0I, hk1]
    have e2 : X0F (h :: r) = [] := by simp [X0F, hk1]
    rw [e1] at hind;rw [decide_eq_false hk1, e1, e2, hind];rfl
  dsimp only
  refine X47 (fun d => ∃ (i : Nat) (o : List UInt8), d = (((w : Int), (cl : Int), (f.k, f.n, f.t, f.l, ()), o, (ind : Int), (i : Int), ()), ()) /\ i <= f.l.length /\ o ++ (sufK w f.l ind cl i (f.l.length - i) ++ [41]) = layF w f c cl) (fun d => f.l.length - d.1.2.2.2.2.2.1.toNat) ?_
   ⟨X0I f.l, 40 :: X0F f.l, rfl, hm, hbr.symm⟩
  rintro d ⟨i, o, rfl, hi, ho⟩;have hol : o.length + (sufK w f.l ind cl i (f.l.length - i)).length + 1 = (layF w f c cl).length := by
   rw [<- ho]; simp only [List.length_append, List.length_cons, List.length_nil]; omega
  dsimp only
  by_cases hi' : i < f.l.length
  ·have e1 : decide ((i : Int) < (f.l.length : Int)) = true := by simp [hi']
   have e2 : ixOK (i : Int) f.l.length = true := X0e.2 (by omega);have hmem := List.getElem_mem hi';have hkv := X6c hv hmem;have hkd := X8y hc2 hmem;have hkb := X2r hmem;have esuf : sufK w f.l ind cl i (f.l.length - i) = segK w f.l ind cl i ++ sufK w f.l ind cl (i + 1) (f.l.length - (i + 1)) := by
    rw [show f.l.length - i = (f.l.length - (i + 1)) + 1 by omega]; rfl
   have eseg : segK w f.l ind cl i = (if i = 0 then [] else 10 :: X0M ind) ++ layF w f.l[i] ind (if i + 1 = f.l.length then cl + 1 else 0) := by unfold segK; rw [X09 hi']
   have hsegl : (segK w f.l ind cl i).length + (sufK w f.l ind cl (i + 1) (f.l.length - (i + 1))).length = (sufK w f.l ind cl i (f.l.length - i)).length := by rw [esuf, List.length_append]
   have hbl : ((if i = 0 then [] else 10 :: X0M ind : List UInt8)).length + (layF w f.l[i] ind (if i + 1 = f.l.length then cl + 1 else 0)).length = (segK w f.l ind cl i).length := by rw [eseg, List.length_append]
   rw [e1, cond_true, wrapN (show i < 4611686018427387904 by omega)]
   have step2 : ∀ {A : Type} (F : (Int × Int × (Int × Int × List UInt8 × (List Fm) × Unit) × List UInt8 × Int × Int × Int × Unit) × (Unit) -> Option A),
     Option.bind (cond (decide (((i + 1 : Nat) : Int) = (f.l.length : Int))) (some (((w : Int), (cl : Int), (f.k, f.n, f.t, f.l, ()), o, (ind : Int), (i : Int), IntKind.wrap .i64 ((cl : Int) + 1), ()), ())) (some (((w : Int), (cl : Int), (f.k, f.n, f.t, f.l, ()), o, (ind : Int), (i : Int), 0, ()), ()))) F =
     F (((w : Int), (cl : Int), (f.k, f.n, f.t, f.l, ()), o, (ind : Int), (i : Int), (((if i + 1 = f.l.length then cl + 1 else 0 : Nat)) : Int), ()), ()) := by
    intro A F
    by_cases c0 : i + 1 = f.l.length
    ·rw [decide_eq_true (show ((i + 1 : Nat) : Int) = (f.l.length : Int) by omega), if_pos c0, wrapN (by omega)]; rfl
    rw [decide_eq_false (show ¬ ((i + 1 : Nat) : Int) = (f.l.length : Int) by omega), if_neg c0]; rfl
   rw [step2];dsimp only;generalize hcl2 : (if i + 1 = f.l.length then cl + 1 else 0 : Nat) = cl2 at eseg hbl;have hcl3 : cl2 <= cl + 1 := by rw [<- hcl2]; split <;> omega
   have step1 : ∀ {A : Type} (F : (Int × Int × (Int × Int × List UInt8 × (List Fm) × Unit) × List UInt8 × Int × Int × Int × Unit) × (Unit) -> Option A),
     Option.bind (cond (decide ((i : Int) > 0)) (cond (decide (o.length + ([10] : List Nat).length <= 9223372036854775807)) (Option.bind (α := List UInt8) (X3T (ind : Int)) fun r22 => (
      cond (decide ((o ++ ([10])).length + r22.length <= 9223372036854775807)) (some (((w : Int), (cl : Int), (f.k, f.n, f.t, f.l, ()), (o ++ ([10])) ++ r22, (ind : Int), (i : Int), (cl2 : Int), ()), ())) none)) none) (some (((w : Int), (cl : Int), (f.k, f.n, f.t, f.l, ()), o, (ind : Int), (i : Int), (cl2 : Int), ()), ()))) F =
     F (((w : Int), (cl : Int), (f.k, f.n, f.t, f.l, ()), o ++ (if i = 0 then [] else 10 :: X0M ind), (ind : Int), (i : Int), (cl2 : Int), ()), ()) := by
    intro A F
    by_cases c0 : i = 0
    ·rw [decide_eq_false (show ¬ (i : Int) > 0 by omega), if_pos c0, List.append_nil]; rfl
    rw [if_neg c0] at hbl;simp only [List.length_cons, X0M, List.length_replicate] at hbl;rw [decide_eq_true (show (i : Int) > 0 by omega), cond_true, if_neg c0, Y5c (by omega)];simp only [Option.bind_some, List.length_append, List.length_cons, List.length_nil, X0M, List.length_replicate];rw [decide_eq_true (by omega), decide_eq_true (by omega)];simp only [cond_true, List.append_assoc];rfl
   rw [step1];dsimp only;rw [e2, cond_true, Fm.eta_eq, Int.toNat_natCast, X09 hi'];rcases Y3H w hw k f.l[i] ind cl2 D hkv (by omega) (by omega) hD2 (by omega) with h | ⟨h, hn⟩
   ·left;rw [h];simp only [Option.bind_some];rw [decide_eq_true (by rw [List.length_append]; omega), cond_true];refine ⟨_, rfl, ⟨i + 1, o ++ segK w f.l ind cl i, ?_, by omega, ?_⟩, ?_⟩
    ·rw [wrapN (show i < 4611686018427387904 by omega), eseg];simp only [List.append_assoc]
    ·rw [<- ho, esuf]; simp only [List.append_assoc]
    rw [wrapN (show i < 4611686018427387904 by omega)]; simp only [Int.toNat_natCast]; omega
   right; right;rw [h];exact ⟨rfl, by omega⟩
  have hie : i = f.l.length := by omega
  subst hie;have e1 : decide ((f.l.length : Int) < (f.l.length : Int)) = false := by simp
  right; left;rw [e1, cond_false];refine ⟨_, rfl, .of ?_⟩;have ez : sufK w f.l ind cl f.l.length (f.l.length - f.l.length) = [] := by rw [Nat.sub_self]; rfl
  rw [ez] at ho hol;dsimp only;simp only [List.length_cons, List.length_nil];rw [decide_eq_true (by omega), <- ho];rfl
theorem Y7J {w : Nat} {f : Fm} (hw : w <= 1000) (hv : X0H f = true) (hb : f.big <= 4611686018427387000) : X7s f 0 (w : Int) 0 = some (layF w f 0 0) := by
 have hd := X5v hv;exact X4g (b := f.big) fun k => Y3H w hw k f 0 0 200 hv hb (by omega) (by omega) (by omega)
def isW (n : Int) : Bool := decide (20 <= n /\ n <= 200)
def fmtS (f : Fm) (n : Int) : List UInt8 × Int × Unit := if isW n = true /\ X0H f = true then (layF n.toNat f 0 0, 0, ()) else ([], 1, ())
theorem X8K (n : Int) : X3O n = some (isW n) := by
 unfold X3O isW
 by_cases h1 : 20 <= n
 ·by_cases h2 : n <= 200
  ·simp [h1, h2]
  simp [h1, h2]
 simp [h1]
theorem Y9Y {n : Int} (h : isW n = true) : ∃ m : Nat, n = m /\ 20 <= m /\ m <= 200 := by
 have := of_decide_eq_true h;exact ⟨n.toNat, by omega, by omega, by omega⟩
theorem Y1G {f : Fm} (n : Int) (hb : f.big <= 4611686018427387000) : X2q f n = some (fmtS f n) := by
 unfold X2q fmtS;rw [X8K];simp only [Option.bind_some, Fm.eta_eq];cases hw : isW n with
 | false => simp
 | true =>
  obtain ⟨m, rfl, h1, h2⟩ := Y9Y hw;simp only [Bool.not_true, Bool.not_false, cond_true, X6G hb, Option.bind_some];cases hv : X0H f with
  | false => simp
  | true =>
   rw [if_pos (by simp), Int.toNat_natCast];simp only [Bool.not_true, cond_false];rw [Y49 hv hb (by simp)];simp only [Option.bind_some, List.nil_append, X4H, Option.map_some]
end Go.Ab
set_option maxHeartbeats 1000000
namespace Go.Ab
open Go Go.RowKit Go.Proofs
def aNL (s : List UInt8) : List UInt8 := s.foldl (fun a c => if c = 10 then [] else a ++ [c]) []
theorem X7x (s : List UInt8) (c : UInt8) : aNL (s ++ [c]) = if c = 10 then [] else aNL s ++ [c] := by unfold aNL; rw [List.foldl_append]; rfl
theorem Y87 (p : List UInt8) : ∀ q : List UInt8, (∀ c ∈ q, c ≠ 10) -> aNL (p ++ q) = aNL p ++ q := by
 intro q
 induction q generalizing p with
 | nil => intro _; simp
 | cons c q ih =>
  intro h;have e : p ++ c :: q = (p ++ [c]) ++ q := by simp
  rw [e, ih (p ++ [c]) fun x hx => h x (by simp [hx]), X7x, if_neg (h c (by simp))];simp
theorem Z3w {q : List UInt8} (h : ∀ c ∈ q, c ≠ 10) : aNL q = q := by
 have := Y87 [] q h
 rwa [List.nil_append, show aNL [] = [] from rfl, List.nil_append] at this
theorem Z5B (p : List UInt8) {q : List UInt8} (h : ∀ c ∈ q, c ≠ 10) : aNL (p ++ (10 :: q)) = q := by
 have e : p ++ 10 :: q = (p ++ [10]) ++ q := by simp
 rw [e, Y87 _ _ h, X7x, if_pos rfl, List.nil_append]
theorem Y54 (p : List UInt8) : ∀ r : List UInt8, (aNL (p ++ r)).all wsB = X6s ((aNL p).all wsB) r := by
 intro r
 induction r generalizing p with
 | nil => rw [List.append_nil]; rfl
 | cons c r ih =>
  have e : p ++ c :: r = (p ++ [c]) ++ r := by simp
  rw [e, ih (p ++ [c]), X6s, X7x]
  congr 1
  by_cases h : c = 10
  ·rw [if_pos h, if_pos h]; rfl
  rw [if_neg h, if_neg h, List.all_append]
  congr 1
  simp [wsB, wsL]
theorem Y4U {s : List UInt8} (hs : s.length <= 1000000000) : ∃ j : Nat, X5z s 10 = some ((j : Int) - 1) /\ j <= s.length /\ s.drop j = aNL s := by
 have inner : ∃ v, X4v s 10 = some v /\ ∃ j : Nat, v = (j : Int) - 1 /\ j <= s.length /\ s.drop j = aNL s := by
  unfold X4v;refine X6M (fun d => ∃ j : Nat, d = ((s, 10, (j : Int) - 1, ()), ()) /\ j <= s.length /\ ∀ c ∈ s.drop j, c ≠ 10) (fun d => (d.1.2.2.1 + 1).toNat) _ ?_ ⟨s.length, by rw [w64 (by omega) (by omega)], Nat.le_refl _, by intro c hc; rw [List.drop_length] at hc; cases hc⟩;rintro d ⟨j, rfl, hj, hn⟩;dsimp only;cases j with
  | zero =>
   right;have e1 : decide ((((0 : Nat) : Int) - 1) >= 0) = false := by decide
   rw [e1, cond_false];refine ⟨_, rfl, _, rfl, 0, rfl, Nat.zero_le _, ?_⟩;rw [List.drop_zero] at hn ⊢;exact (Z3w hn).symm
  | succ j =>
   have e0 : (((j + 1 : Nat) : Int) - 1) = (j : Int) := by omega
   have e1 : decide ((j : Int) >= 0) = true := by apply decide_eq_true; omega
   have hj' : j < s.length := by omega
   have e2 : ixOK (j : Int) s.length = true := X0e.2 (by omega);rw [e0, e1, e2, X2d hj'];simp only [cond_true];have e3 : decide (((s[j].toNat : Nat) : Int) = 10) = decide (s[j] = 10) := X0u s[j] 10 (by decide);rw [e3];have hd := X2k hj'
   by_cases hc : s[j] = 10
   ·right;rw [decide_eq_true hc, cond_true];refine ⟨_, rfl, _, rfl, j + 1, by omega, hj, ?_⟩;have e4 : s = s.take j ++ (10 :: s.drop (j + 1)) := by
     conv => lhs; rw [<- List.take_append_drop j s, hd, hc]
    have e5 : aNL s = aNL (s.take j ++ (10 :: s.drop (j + 1))) := congrArg aNL e4;rw [e5, Z5B _ hn]
   left;rw [decide_eq_false hc, cond_false];refine ⟨_, rfl, ⟨j, by rw [w64 (by omega) (by omega)], by omega, fun c hcm => ?_⟩, by dsimp only; rw [w64 (by omega) (by omega)]; omega⟩;rw [hd] at hcm;rcases List.mem_cons.1 hcm with rfl | hcm
   ·exact hc
   exact hn c hcm
 obtain ⟨v, hv, j, rfl, h1, h2⟩ := inner;refine ⟨j, ?_, h1, h2⟩;unfold X5z;rw [hv]; rfl
theorem Z0C (s : List UInt8) : (Y0L s = []) ↔ s.all wsB = true := by
 unfold Y0L;rw [X6K _ _ _ (Nat.le_refl _), List.take_length, List.all_eq_true];rfl
theorem Y7Z {s : List UInt8} (hs : s.length <= 1000000000) : Y0K s [32, 9] = some (Y0L s) := by
 unfold Y0K;rw [if_pos ⟨rfl, by omega⟩]
theorem X7C (l : List UInt8) : (Lib.indexByte l 10 < 0 -> (l.takeWhile n10).length = l.length) /\ (0 <= Lib.indexByte l 10 -> ((l.takeWhile n10).length : Int) = Lib.indexByte l 10) /\ l.drop (l.takeWhile n10).length = X0U l /\ l.take (l.takeWhile n10).length = l.takeWhile n10 /\ (l.takeWhile n10).length <= l.length := by
 have h := X4h l;have e : l.takeWhile n10 ++ X0U l = l := List.takeWhile_append_dropWhile;have el := congrArg List.length e;rw [List.length_append] at el;refine ⟨fun hn => ?_, fun hp => ?_, ?_, ?_, by omega⟩
 ·have h1 : X0U l = [] := h.1 hn;rw [h1] at el; simpa using el
 ·obtain ⟨a, b⟩ := h.2 hp;have a : X0U l = l.drop (Lib.indexByte l 10).toNat := a;have := congrArg List.length a;rw [List.length_drop] at this;omega
 ·have h1 := List.drop_left (l₁ := l.takeWhile n10) (l₂ := X0U l)
  rwa [e] at h1
 have h1 := List.take_left (l₁ := l.takeWhile n10) (l₂ := X0U l)
 rwa [e] at h1
theorem Y3X (s : List UInt8) (i e : Nat) : s.take (i + e) = s.take i ++ (s.drop i).take e := by rw [List.take_add]
def posC (n : Nat) (b : Bool) (E : List (Bool × List UInt8)) : List Int := (E.filter fun e => e.1 == b).map fun e => (n : Int) - (e.2.length : Int)
theorem Z2c (n : Nat) (b : Bool) (E F : List (Bool × List UInt8)) : posC n b (E ++ F) = posC n b E ++ posC n b F := by unfold posC; rw [List.filter_append, List.map_append]
theorem X4P {s : List UInt8} {i : Nat} (hi : i <= s.length) (b c : Bool) : posC s.length b [(c, s.drop i)] = if c = b then [(i : Int)] else [] := by
 unfold posC
 by_cases h : c = b
 ·subst h;rw [if_pos rfl];simp;omega
 rw [if_neg h]; simp [h]
structure CI (s : List UInt8) (i : Nat) (d g : Int) (a f : List Int) : Prop where
 hi : i <= s.length + 2
 hd1 : -(i : Int) <= d
 hd2 : d <= (i : Int)
 ha : a.length <= i
 hf : f.length <= i
 ea : a ++ posC s.length false (EV d (decide (0 <= g)) ((aNL (s.take i)).all wsB) (s.drop i)) = posC s.length false (EV 0 false true s)
 ef : f ++ posC s.length true (EV d (decide (0 <= g)) ((aNL (s.take i)).all wsB) (s.drop i)) = posC s.length true (EV 0 false true s)
theorem CI.step {s : List UInt8} {i j : Nat} {d d' g g' : Int} {a f a' f' : List Int} (h : CI s i d g a f) (hij : i < j) (hj : j <= s.length + 2) (h1 : -(j : Int) <= d') (h2 : d' <= (j : Int)) (X : List (Bool × List UInt8))
  (hE : EV d (decide (0 <= g)) ((aNL (s.take i)).all wsB) (s.drop i) = X ++ EV d' (decide (0 <= g')) ((aNL (s.take j)).all wsB) (s.drop j))
  (ha : a' = a ++ posC s.length false X) (hf : f' = f ++ posC s.length true X) (hX : X.length <= 1) : CI s j d' g' a' f' := by
 obtain ⟨q1, q2, q3, q4, q5, q6, q7⟩ := h;rw [hE, Z2c, <- List.append_assoc] at q6 q7;have l1 : ∀ b, (posC s.length b X).length <= 1 := fun b => by
  unfold posC; rw [List.length_map]; exact Nat.le_trans (List.length_filter_le _ _) hX
 refine ⟨hj, h1, h2, ?_, ?_, ?_, ?_⟩
 ·rw [ha, List.length_append]; have := l1 false; omega
 ·rw [hf, List.length_append]; have := l1 true; omega
 ·rw [ha]; exact q6
 rw [hf]; exact q7
theorem Z1o {s : List UInt8} {i : Nat} (hi : i < s.length) : (aNL (s.take (i + 1))).all wsB = if s[i] = 10 then true else ((aNL (s.take i)).all wsB && wsB s[i]) := by
 rw [List.take_succ_eq_append_getElem hi, X7x]
 by_cases h : s[i] = 10
 ·rw [if_pos h, if_pos h]; rfl
 rw [if_neg h, if_neg h, List.all_append]; simp
theorem Z4M {c : UInt8} (h1 : c ≠ 32) (h2 : c ≠ 9) : wsB c = false := by simp [wsB, wsL, h1, h2]
theorem Y0w {c : UInt8} (h1 : c ≠ 92) (h2 : c ≠ 34) (r : List UInt8) : qEnd (c :: r) = qEnd r := by
 cases r with
 | nil => simp [qEnd]
 | cons d r => rw [qEnd, if_neg h1, if_neg h2]
theorem Y0v (r : List UInt8) : qEnd (34 :: r) = r := by
 cases r with
 | nil => simp [qEnd]
 | cons d r => rw [qEnd, if_neg (by decide), if_pos rfl]
theorem Y1H {s : List UInt8} (hs : s.length <= 1000000) : X3n s = some (posC s.length false (EV 0 false true s), posC s.length true (EV 0 false true s), ()) := by
 refine Up.get ?_;unfold X3n
 refine X47 (N := False) (fun d => ∃ (i : Nat) (dp g : Int) (a f : List Int), d = ((s, (), (), dp, g, (i : Int), ()), (a, f, ())) /\ CI s i dp g a f) (fun d => s.length + 2 - d.1.2.2.2.2.2.1.toNat) ?_
  ⟨0, 0, -1, [], [], rfl, ⟨by omega, by omega, by omega, Nat.le_refl _, Nat.le_refl _, rfl, rfl⟩⟩
 rintro d ⟨i, dp, g, a, f, rfl, hI⟩;dsimp only
 by_cases hi : i < s.length
 ·left;have e1 : decide ((i : Int) < (s.length : Int)) = true := by simp [hi]
  have e2 : ixOK (i : Int) s.length = true := X0e.2 (by omega);have hd := X2k hi;have hda := hI.hd1;have hdb := hI.hd2;have hla := hI.ha;have hlf := hI.hf;rw [e1, e2, X2d hi];simp only [cond_true];obtain ⟨c, hc⟩ : ∃ c, c = s[i] := ⟨_, rfl⟩;rw [<- hc] at hd ⊢;have b59 : decide (((c.toNat : Nat) : Int) = 59) = decide (c = 59) := X0u c 59 (by decide);have b34 : decide (((c.toNat : Nat) : Int) = 34) = decide (c = 34) := X0u c 34 (by decide);have b40 : decide (((c.toNat : Nat) : Int) = 40) = decide (c = 40) := X0u c 40 (by decide);have b41 : decide (((c.toNat : Nat) : Int) = 41) = decide (c = 41) := X0u c 41 (by decide);have hstep := Z1o hi;rw [<- hc] at hstep;rw [b59, b34, b40, b41, X23]
  have fin : ∀ (j : Nat) (dp' g' : Int) (a' f' : List Int) (X : Option ((List UInt8 × Unit × Unit × Int × Int × Int × Unit) × ((List Int) × (List Int) × Unit))), X = some ((s, (), (), dp', g', (j : Int) - 1, ()), (a', f', ())) -> i < j -> CI s j dp' g' a' f' ->
    ∃ l', Option.bind X (fun d55 : (List UInt8 × Unit × Unit × Int × Int × Int × Unit) × ((List Int) × (List Int) × Unit) => some (Step.next (R := (Unit × Unit × Unit) × ((List Int) × (List Int) × Unit)) ((d55.1.1, (), (), d55.1.2.2.2.1, d55.1.2.2.2.2.1, IntKind.wrap .i64 (d55.1.2.2.2.2.2.1 + 1), ()), (d55.2.1, d55.2.2.1, ())))) = some (.next l') /\
     (∃ (i : Nat) (dp g : Int) (a f : List Int), l' = ((s, (), (), dp, g, (i : Int), ()), (a, f, ())) /\ CI s i dp g a f) /\ s.length + 2 - l'.1.2.2.2.2.2.1.toNat < s.length + 2 - (i : Int).toNat := by
   intro j dp' g' a' f' X hX hij hC;have hjj := hC.hi;rw [hX];have ew : IntKind.wrap .i64 ((j : Int) - 1 + 1) = (j : Int) := by rw [w64 (by omega) (by omega)]; omega
   refine ⟨_, rfl, ⟨j, dp', g', a', f', ?_, hC⟩, ?_⟩
   ·dsimp only; rw [ew]
   ·dsimp only; rw [ew]; simp only [Int.toNat_natCast]; omega
  have evNone : ∀ {d' : Int} {nr b' : Bool} (hE : EV dp (decide (0 <= g)) ((aNL (s.take i)).all wsB) (s.drop i) = EV d' nr b' (s.drop (i + 1))) (g' : Int), decide (0 <= g') = nr -> b' = (aNL (s.take (i + 1))).all wsB -> -((i + 1 : Nat) : Int) <= d' -> d' <= ((i + 1 : Nat) : Int) -> CI s (i + 1) d' g' a f := by
   intro d' nr b' hE g' hg hb h1 h2;refine hI.step (Nat.lt_succ_self _) (by omega) h1 h2 [] ?_ (by simp [posC]) (by simp [posC]) (by simp);rw [hE, hg, hb]; rfl
  have evOne : ∀ {P : Prop} [Decidable P] {d' : Int} {nr b' : Bool} (b : Bool) (hE : EV dp (decide (0 <= g)) ((aNL (s.take i)).all wsB) (s.drop i) = (if P then [(b, s.drop i)] else []) ++ EV d' nr b' (s.drop (i + 1))) (g' : Int), decide (0 <= g') = nr -> b' = (aNL (s.take (i + 1))).all wsB -> -((i + 1 : Nat) : Int) <= d' -> d' <= ((i + 1 : Nat) : Int) ->
    CI s (i + 1) d' g' (if P /\ b = false then a ++ [(i : Int)] else a) (if P /\ b = true then f ++ [(i : Int)] else f) := by
   intro P _ d' nr b' b hE g' hg hb h1 h2;refine hI.step (Nat.lt_succ_self _) (by omega) h1 h2 (if P then [(b, s.drop i)] else []) ?_ ?_ ?_ (by split <;> simp)
   ·rw [hE, hg, hb]
   ·by_cases hP : P
    ·rw [if_pos hP, X4P (by omega)]
     by_cases hb : b = false
     ·rw [if_pos ⟨hP, hb⟩, if_pos hb]
     ·rw [if_neg (fun h => hb h.2), if_neg hb, List.append_nil]
    ·rw [if_neg hP, if_neg (fun h => hP h.1)]; simp [posC]
   ·by_cases hP : P
    ·rw [if_pos hP, X4P (by omega)]
     by_cases hb : b = true
     ·rw [if_pos ⟨hP, hb⟩, if_pos hb]
     ·rw [if_neg (fun h => hb h.2), if_neg hb, List.append_nil]
    ·rw [if_neg hP, if_neg (fun h => hP h.1)]; simp [posC]
  have ej : (((i + 1 : Nat) : Int) - 1) = (i : Int) := by omega
  by_cases c59 : c = 59
  ·
   subst c59;rw [show decide ((59 : UInt8) = 59) = true from rfl, cond_true];obtain ⟨z1, z2, z3, z4, z5⟩ := X7C (s.drop i);rw [List.length_drop] at z1 z5;have x1 : slOK (i : Int) (s.length : Int) s.length = true := X1t.2 (by omega);have t1 : (s.drop (i : Int).toNat).take ((s.length : Int).toNat - (i : Int).toNat) = s.drop i := by
    simp only [Int.toNat_natCast]; exact List.take_of_length_le (by rw [List.length_drop]; omega)
   have hix : X0B (s.drop i) 10 = some (Lib.indexByte (s.drop i) 10) := by unfold X0B; rw [if_pos (by decide)]; rfl
   rw [x1, cond_true, t1, hix];simp only [Option.bind_some];obtain ⟨e, he⟩ : ∃ e, e = ((s.drop i).takeWhile n10).length := ⟨_, rfl⟩;rw [<- he] at z1 z2 z3 z4 z5;have he1 : 1 <= e := by rw [he, hd, List.takeWhile_cons_of_pos (by decide)]; simp
   have hee : ∀ {A : Type} (F : (List UInt8 × Unit × Unit × Int × Int × Int × Unit) × ((List Int) × (List Int) × Unit) -> Option A),
     Option.bind (cond (decide (Lib.indexByte (s.drop i) 10 < 0)) (some ((s, (), (), dp, (i : Int), IntKind.wrap .i64 ((s.length : Int) - (i : Int)), ()), (a, f, ()))) (some ((s, (), (), dp, (i : Int), Lib.indexByte (s.drop i) 10, ()), (a, f, ())))) F = F ((s, (), (), dp, (i : Int), (e : Int), ()), (a, f, ())) := by
    intro A F
    by_cases hn : Lib.indexByte (s.drop i) 10 < 0
    ·have := z1 hn;rw [decide_eq_true hn, cond_true, w64 (by omega) (by omega), show (s.length : Int) - (i : Int) = (e : Int) by omega]; rfl
    ·have := z2 (by omega);rw [decide_eq_false hn, cond_false, <- this]; rfl
   rw [hee];dsimp only;have x2 : slOK 0 (i : Int) s.length = true := X1t.2 (by omega);have t2 : (s.drop (0 : Int).toNat).take ((i : Int).toNat - (0 : Int).toNat) = s.take i := by simp
   obtain ⟨j, hj1, hj2, hj3⟩ := Y4U (s := s.take i) (by rw [List.length_take]; omega);rw [List.length_take] at hj2;rw [x2, cond_true, t2, hj1];simp only [Option.bind_some];have w1 : IntKind.wrap .i64 ((j : Int) - 1 + 1) = (j : Int) := by rw [w64 (by omega) (by omega)]; omega
   have x3 : slOK (j : Int) (i : Int) s.length = true := X1t.2 (by omega);have t3 : (s.drop (j : Int).toNat).take ((i : Int).toNat - (j : Int).toNat) = aNL (s.take i) := by
    simp only [Int.toNat_natCast];rw [<- hj3, List.drop_take]
   have hlen3 : (aNL (s.take i)).length <= 1000000000 := by rw [<- hj3, List.length_drop, List.length_take]; omega
   rw [w1, x3, cond_true, t3, Y7Z hlen3];have hb2 : (aNL (s.take (i + e))).all wsB = false := by
    rw [Y3X, z4, Y54];have h0 : (s.drop i).takeWhile n10 = 59 :: (s.drop (i + 1)).takeWhile n10 := by rw [hd]; exact List.takeWhile_cons_of_pos (by decide)
    rw [h0, X6s, if_neg (by decide)];have : ((aNL (s.take i)).all wsB && (decide ((59 : UInt8) = 32) || decide ((59 : UInt8) = 9))) = false := by cases (aNL (s.take i)).all wsB <;> rfl
    rw [this];exact X5i _ fun x hx => by have := X2j hx; simpa [n10] using this
   have hdr : s.drop (i + e) = X0U (s.drop i) := by rw [<- z3, List.drop_drop]
   have hEV : EV dp (decide (0 <= g)) ((aNL (s.take i)).all wsB) (s.drop i) = (if dp = 0 /\ (aNL (s.take i)).all wsB = true then [(false, s.drop i)] else []) ++ EV dp (decide ((0 : Int) <= -1)) ((aNL (s.take (i + e))).all wsB) (s.drop (i + e)) := by
    rw [hb2, hdr, hd, X01, if_pos rfl]; rfl
   have w2 : IntKind.wrap .i64 ((i : Int) + IntKind.wrap .i64 ((e : Int) - 1)) = ((i + e : Nat) : Int) - 1 := by rw [w64 (show -9223372036854775808 <= (e : Int) - 1 by omega) (by omega), w64 (by omega) (by omega)]; omega
   have hCI : ∀ (a' : List Int), a' = (if dp = 0 /\ (aNL (s.take i)).all wsB = true then a ++ [(i : Int)] else a) -> CI s (i + e) dp (-1) a' f := by
    intro a' ha';refine hI.step (by omega) (by omega) (by omega) (by omega) _ hEV ?_ ?_ (by split <;> simp)
    ·rw [ha']
     by_cases hP : dp = 0 /\ (aNL (s.take i)).all wsB = true
     ·rw [if_pos hP, if_pos hP, X4P (by omega)]; rfl
     ·rw [if_neg hP, if_neg hP]; simp [posC]
    ·by_cases hP : dp = 0 /\ (aNL (s.take i)).all wsB = true
     ·rw [if_pos hP, X4P (by omega)]; simp
     ·rw [if_neg hP]; simp [posC]
   refine fin (i + e) dp (-1) (if dp = 0 /\ (aNL (s.take i)).all wsB = true then a ++ [(i : Int)] else a) f _ ?_ (by omega) (hCI _ rfl)
   by_cases hdp : dp = 0
   ·rw [decide_eq_true hdp];simp only [cond_true, Option.bind_some];have ht := Z0C (aNL (s.take i))
    by_cases hb : (aNL (s.take i)).all wsB = true
    ·rw [decide_eq_true (ht.2 hb), if_pos ⟨hdp, hb⟩];simp only [cond_true, List.length_cons, List.length_nil];rw [decide_eq_true (by omega)];simp only [cond_true, Option.bind_some, w2]
    ·rw [decide_eq_false (fun h => hb (ht.1 h)), if_neg (fun h => hb h.2)];simp only [cond_false, Option.bind_some, w2]
   ·rw [decide_eq_false hdp, if_neg (fun h => hdp h.1)];simp only [cond_false, Option.bind_some, w2]
  ·rw [decide_eq_false c59, cond_false]
   by_cases c34 : c = 34
   ·
    subst c34;rw [show decide ((34 : UInt8) = 34) = true from rfl, cond_true];have hEV0 : EV dp (decide (0 <= g)) ((aNL (s.take i)).all wsB) (s.drop i) = (if dp = 0 /\ decide (0 <= g) = false then [(true, s.drop i)] else []) ++ EV dp false (X6s ((aNL (s.take i)).all wsB) ((s.drop i).take ((s.drop i).length - (qEnd (s.drop (i + 1))).length))) (qEnd (s.drop (i + 1))) := by
     rw [hd, X01, if_neg (by decide), if_pos rfl]
    have hev : ∀ {A : Type} (F : (List UInt8 × Unit × Unit × Int × Int × Unit) × ((List Int) × (List Int) × Unit) -> Option A),
      Option.bind (cond (cond (decide (dp = 0)) (decide (g < 0)) false) (cond (decide ((f.length + ([(i : Int)]).length) * 8 <= 140737488355328)) (some ((s, (), (), dp, (i : Int), ()), (a, f ++ ([(i : Int)]), ()))) none) (some ((s, (), (), dp, (i : Int), ()), (a, f, ())))) F =
      F ((s, (), (), dp, (i : Int), ()), (a, (if dp = 0 /\ decide (0 <= g) = false then f ++ [(i : Int)] else f), ())) := by
     intro A F;simp only [List.length_cons, List.length_nil];rw [decide_eq_true (show (f.length + (0 + 1)) * 8 <= 140737488355328 by omega)]
     by_cases hdp : dp = 0
     ·by_cases hg : g < 0
      ·rw [decide_eq_true hdp, decide_eq_true hg, if_pos ⟨hdp, decide_eq_false (by omega)⟩]; rfl
      ·rw [decide_eq_true hdp, decide_eq_false hg, if_neg (by rintro ⟨_, h⟩; have := of_decide_eq_false h; omega)]; rfl
     ·rw [decide_eq_false hdp, if_neg (fun h => hdp h.1)]; rfl
    rw [hev];dsimp only;rw [wrapN (show i < 4611686018427387904 by omega)];obtain ⟨f', hf'⟩ : ∃ f', f' = (if dp = 0 /\ decide (0 <= g) = false then f ++ [(i : Int)] else f) := ⟨_, rfl⟩;rw [<- hf'];have inner : ∃ v, Option.bind (X0v (L := (List UInt8 × Unit × Unit × Int × Int × Unit) × ((List Int) × (List Int) × Unit)) (R := (List UInt8 × Unit × Unit × Int × Int × Unit) × ((List Int) × (List Int) × Unit)) (fun d31 => (
 let l32 := d31.2.1
 let l33 := d31.2.2.1
 let v0_34 := d31.1.1
 let v4_35 := d31.1.2.2.2.1
 let v6_36 := d31.1.2.2.2.2.1
 cond ((ixOK v6_36 v0_34.length) || !(decide (v6_36 < (v0_34.length : Int)))) (cond (cond (decide (v6_36 < (v0_34.length : Int))) (!decide (X0b v0_34 v6_36 = 34)) false) (Option.bind (α := (List UInt8 × Unit × Unit × Int × Int × Unit) × ((List Int) × (List Int) × Unit))
 (cond (ixOK v6_36 v0_34.length) (cond (decide (X0b v0_34 v6_36 = 92)) (some ((v0_34, (), (), v4_35, IntKind.wrap .i64 (v6_36 + 1), ()), (l32, l33, ()))) (some ((v0_34, (), (), v4_35, v6_36, ()), (l32, l33, ())))) none) fun d37 => (
 let l38 := d37.2.1
 let l39 := d37.2.2.1
 let v0_40 := d37.1.1
 let v4_41 := d37.1.2.2.2.1
 let v6_42 := d37.1.2.2.2.2.1
 some (Step.next ((v0_40, (), (), v4_41, IntKind.wrap .i64 (v6_42 + 1), ()), (l38, l39, ()))))) (some (Step.done ((v0_34, (), (), v4_35, v6_36, ()), (l32, l33, ()))))) none)) ((s, (), (), dp, ((i + 1 : Nat) : Int), ()), (a, f', ()))) (fun d43 : (List UInt8 × Unit × Unit × Int × Int × Unit) × ((List Int) × (List Int) × Unit) => (
 let l44 := d43.2.1
 let l45 := d43.2.2.1
 let v0_46 := d43.1.1
 let v4_47 := d43.1.2.2.2.1
 let v6_48 := d43.1.2.2.2.2.1
 some (((v0_46, (), (), v4_47, (-1), v6_48, ()), (l44, l45, ())) : (List UInt8 × Unit × Unit × Int × Int × Int × Unit) × ((List Int) × (List Int) × Unit)))) = some v /\ ∃ j : Nat, v = ((s, (), (), dp, (-1), (j : Int), ()), (a, f', ())) /\ i + 1 <= j /\ j <= s.length + 1 /\ s.drop (j + 1) = qEnd (s.drop (i + 1)) := by
     refine X6M (fun d => ∃ j : Nat, d = ((s, (), (), dp, (j : Int), ()), (a, f', ())) /\ i + 1 <= j /\ j <= s.length + 1 /\ qEnd (s.drop j) = qEnd (s.drop (i + 1))) (fun d => s.length + 2 - d.1.2.2.2.2.1.toNat) _ ?_ ⟨i + 1, rfl, Nat.le_refl _, by omega, rfl⟩;rintro d ⟨j, rfl, j1, j2, j3⟩;dsimp only
     by_cases hj : j < s.length
     ·have y1 : decide ((j : Int) < (s.length : Int)) = true := by simp [hj]
      have y2 : ixOK (j : Int) s.length = true := X0e.2 (by omega);have hdj := X2k hj;have q34 : decide (((s[j].toNat : Nat) : Int) = 34) = decide (s[j] = 34) := X0u s[j] 34 (by decide);have q92 : decide (((s[j].toNat : Nat) : Int) = 92) = decide (s[j] = 92) := X0u s[j] 92 (by decide);rw [y1, y2, X2d hj, q34, q92];simp only [Bool.true_or, cond_true]
      by_cases h34 : s[j] = 34
      ·right;rw [decide_eq_true h34];refine ⟨_, rfl, _, rfl, j, rfl, j1, j2, ?_⟩;rw [<- j3, hdj, h34, Y0v]
      ·left;rw [decide_eq_false h34];simp only [Bool.not_false, cond_true]
       by_cases h92 : s[j] = 92
       ·rw [decide_eq_true h92];simp only [cond_true, Option.bind_some];rw [wrapN (show j < 4611686018427387904 by omega), wrapN (show j + 1 < 4611686018427387904 by omega)];refine ⟨_, rfl, ⟨j + 1 + 1, rfl, by omega, by omega, ?_⟩, by simp only [Int.toNat_natCast]; omega⟩;rw [<- j3, hdj, h92]
        by_cases hj' : j + 1 < s.length
        ·rw [X2k hj', qEnd, if_pos rfl]
        ·rw [List.drop_of_length_le (show s.length <= j + 1 by omega), List.drop_of_length_le (show s.length <= j + 1 + 1 by omega)]; rfl
       ·rw [decide_eq_false h92];simp only [cond_false, Option.bind_some];rw [wrapN (show j < 4611686018427387904 by omega)];refine ⟨_, rfl, ⟨j + 1, rfl, by omega, by omega, ?_⟩, by simp only [Int.toNat_natCast]; omega⟩;rw [<- j3, hdj, Y0w h92 h34]
     ·have y1 : decide ((j : Int) < (s.length : Int)) = false := by apply decide_eq_false; omega
      rw [y1];simp only [Bool.not_false, Bool.or_true, cond_true, cond_false];right;refine ⟨_, rfl, _, rfl, j, rfl, j1, j2, ?_⟩;rw [List.drop_of_length_le (show s.length <= j by omega)] at j3;rw [List.drop_of_length_le (show s.length <= j + 1 by omega), <- j3]; rfl
    obtain ⟨v, hv, j, rfl, j1, j2, j3⟩ := inner;refine fin (j + 1) dp (-1) a f' _ ?_ (by omega) ?_
    ·rw [hv, show ((j + 1 : Nat) : Int) - 1 = (j : Int) by omega]
    ·refine hI.step (by omega) (by omega) (by omega) (by omega) (if dp = 0 /\ decide (0 <= g) = false then [(true, s.drop i)] else []) ?_ ?_ ?_ (by split <;> simp)
     ·rw [hEV0, <- j3]
      congr 1
      by_cases hjl : j + 1 <= s.length
      ·have e5 : (s.drop i).length - (s.drop (j + 1)).length = j + 1 - i := by rw [List.length_drop, List.length_drop]; omega
       have e6 : (aNL (s.take (j + 1))).all wsB = X6s ((aNL (s.take i)).all wsB) ((s.drop i).take (j + 1 - i)) := by
        rw [<- Y54, <- Y3X, show i + (j + 1 - i) = j + 1 by omega]
       rw [e5, e6]; rfl
      ·rw [List.drop_of_length_le (show s.length <= j + 1 by omega), Y8s, Y8s]
     ·by_cases hP : dp = 0 /\ decide (0 <= g) = false
      ·rw [if_pos hP, X4P (by omega)]; simp
      ·rw [if_neg hP]; simp [posC]
     ·rw [hf']
      by_cases hP : dp = 0 /\ decide (0 <= g) = false
      ·rw [if_pos hP, if_pos hP, X4P (by omega)]; rfl
      ·rw [if_neg hP, if_neg hP]; simp [posC]
   ·rw [decide_eq_false c34, cond_false]
    by_cases c40 : c = 40
    ·subst c40;rw [show decide ((40 : UInt8) = 40) = true from rfl, cond_true];have hC := evOne (P := dp = 0) true (d' := dp + 1) (nr := false) (b' := false) (by rw [hd, X01, if_neg (by decide), if_neg (by decide), if_pos rfl]) (-1) rfl (by rw [hstep, if_neg (by decide)]; cases (aNL (s.take i)).all wsB <;> rfl) (by omega) (by omega);rw [if_neg (by simp)] at hC;refine fin (i + 1) (dp + 1) (-1) a _ _ ?_ (Nat.lt_succ_self _) hC;rw [ej];simp only [List.length_cons, List.length_nil];rw [decide_eq_true (show (f.length + (0 + 1)) * 8 <= 140737488355328 by omega)]
     by_cases hdp : dp = 0
     ·rw [decide_eq_true hdp, if_pos (by simp [hdp])];simp only [cond_true, Option.bind_some];rw [w64 (by omega) (by omega)]
     ·rw [decide_eq_false hdp, if_neg (fun h => hdp h.1)];simp only [cond_false, Option.bind_some];rw [w64 (by omega) (by omega)]
    ·rw [decide_eq_false c40, cond_false]
     by_cases c41 : c = 41
     ·subst c41;rw [show decide ((41 : UInt8) = 41) = true from rfl, cond_true];have hC := evNone (d' := dp - 1) (nr := false) (b' := false) (by rw [hd, X01, if_neg (by decide), if_neg (by decide), if_neg (by decide), if_pos rfl]) (-1) rfl (by rw [hstep, if_neg (by decide)]; cases (aNL (s.take i)).all wsB <;> rfl) (by omega) (by omega);refine fin (i + 1) (dp - 1) (-1) a f _ ?_ (Nat.lt_succ_self _) hC;rw [ej, w64 (by omega) (by omega)]
     ·rw [decide_eq_false c41, cond_false]
      by_cases cb : X0m c = true
      ·rw [cb, cond_true]
       have hC := evNone (d' := dp) (nr := false) (b' := if c = 10 then true else (aNL (s.take i)).all wsB) (by rw [hd, X01, if_neg c59, if_neg c34, if_neg c40, if_neg c41, if_pos cb]) (-1) rfl (by
        rw [hstep]
        by_cases h10 : c = 10
        ·rw [if_pos h10, if_pos h10]
        ·rw [if_neg h10, if_neg h10];have hw : wsB c = true := by
          have h3 : c = 32 \/ c = 9 \/ c = 10 := by simpa [X0m] using cb
          rcases h3 with rfl | rfl | h
          ·decide
          ·decide
          ·exact absurd h h10
         rw [hw, Bool.and_true]) (by omega) (by omega)
       refine fin (i + 1) dp (-1) a f _ ?_ (Nat.lt_succ_self _) hC;rw [ej]
      ·rw [eq_false_of_ne_true cb, cond_false];have hw : wsB c = false := Z4M (by intro e; subst e; exact cb (by decide)) (by intro e; subst e; exact cb (by decide));have h10 : c ≠ 10 := by intro e; subst e; exact cb (by decide)
       have hbb : false = (aNL (s.take (i + 1))).all wsB := by rw [hstep, if_neg h10, hw, Bool.and_false]
       by_cases hg : 0 <= g
       ·rw [decide_eq_false (show ¬ g < 0 by omega), cond_false];have hC := evNone (d' := dp) (nr := true) (b' := false) (by rw [hd, X01, if_neg c59, if_neg c34, if_neg c40, if_neg c41, if_neg cb, if_pos (decide_eq_true hg)]) g (decide_eq_true hg) hbb (by omega) (by omega);refine fin (i + 1) dp g a f _ ?_ (Nat.lt_succ_self _) hC;rw [ej]
       ·rw [decide_eq_true (show g < 0 by omega), cond_true];have hC := evOne (P := dp = 0) true (d' := dp) (nr := true) (b' := false) (by rw [hd, X01, if_neg c59, if_neg c34, if_neg c40, if_neg c41, if_neg cb, if_neg (by rw [decide_eq_false hg]; decide)]) (i : Int) (decide_eq_true (by omega)) hbb (by omega) (by omega);rw [if_neg (by simp)] at hC;refine fin (i + 1) dp (i : Int) a _ _ ?_ (Nat.lt_succ_self _) hC;rw [ej];simp only [List.length_cons, List.length_nil];rw [decide_eq_true (show (f.length + (0 + 1)) * 8 <= 140737488355328 by omega)]
        by_cases hdp : dp = 0
        ·rw [decide_eq_true hdp, if_pos (by simp [hdp])]; rfl
        ·rw [decide_eq_false hdp, if_neg (fun h => hdp h.1)]; rfl
 ·right;have e1 : decide ((i : Int) < (s.length : Int)) = false := by apply decide_eq_false; omega
  rw [e1, cond_false];left;refine ⟨_, rfl, .of ?_⟩;have ha := hI.ea;have hf := hI.ef;rw [List.drop_of_length_le (show s.length <= i by omega), Y8s] at ha hf;have e0 : ∀ b, posC s.length b [] = [] := fun b => rfl
  rw [e0, List.append_nil] at ha hf;dsimp only;rw [ha, hf]
end Go.Ab
set_option maxHeartbeats 1000000
namespace Go.Ab
open Go Go.RowKit Go.Proofs
theorem X61 : ∀ (n : Nat) (d : Int) (near bare : Bool) (r : List UInt8), ∀ e ∈ evS n d near bare r, e.1 = false -> ∃ q, e.2 = 59 :: q
 | 0, d, near, bare, r => by intro e he; simp [evS] at he
 | n + 1, d, near, bare, [] => by intro e he; simp [evS] at he
 | n + 1, d, near, bare, c :: r => by
  intro e he hf;have tr : ∀ (P : Prop) [Decidable P], e ∈ (if P then [(true, c :: r)] else []) -> ∃ q, e.2 = 59 :: q := fun P _ hx => by
   by_cases hP : P
   ·rw [if_pos hP, List.mem_singleton] at hx; subst hx; cases hf
   rw [if_neg hP] at hx; cases hx
  simp only [evS] at he
  by_cases c1 : c = 59
  ·rw [if_pos c1] at he;rcases List.mem_append.1 he with he | he
   ·by_cases hP : d = 0 /\ bare = true
    ·rw [if_pos hP, List.mem_singleton] at he; subst he; subst c1; exact ⟨r, rfl⟩
    rw [if_neg hP] at he; cases he
   exact X61 n _ _ _ _ e he hf
  rw [if_neg c1] at he
  by_cases c2 : c = 34
  ·rw [if_pos c2] at he;rcases List.mem_append.1 he with he | he
   ·exact tr _ he
   exact X61 n _ _ _ _ e he hf
  rw [if_neg c2] at he
  by_cases c3 : c = 40
  ·rw [if_pos c3] at he;rcases List.mem_append.1 he with he | he
   ·exact tr _ he
   exact X61 n _ _ _ _ e he hf
  rw [if_neg c3] at he
  by_cases c4 : c = 41
  ·rw [if_pos c4] at he; exact X61 n _ _ _ _ e he hf
  rw [if_neg c4] at he
  by_cases c5 : X0m c = true
  ·rw [if_pos c5] at he; exact X61 n _ _ _ _ e he hf
  rw [if_neg c5] at he
  by_cases c6 : near = true
  ·rw [if_pos c6] at he; exact X61 n _ _ _ _ e he hf
  rw [if_neg c6] at he;rcases List.mem_append.1 he with he | he
  ·exact tr _ he
  exact X61 n _ _ _ _ e he hf
theorem Y9l {E : List (Bool × List UInt8)} (h : E.Pairwise fun a b => b.2.length < a.2.length) : ∀ m : Nat, (∀ e ∈ E, e.2.length <= m) -> E.length <= m + 1 := by
 induction E with
 | nil => intro m _; simp
 | cons e E ih =>
  intro m hm;rw [List.pairwise_cons] at h;have he := hm e (by simp)
  by_cases h0 : e.2.length = 0
  ·cases E with
   | nil => simp
   | cons x E => have := h.1 x (by simp); omega
  have := ih h.2 (e.2.length - 1) fun x hx => by have := h.1 x hx; omega
  simp only [List.length_cons]; omega
theorem Z2r {q s : List UInt8} (h : q <:+ s) : s.drop (s.length - q.length) = q /\ q.length <= s.length := by
 obtain ⟨p, rfl⟩ := h;have : (p ++ q).length - q.length = p.length := by rw [List.length_append]; omega
 rw [this];exact ⟨List.drop_left, by rw [List.length_append]; omega⟩
theorem X63 {s q : List UInt8} {r : List UInt8} (hq : q <:+ s) (h59 : q = 59 :: r) (hs : s.length <= 1000000) : X2V s ((s.length : Int) - (q.length : Int)) = some (comS q) := by
 obtain ⟨h1, h2⟩ := Z2r hq;have e0 : (s.length : Int) - (q.length : Int) = ((s.length - q.length : Nat) : Int) := by omega
 rw [e0];unfold X2V Y8w Y38 X3U;have x1 : slOK ((s.length - q.length : Nat) : Int) (s.length : Int) s.length = true := X1t.2 (by omega);have t1 : (s.drop ((s.length - q.length : Nat) : Int).toNat).take ((s.length : Int).toNat - ((s.length - q.length : Nat) : Int).toNat) = q := by
  simp only [Int.toNat_natCast];rw [h1]; exact List.take_of_length_le (by omega)
 rw [x1, cond_true, t1];have y1 : decide ((([10] : List UInt8).length : Int) = 0) = false := by decide
 have y2 : decide (([10] : List UInt8) = q) = false := by apply decide_eq_false; rw [h59]; intro h; have := congrArg List.head? h; simp at this
 have y3 : decide ((([10] : List UInt8).length : Int) = 1) = true := by decide
 have y4 : ixOK 0 ([10] : List UInt8).length = true := by decide
 have y5 : X0b ([10] : List UInt8) 0 = 10 := by decide
 have hix : X0B q 10 = some (Lib.indexByte q 10) := by unfold X0B; rw [if_pos (by decide)]; rfl
 rw [y1, y2, y3, y4, y5, hix];simp only [cond_true, cond_false, Option.bind_some];obtain ⟨z1, z2, z3, z4, z5⟩ := X7C q;have hcut : ∀ {A : Type} (F : (List UInt8) × List UInt8 × Bool × Unit -> Option A), (∀ X b, F (q.takeWhile n10, X, b, ()) = F (q.takeWhile n10, [], false, ())) -> Option.bind (Option.bind (cond (decide (Lib.indexByte q 10 >= 0)) (cond (slOK 0 (Lib.indexByte q 10) q.length) (cond (slOK (IntKind.wrap .i64 (Lib.indexByte q 10 + (([10] : List UInt8).length : Int))) (q.length : Int) q.length) (some ((q.drop (0 : Int).toNat).take ((Lib.indexByte q 10).toNat - (0 : Int).toNat), (q.drop (IntKind.wrap .i64 (Lib.indexByte q 10 + (([10] : List UInt8).length : Int))).toNat).take ((q.length : Int).toNat - (IntKind.wrap .i64 (Lib.indexByte q 10 + (([10] : List UInt8).length : Int))).toNat), true, ())) none) none) (some (q, ([] : List UInt8), false, ()))) fun r1 => some (r1.1, r1.2.1, r1.2.2.1, ())) F = F (q.takeWhile n10, [], false, ()) := by
  intro A F hF
  by_cases hn : Lib.indexByte q 10 < 0
  ·rw [decide_eq_false (show ¬ Lib.indexByte q 10 >= 0 by omega), cond_false];have : q.takeWhile n10 = q := by rw [<- z4, z1 hn, List.take_length]
   simp only [Option.bind_some, this]
  have hp := z2 (by omega);obtain ⟨_, hlt⟩ := (X4h q).2 (by omega);have x2 : slOK 0 (Lib.indexByte q 10) q.length = true := X1t.2 (by omega);have w1 : IntKind.wrap .i64 (Lib.indexByte q 10 + (([10] : List UInt8).length : Int)) = Lib.indexByte q 10 + 1 := by
   show IntKind.wrap .i64 (Lib.indexByte q 10 + 1) = _;rw [w64 (by omega) (by omega)]
  have x3 : slOK (Lib.indexByte q 10 + 1) (q.length : Int) q.length = true := X1t.2 (by omega);rw [decide_eq_true (show Lib.indexByte q 10 >= 0 by omega), w1, x2, x3];simp only [cond_true, Option.bind_some];have t2 : (q.drop (0 : Int).toNat).take ((Lib.indexByte q 10).toNat - (0 : Int).toNat) = q.takeWhile n10 := by
   rw [<- z4]; simp only [Int.toNat_zero, List.drop_zero, Nat.sub_zero]; congr 1; omega
  rw [t2];exact hF _ _
 rw [hcut _ fun X b => rfl];dsimp only;unfold X9h;rw [if_pos ⟨rfl, by omega⟩];rfl
theorem Y95 {A L R : Type} {X : Option A} {G : A -> Option (Step L R)} {P : A -> Prop} {Q : L -> Prop} (h : ∃ v, X = some v /\ P v) (k : ∀ v, P v -> ∃ l', G v = some (.next l') /\ Q l') : ∃ l', Option.bind X G = some (.next l') /\ Q l' := by
 obtain ⟨v, hv, hp⟩ := h;rw [hv]; exact k v hp
theorem X8Z : ∀ (E : List (Bool × List UInt8)) (fs : List Fm), (X1b E fs).length <= E.length
 | [], fs => by simp [X1b]
 | (false, r) :: E, fs => by have := X8Z E fs; simp only [X1b, List.length_cons]; omega
 | (true, r) :: E, [] => by simp [X1b]
 | (true, r) :: E, f :: fs => by have := X8Z E fs; simp only [X1b, List.length_cons]; omega
theorem X3f (n : Nat) (b c : Bool) (q : List UInt8) (E : List (Bool × List UInt8)) : posC n b ((c, q) :: E) = (if c = b then [(n : Int) - (q.length : Int)] else []) ++ posC n b E := by
 unfold posC;cases c <;> cases b <;> simp
theorem X80 {n : Nat} {b : Bool} : ∀ {E : List (Bool × List UInt8)} {x : Int} {R : List Int}, posC n b E = x :: R -> ∃ e ∈ E, x = (n : Int) - (e.2.length : Int)
 | [], x, R, h => by cases h
 | (c, q) :: E, x, R, h => by
  rw [X3f] at h
  by_cases hc : c = b
  ·rw [if_pos hc] at h;cases h;exact ⟨(c, q), by simp, rfl⟩
  rw [if_neg hc, List.nil_append] at h;obtain ⟨e, he, hx⟩ := X80 h;exact ⟨e, by simp [he], hx⟩
theorem X6C (n : Nat) : ∀ E : List (Bool × List UInt8), (posC n true E).length = X18 E
 | [] => rfl
 | (c, q) :: E => by
  rw [X3f, List.length_append, X6C n E];cases c <;> simp [X18]
  omega
theorem X7I {s : List UInt8} {l : List Fm} (h : X1s s = (l, 0, ())) : s.length <= 60000 /\ PF s [] [] = .inr l /\ ∀ f ∈ l, X0H f = true := by
 unfold X1s at h;split at h
 ·cases h
 rename_i hl;split at h
 ·rename_i e he;have := X4N _ s [] [] (Nat.lt_succ_self _);cases h;rw [he] at this;exact absurd rfl this
 rename_i l' hl';split at h
 ·rename_i hv;cases h;exact ⟨by omega, hl', List.all_eq_true.1 hv⟩
 cases h
theorem Y4X {s : List UInt8} {l : List Fm} (h : X1s s = (l, 0, ())) : X2W s = some (IT true s l, 0, ()) := by
 obtain ⟨hs, hp, hv⟩ := X7I h;obtain ⟨fs, h1, h2, h3⟩ := X4L s.length s (Nat.le_refl _) [] l true hp;rw [List.nil_append] at h1;subst h1;have hasc := Y0c (s.length + 1) 0 false true s (Nat.lt_succ_self _);have hsuf := X42 (s.length + 1) 0 false true s (Nat.lt_succ_self _);have hcom := X61 (s.length + 1) 0 false true s;have hE : evS (s.length + 1) 0 false true s = EV 0 false true s := rfl;rw [hE] at hasc hsuf hcom;have hlenE : (EV 0 false true s).length <= s.length + 1 := Y9l hasc s.length fun e he => (hsuf e he).length_le
 have hpl := X8Z (EV 0 false true s) l;have hlfs : l.length <= (EV 0 false true s).length := by rw [<- h3]; exact List.length_filter_le _ _
 refine Up.get ?_;unfold X2W;rw [Y3A, h];simp only [Option.bind_some];rw [Y1H (by omega)];simp only [decide_true, Bool.not_true, cond_false, Option.bind_some];rw [<- h2];generalize EV 0 false true s = E at hasc hsuf hcom h3 hlenE hpl hlfs
 refine X47 (N := False) (fun d => ∃ (i : Nat) (E2 : List (Bool × List UInt8)) (F1 : List Int) (out : List (List UInt8 × Fm)), d = ((s, posC s.length false E2, posC s.length true E, (), l, (l.length : Int), (i : Int), ()), (out, ())) /\ i <= l.length /\ out ++ X1b E2 (l.drop i) = X1b E l /\ X18 E2 = l.length - i /\ posC s.length true E = F1 ++ posC s.length true E2 /\ F1.length = i /\ E2 <:+ E) (fun d => l.length - d.1.2.2.2.2.2.2.1.toNat) ?_
  ⟨0, E, [], [], rfl, Nat.zero_le _, by simp, by omega, rfl, rfl, List.suffix_refl _⟩
 rintro d ⟨i, E2, F1, out, rfl, hi, ho, hf, hF, hF1, hsE⟩;dsimp only
 by_cases hi' : i < l.length
 ·left;have e1 : decide ((i : Int) < (l.length : Int)) = true := by simp [hi']
  have e2 : ixOK (i : Int) l.length = true := X0e.2 (by omega);rw [e1, e2];simp only [cond_true, Int.toNat_natCast, X09 hi'];have hdl : l.drop i = l[i] :: l.drop (i + 1) := List.drop_eq_getElem_cons hi';refine Y95 (P := fun v => ∃ (E3 : List (Bool × List UInt8)) (F1' : List Int) (out' : List (List UInt8 × Fm)), v = ((s, posC s.length false E3, posC s.length true E, (), l, (l.length : Int), (i : Int), ()), (out', ())) /\ out' ++ X1b E3 (l.drop (i + 1)) = X1b E l /\ X18 E3 = l.length - (i + 1) /\ posC s.length true E = F1' ++ posC s.length true E3 /\ F1'.length = i + 1 /\ E3 <:+ E) ?_ ?_
  ·refine X6M (fun d => ∃ (E2 : List (Bool × List UInt8)) (out : List (List UInt8 × Fm)), d = ((s, posC s.length false E2, posC s.length true E, (), (i : Int), (), l, (l.length : Int), (i : Int), ()), (out, (l[i].k, l[i].n, l[i].t, l[i].l, ()), ())) /\ out ++ X1b E2 (l.drop i) = X1b E l /\ X18 E2 = l.length - i /\ posC s.length true E = F1 ++ posC s.length true E2 /\ E2 <:+ E) (fun d => d.1.2.1.length) _ ?_ ⟨E2, out, rfl, ho, hf, hF, hsE⟩;rintro d ⟨E2, out, rfl, ho, hf, hF, hsE⟩;dsimp only;have holen := congrArg List.length ho;rw [List.length_append] at holen;have hfi : ((posC s.length true E).getD i 0) = (posC s.length true E2).getD 0 0 := by
    rw [hF, List.getD_eq_getElem?_getD, List.getElem?_append_right (by omega), hF1, Nat.sub_self, <- List.getD_eq_getElem?_getD]
   have hfl : i < (posC s.length true E).length := by rw [hF, List.length_append, X6C, hf]; omega
   have x2 : ixOK (i : Int) (posC s.length true E).length = true := X0e.2 (by omega);cases E2 with
   | nil => simp [X18] at hf; omega
   | cons e E3 =>
    obtain ⟨b, q⟩ := e;have hmem : (b, q) ∈ E := hsE.mem (by simp);have hascE : ((b, q) :: E3).Pairwise fun a b => b.2.length < a.2.length := hasc.sublist hsE.sublist
    rw [List.pairwise_cons] at hascE;have hE3 : E3 <:+ E := (List.suffix_cons _ _).trans hsE;simp only [Int.toNat_natCast, Int.toNat_zero, hfi, x2, Bool.true_or, cond_true];cases b with
    | false =>
     left;have ea : posC s.length false ((false, q) :: E3) = ((s.length : Int) - (q.length : Int)) :: posC s.length false E3 := by rw [X3f]; rfl
     have ef : posC s.length true ((false, q) :: E3) = posC s.length true E3 := by rw [X3f]; rfl
     have hfe : X18 ((false, q) :: E3) = X18 E3 := rfl;rw [ea, ef];have y1 : decide (((((s.length : Int) - (q.length : Int)) :: posC s.length false E3).length : Int) > 0) = true := by apply decide_eq_true; simp only [List.length_cons]; omega
     have y0 : ixOK 0 (((s.length : Int) - (q.length : Int)) :: posC s.length false E3).length = true := X0e.2 (by simp only [List.length_cons]; omega);have hlt : ((s.length : Int) - (q.length : Int)) < (posC s.length true E3).getD 0 0 := by
      cases hx : posC s.length true E3 with
      | nil => have := X6C s.length E3; rw [hx] at this; rw [hfe] at hf; simp at this; omega
      | cons x R =>
       obtain ⟨e', he', rfl⟩ := X80 hx;have : e'.2.length < q.length := hascE.1 e' he';show _ < (s.length : Int) - (e'.2.length : Int);omega
     obtain ⟨r', hr'⟩ := hcom (false, q) hmem rfl;rw [y1, y0];simp only [Bool.true_or, cond_true, List.getD_cons_zero];rw [decide_eq_true hlt, X63 (hsuf (false, q) hmem) hr' (by omega)];simp only [cond_true, Option.bind_some, List.length_cons, List.length_nil];rw [decide_eq_true (by omega)];have x3 : slOK 1 (((posC s.length false E3).length + 1 : Nat) : Int) ((posC s.length false E3).length + 1) = true := X1t.2 (by omega);have t3 : (List.drop (1 : Int).toNat (((s.length : Int) - (q.length : Int)) :: posC s.length false E3)).take ((posC s.length false E3).length + 1 - (1 : Int).toNat) = posC s.length false E3 := by
      show (posC s.length false E3).take _ = _;exact List.take_of_length_le (by simp)
     rw [x3, cond_true, cond_true, t3];refine ⟨_, rfl, ⟨E3, out ++ [(comS q, zF)], rfl, ?_, by rw [<- hfe]; exact hf, by rw [hF, ef], hE3⟩, by simp⟩;rw [<- ho, X1b]; simp
    | true =>
     right;have ea : posC s.length false ((true, q) :: E3) = posC s.length false E3 := by rw [X3f]; rfl
     have ef : posC s.length true ((true, q) :: E3) = ((s.length : Int) - (q.length : Int)) :: posC s.length true E3 := by rw [X3f]; rfl
     have hfe : X18 ((true, q) :: E3) = X18 E3 + 1 := by simp [X18]
     rw [ea, ef];simp only [List.getD_cons_zero];have hno : cond (decide (((posC s.length false E3).length : Int) > 0)) (decide ((posC s.length false E3).getD 0 0 < (s.length : Int) - (q.length : Int))) false = false := by
      cases hx : posC s.length false E3 with
      | nil => rfl
      | cons x R =>
       obtain ⟨e', he', rfl⟩ := X80 hx;have := hascE.1 e' he';rw [decide_eq_true (by simp only [List.length_cons]; omega), cond_true];apply decide_eq_false;show ¬ ((s.length : Int) - (e'.2.length : Int) < _);have : e'.2.length < q.length := this;omega
     have y0 : (ixOK 0 (posC s.length false E3).length || !decide (((posC s.length false E3).length : Int) > 0)) = true := by
      by_cases h0 : (posC s.length false E3).length = 0
      ·rw [h0]; rfl
      rw [X0e.2 (by omega)]; rfl
     rw [y0, hno];simp only [cond_true, cond_false];have hd2 : out ++ [(([] : List UInt8), l[i])] ++ X1b E3 (l.drop (i + 1)) = X1b E l := by rw [<- ho, hdl, X1b]; simp
     refine ⟨_, rfl, _, ?_, E3, F1 ++ [(s.length : Int) - (q.length : Int)], out ++ [([], l[i])], rfl, hd2, by omega, by rw [hF, ef]; simp, by simp [hF1], hE3⟩;simp only [List.length_cons, List.length_nil];rw [decide_eq_true (by omega)];simp only [cond_true];rw [show Fm.mk l[i].k l[i].n l[i].t l[i].l = l[i] from Fm.eta_eq _]
  rintro v ⟨E3, F1', out', rfl, q1, q2, q3, q4, q5⟩;dsimp only;rw [wrapN (show i < 4611686018427387904 by omega)];exact ⟨_, rfl, ⟨i + 1, E3, F1', out', rfl, by omega, q1, q2, q3, q4, q5⟩, by simp only [Int.toNat_natCast]; omega⟩
 right; left;have hie : i = l.length := by omega
 subst hie;have e1 : decide ((l.length : Int) < (l.length : Int)) = false := by simp
 rw [e1, cond_false];refine ⟨_, rfl, ?_⟩;dsimp only;have hE2c : ∀ e ∈ E2, e.1 = false := fun e he => by
  cases hx : e.1 with
  | false => rfl
  | true =>
   have h0 : X18 E2 = 0 := by omega
   unfold X18 at h0;have := List.eq_nil_of_length_eq_zero h0;have hm : e ∈ E2.filter fun e => e.1 := List.mem_filter.2 ⟨he, hx⟩
   rw [this] at hm; cases hm
 have hpos : posC s.length false E2 = E2.map fun e => (s.length : Int) - (e.2.length : Int) := by
  unfold posC;rw [List.filter_eq_self.2 fun e he => by rw [hE2c e he]; rfl]
 rw [List.drop_length] at ho;have hl2 : E2.length <= E.length := hsE.length_le;refine X47 (N := False) (fun d => ∃ (j : Nat) (out : List (List UInt8 × Fm)), d = ((s, (), posC s.length false E2, ((posC s.length false E2).length : Int), (j : Int), ()), (out, ())) /\ j <= E2.length /\ out ++ X1b (E2.drop j) [] = X1b E l) (fun d => E2.length - d.1.2.2.2.2.1.toNat) ?_ ⟨0, out, rfl, Nat.zero_le _, ho⟩;rintro d ⟨j, out, rfl, hj, ho⟩;dsimp only;have hpl2 : (posC s.length false E2).length = E2.length := by rw [hpos, List.length_map]
 have holen := congrArg List.length ho;rw [List.length_append] at holen;rw [hpl2]
 by_cases hj' : j < E2.length
 ·left;have y1 : decide ((j : Int) < (E2.length : Int)) = true := by simp [hj']
  have y2 : ixOK (j : Int) E2.length = true := X0e.2 (by omega);have hmem : E2[j] ∈ E := hsE.mem (List.getElem_mem hj');have hb := hE2c _ (List.getElem_mem hj');obtain ⟨r', hr'⟩ := hcom _ hmem hb;have g1 : (posC s.length false E2).getD j 0 = (s.length : Int) - (E2[j].2.length : Int) := by rw [hpos]; simp [hj']
  rw [y1, y2];simp only [cond_true, Int.toNat_natCast, g1];rw [X63 (hsuf _ hmem) hr' (by omega)];simp only [Option.bind_some, List.length_cons, List.length_nil];rw [decide_eq_true (by omega), wrapN (show j < 4611686018427387904 by omega)];refine ⟨_, rfl, ⟨j + 1, out ++ [(comS E2[j].2, zF)], rfl, by omega, ?_⟩, by simp only [Int.toNat_natCast]; omega⟩;rw [<- ho, List.drop_eq_getElem_cons hj'];generalize E2[j] = e at hb ⊢;obtain ⟨b, q⟩ := e;have hb : b = false := hb;subst hb;rw [X1b]; simp
 right; left;have y1 : decide ((j : Int) < (E2.length : Int)) = false := by apply decide_eq_false; omega
 rw [y1, cond_false];refine ⟨_, rfl, .of ?_⟩;rw [List.drop_of_length_le (show E2.length <= j by omega)] at ho;rw [<- ho];simp [X1b]
theorem Y4W {s : List UInt8} (h : (X1s s).2.1 ≠ 0) : X2W s = some ([], (X1s s).2.1, ()) := by
 unfold X2W;rw [Y3A];simp only [Option.bind_some];rw [decide_eq_false h];rfl
end Go.Ab
