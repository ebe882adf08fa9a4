/-
  ReaderReads: the card. For every argument of bulk at most 1048576, as the card says.
-/
import Derived.Test.YtdagildojaagiaaGreatDoorZ16
import Derived.Test.YtdagildojaagiaaGreatDoorZ15
import Derived.Test.YtdagildojaagiaaGreatDoorZ12
set_option linter.unusedVariables false
set_option linter.unusedSimpArgs false
set_option maxRecDepth 100000
namespace Go.Ab
open Go Go.RowKit Go.Proofs
theorem touch_part {A : Type} {s q : List UInt8} {j : Nat} (hj : j ≤ s.length) (hd : s.drop j = q) (X Y : Option A) :
  cond ((ixOK (j : Int) s.length) || !(decide ((j : Int) < (s.length : Int)))) (Option.bind (cond (decide ((j : Int) < (s.length : Int))) (G_touches (byteAt s (j : Int))) (some false)) fun r10 => cond (cond (decide ((j : Int) < (s.length : Int))) r10 false) X Y) none = cond (touchS visS q) X Y := by
 by_cases h : j < s.length
 ·have x1 : ixOK (j : Int) s.length = true := ixOK_iff.2 (by omega)
  have c1 : decide ((j : Int) < (s.length : Int)) = true := decide_eq_true (by omega)
  rw [ydrop h] at hd
  subst hd
  simp only [x1, c1, Bool.true_or, cond_true, ybyte h, touches_val, Option.bind_some, touchS]
 ·have c1 : decide ((j : Int) < (s.length : Int)) = false := decide_eq_false (by omega)
  have hq : q = [] := by rw [← hd]; exact List.drop_of_length_le (by omega)
  subst hq
  simp only [c1, Bool.not_false, Bool.or_true, cond_true, cond_false, Option.bind_some, touchS]
theorem parse_val {s : List UInt8} (hs : s.length ≤ 1000000000) : G_parse s = some (resP (parseS visS (tokS numS) (s.length + 1) s [] [])) := by
 unfold G_parse
 generalize hT0 : parseS visS (tokS numS) (s.length + 1) s [] [] = T0
 refine ywpv (fun l => ∃ (j : Nat) (top : List Fm) (st : List (List Fm)) (n : Nat), l = (((), (), ()), ((s, (j : Int), ()), st.reverse ++ [top], ())) ∧ j ≤ s.length ∧ s.length - j < n ∧ parseS visS (tokS numS) n (s.drop j) top st = T0 ∧ Szs j top st)
  (fun l => s.length - l.2.1.2.1.toNat) ⟨0, [], [], s.length + 1, rfl, Nat.zero_le _, by omega, by simpa using hT0, ⟨by simp, by simp, by simp⟩⟩ ?_
 rintro l ⟨j, top, st, n, rfl, hj, hn, hT, hz⟩
 obtain ⟨v, hv, hq⟩ := next_val (num := numS) hs hj (fun w hw h => number_val (by omega) h)
 cases n with
 | zero => omega
 | succ n =>
 rw [parseS_succ] at hT
 dsimp only
 rw [hv]
 simp only [Option.bind_some]
 have hPl : st.reverse.length = st.length := List.length_reverse
 have hst := hz.hst
 have htop := hz.htop
 have hstl : st.reverse.length < 4611686018427387904 := by rw [hPl]; omega
 cases hsk : skipS false (s.drop j) with
 | nil =>
  rw [hsk] at hq hT
  subst hq
  right
  cases st with
  | nil => subst hT; simp [ixOK, resP, stk_len, IntKind.wrap_i64]
  | cons t st' =>
   subst hT
   have c1 : decide (IntKind.wrap .i64 ((((t :: st').reverse ++ [top]).length : Int) - 1) > 0) = true := by
    rw [stk_len, stk_top hstl]; apply decide_eq_true; rw [hPl]; simp only [List.length_cons]; omega
   simp only [c1]
   rfl
 | cons c r =>
  rw [hsk] at hq hT
  simp only [NextQ] at hq
  by_cases c4 : c = 40 ∨ c = 41
  ·rw [if_pos c4] at hq
   obtain ⟨j', rfl, hjj, hj', hdr⟩ := hq
   have hlen : s.drop j = skipS false (s.drop j) → True := fun _ => trivial
   by_cases c40 : c = 40
   ·subst c40
    left
    have cl : (st.length + 1 + 1) * 24 ≤ 140737488355328 := by omega
    refine ⟨(((), (), ()), ((s, (j' : Int), ()), (st.reverse ++ [top]) ++ [[]], ())), ?_, ⟨j', [], top :: st, n, by simp, hj', by omega, ?_, hz.push hjj⟩, ?_⟩
    ·simp [cl]
    ·rw [hdr]; simpa using hT
    ·simp only [Int.toNat_natCast]; omega
   ·have c41 : c = 41 := c4.resolve_left c40
    subst c41
    cases st with
    | nil =>
     right
     have hT' : Sum.inl 4 = T0 := by simpa using hT
     subst hT'
     simp [stk_len, IntKind.wrap_i64, resP]
    | cons t st' =>
     left
     have hP : (t :: st').reverse = st'.reverse ++ [t] := by simp
     have hl1 : st'.reverse.length = st'.length := List.length_reverse
     have hst2 : st'.length + 1 ≤ j := by simpa using hst
     have htl : t.length ≤ j := hz.hrows t (by simp)
     rw [hP]
     have w1 : IntKind.wrap .i64 ((((st'.reverse ++ [t]) ++ [top]).length : Int) - 1) = (((st'.reverse ++ [t]).length : Nat) : Int) := by
      rw [stk_len]; exact stk_top (by rw [stk_len, hl1]; omega)
     have w2 : IntKind.wrap .i64 ((((st'.reverse ++ [t]).length : Nat) : Int) - 1) = (st'.reverse.length : Int) := by
      rw [stk_len]; exact stk_top (by rw [hl1]; omega)
     have g1 : ((st'.reverse ++ [t]) ++ [top]).getD (st'.reverse ++ [t]).length ([] : List Fm) = top := stk_get
     have g2 : (st'.reverse ++ [t]).getD st'.reverse.length ([] : List Fm) = t := stk_get
     have g3 : ((st'.reverse ++ [t]) ++ [top]).take (st'.reverse ++ [t]).length = st'.reverse ++ [t] := stk_take
     have g4 : ∀ y : List Fm, (st'.reverse ++ [t]).set st'.reverse.length y = st'.reverse ++ [y] := fun y => stk_set
     have c1 : decide (((st'.reverse ++ [t]).length : Int) = 0) = false := by apply decide_eq_false; rw [stk_len]; omega
     have c2 : ixOK (((st'.reverse ++ [t]).length : Nat) : Int) ((st'.reverse ++ [t]) ++ [top]).length = true := ixOK_iff.2 (by rw [stk_len (x := top)]; omega)
     have c3 : decide ((st'.reverse ++ [t]).length < ((st'.reverse ++ [t]) ++ [top]).length) = true := decide_eq_true (by rw [stk_len (x := top)]; omega)
     have c4' : hiOK (((st'.reverse ++ [t]).length : Nat) : Int) ((st'.reverse ++ [t]) ++ [top]).length = true := hiOK_iff.2 (by rw [stk_len (x := top)]; omega)
     have c5 : ixOK ((st'.reverse.length : Nat) : Int) (st'.reverse ++ [t]).length = true := ixOK_iff.2 (by rw [stk_len]; omega)
     have c6 : decide (st'.reverse.length < (st'.reverse ++ [t]).length) = true := decide_eq_true (by rw [stk_len]; omega)
     have c7 : ∀ f : Fm, decide ((t.length + [f].length) * 56 ≤ 140737488355328) = true := fun f => decide_eq_true (by simp only [List.length_cons, List.length_nil]; omega)
     have c8 : decide (st'.reverse.length = st'.reverse.length) = true := decide_eq_true rfl
     have c9 : ∀ f : Fm, ixOK ((t.length : Nat) : Int) (t.length + [f].length) = true := fun f => ixOK_iff.2 (by simp only [List.length_cons, List.length_nil]; omega)
     have c10 : decide (t.length ≤ t.length) = true := decide_eq_true (Nat.le_refl _)
     have c11 : ∀ f : Fm, decide (t.length < t.length + [f].length) = true := fun f => decide_eq_true (by simp)
     refine ⟨(((), (), ()), ((s, (j' : Int), ()), (st'.reverse ++ [t ++ [lstF top]]), ())), ?_, ⟨j', t ++ [lstF top], st', n, rfl, hj', by omega, ?_, hz.pop hjj _⟩, ?_⟩
     ·have e41 : (((41 : UInt8).toNat : Nat) : Int) = 41 := rfl
      simp only [e41, w1, w2, Int.toNat_natCast, g1, g2, g3, g4, c1, c2, c3, c4', c5, c6, c7, c8, c9, c10, c11, cond_true, cond_false, Bool.true_and, one_set, Bool.not_true, show decide ((41 : Int) = 40) = false from rfl, show decide ((41 : Int) = 41) = true from rfl, show decide ((0 : Int) = 0) = true from rfl, show decide ((41 : Int) = 0) = false from rfl]
      refine ybind (ymg rfl rfl) ?_
      simp [lstF]
     ·rw [hdr]; simpa using hT
     ·simp only [Int.toNat_natCast]; omega
  ·rw [if_neg c4] at hq
   simp only [not_or] at c4
   simp only [if_neg c4.1, if_neg c4.2] at hT
   have key : (∃ e : Int, e ≠ 0 ∧ (∃ (t : Int × Fm) (a : Bool) (jj : Int), v = ((t, a, e, ()), ((s, jj, ()), ()))) ∧ T0 = .inl e) ∨
     (∃ (f : Fm) (q : List UInt8) (j' : Nat), v = (((0, f), true, 0, ()), ((s, (j' : Int), ()), ())) ∧ j < j' ∧ j' ≤ s.length ∧ s.drop j' = q ∧ T0 = if touchS visS q = true then .inl 4 else parseS visS (tokS numS) n q (top ++ [f]) st) := by
    by_cases c34 : c = 34
    ·rw [if_pos c34] at hq
     simp only [if_pos c34] at hT
     cases ht : textS r [] with
     | inl e =>
      rw [ht] at hq hT
      exact .inl ⟨e, hq.1, hq.2, hT.symm⟩
     | inr p =>
      obtain ⟨b, q⟩ := p
      rw [ht] at hq hT
      obtain ⟨j', h1, h2, h3, h4⟩ := hq
      exact .inr ⟨txtF b, q, j', h1, h2, h3, h4, hT.symm⟩
    ·rw [if_neg c34] at hq
     simp only [if_neg c34] at hT
     by_cases cv : visS c = true
     ·rw [if_pos cv] at hq
      simp only [if_pos cv] at hT
      cases ht : tokS numS ((c :: r).takeWhile visS) with
      | inl e =>
       rw [ht] at hq hT
       exact .inl ⟨e, hq.1, hq.2, hT.symm⟩
      | inr f =>
       rw [ht] at hq hT
       obtain ⟨j', h1, h2, h3, h4⟩ := hq
       exact .inr ⟨f, _, j', h1, h2, h3, h4, hT.symm⟩
     ·rw [if_neg cv] at hq
      simp only [if_neg cv] at hT
      exact .inl ⟨4, by decide, hq, hT.symm⟩
   rcases key with ⟨e, he, ⟨tt, a, jj, rfl⟩, hR⟩ | ⟨f, q, j', rfl, hjj, hj', hdr, hR⟩
   ·right
    rw [hR]
    have ce : decide (e = 0) = false := decide_eq_false he
    simp only [ce, Bool.not_false, cond_true, Option.bind_some]
    rfl
   ·have w1 : IntKind.wrap .i64 (((st.reverse ++ [top]).length : Int) - 1) = (st.reverse.length : Int) := by
     rw [stk_len]; exact stk_top hstl
    have g1 : (st.reverse ++ [top]).getD st.reverse.length ([] : List Fm) = top := stk_get
    have g4 : ∀ y : List Fm, (st.reverse ++ [top]).set st.reverse.length y = st.reverse ++ [y] := fun y => stk_set
    have c5 : ixOK ((st.reverse.length : Nat) : Int) (st.reverse ++ [top]).length = true := ixOK_iff.2 (by rw [stk_len]; omega)
    have c6 : decide (st.reverse.length < (st.reverse ++ [top]).length) = true := decide_eq_true (by rw [stk_len]; omega)
    have c7 : ∀ f : Fm, decide ((top.length + [f].length) * 56 ≤ 140737488355328) = true := fun f => decide_eq_true (by simp only [List.length_cons, List.length_nil]; omega)
    have c8 : decide (st.reverse.length = st.reverse.length) = true := decide_eq_true rfl
    have c9 : ∀ f : Fm, ixOK ((top.length : Nat) : Int) (top.length + [f].length) = true := fun f => ixOK_iff.2 (by simp only [List.length_cons, List.length_nil]; omega)
    have c10 : decide (top.length ≤ top.length) = true := decide_eq_true (Nat.le_refl _)
    have c11 : ∀ f : Fm, decide (top.length < top.length + [f].length) = true := fun f => decide_eq_true (by simp)
    have fin : ∀ X : Option (Step ((Unit × Unit × Unit) × (((List UInt8) × Int × Unit) × (List (List Fm)) × Unit)) ((List Fm) × Int × Unit)), X = cond (touchS visS q) (some (.done ([], 4, ()))) (some (.next (((), (), ()), ((s, (j' : Int), ()), (st.reverse ++ [top ++ [f]]), ())))) →
      (∃ l', X = some (.next l') ∧ (∃ (j : Nat) (top : List Fm) (st : List (List Fm)) (n : Nat), l' = (((), (), ()), ((s, (j : Int), ()), st.reverse ++ [top], ())) ∧ j ≤ s.length ∧ s.length - j < n ∧ parseS visS (tokS numS) n (s.drop j) top st = T0 ∧ Szs j top st) ∧ s.length - l'.2.1.2.1.toNat < s.length - (j : Int).toNat) ∨ X = some (.done (resP T0)) := fun X hX => by
     cases htc : touchS visS q with
     | true =>
      rw [htc] at hX hR
      right
      rw [hX, hR]; rfl
     | false =>
      rw [htc] at hX hR
      left
      refine ⟨_, hX, ⟨j', top ++ [f], st, n, rfl, hj', by omega, ?_, hz.app hjj f⟩, by simp only [Int.toNat_natCast]; omega⟩
      rw [hdr, hR, if_neg (by decide)]
    refine fin _ ?_
    simp only [w1, Int.toNat_natCast, g1, g4, c5, c6, c7, c8, c9, c10, c11, cond_true, cond_false, Bool.true_and, Bool.and_true, one_set, Bool.not_true, Bool.not_false, show decide ((0 : Int) = 40) = false from rfl, show decide ((0 : Int) = 41) = false from rfl, show decide ((0 : Int) = 0) = true from rfl]
    refine ybind (ymg rfl rfl) ?_
    simp only [Fm.eta_eq, show decide ((0 : Int) = 0) = true from rfl, cond_true]
    exact touch_part hj' hdr _ _
end Go.Ab

set_option maxRecDepth 100000
namespace Go.Ab
open Go Go.RowKit Go.Proofs
abbrev RdS : Type := (List UInt8) × Int × Unit × Bool × Int × Unit
theorem rput_val {f : Fm} {s : List UInt8} {a e : Int} {b : Bool} {P : List (List Fm)} {top : List Fm} (hP : P.length ≤ 1000000000) (ht : top.length ≤ 1000000000) :
  G_rput f (s, a, (), b, e, ()) (P ++ [top]) = some ((), ((s, a, (), b, e, ()), P ++ [top ++ [f]], ())) := by
 unfold G_rput
 have w1 : IntKind.wrap .i64 (((P ++ [top]).length : Int) - 1) = (P.length : Int) := by
  rw [stk_len]; exact stk_top (by omega)
 have g1 : (P ++ [top]).getD P.length ([] : List Fm) = top := stk_get
 have g4 : ∀ y : List Fm, (P ++ [top]).set P.length y = P ++ [y] := fun y => stk_set
 have c5 : ixOK ((P.length : Nat) : Int) (P ++ [top]).length = true := ixOK_iff.2 (by rw [stk_len]; omega)
 have c6 : decide (P.length < (P ++ [top]).length) = true := decide_eq_true (by rw [stk_len]; omega)
 have c7 : ∀ f : Fm, decide ((top.length + [f].length) * 56 ≤ 140737488355328) = true := fun f => decide_eq_true (by simp only [List.length_cons, List.length_nil]; omega)
 have c8 : decide (P.length = P.length) = true := decide_eq_true rfl
 have c9 : ∀ f : Fm, ixOK ((top.length : Nat) : Int) (top.length + [f].length) = true := fun f => ixOK_iff.2 (by simp only [List.length_cons, List.length_nil]; omega)
 have c10 : decide (top.length ≤ top.length) = true := decide_eq_true (Nat.le_refl _)
 have c11 : ∀ f : Fm, decide (top.length < top.length + [f].length) = true := fun f => decide_eq_true (by simp)
 simp only [w1, Int.toNat_natCast, g1, g4, c5, c6, c7, c8, c9, c10, c11, cond_true, cond_false, Bool.true_and, Bool.and_true, one_set, Fm.eta_eq]
 exact ymg rfl rfl
theorem str_ints (b : List UInt8) : strOf (intsOf b) = b := by
 unfold strOf intsOf
 rw [List.map_map]
 refine List.map_id'' (fun c => ?_) b
 simp
def RQ (s : List UInt8) (i0 : Nat) (near : Bool) (P : List (List Fm)) (top : List Fm) (v : Unit × (RdS × (List (List Fm)) × Unit)) : Int ⊕ (List UInt8 × List UInt8) → Prop
 | .inl e => e ≠ 0 ∧ ∃ (a : Int) (nr : Bool) (L : List (List Fm)), v = ((), ((s, a, (), nr, e, ()), L, ()))
 | .inr (b, q) => ∃ j : Nat, v = ((), ((s, (j : Int), (), near, 0, ()), P ++ [top ++ [txtF b]], ())) ∧ i0 < j ∧ j ≤ s.length ∧ s.drop j = q
theorem rquoted_val {s : List UInt8} {i0 : Nat} {near : Bool} {P : List (List Fm)} {top : List Fm} (hs : s.length ≤ 1000000000) (h0 : i0 < s.length) (hP : P.length ≤ 1000000000) (ht : top.length ≤ 1000000000) :
  ∃ v, G_rquoted (s, (i0 : Int), (), near, 0, ()) (P ++ [top]) = some v ∧ RQ s i0 near P top v (textS (s.drop (i0 + 1)) []) := by
 unfold G_rquoted
 simp only [ywrap (show i0 < 4611686018427387904 by omega)]
 refine yloop (fun d => ∃ (i : Nat) (b : List UInt8), d = (((), (), ()), ((s, (i : Int), (), near, 0, ()), P ++ [top], intsOf b, ())) ∧ i0 < i ∧ i ≤ s.length ∧ b.length ≤ i ∧ textS (s.drop i) b = textS (s.drop (i0 + 1)) []) (fun d => s.length - d.2.1.2.1.toNat) _ ?_ ⟨i0 + 1, [], rfl, by omega, by omega, by simp, rfl⟩
 rintro d ⟨i, b, rfl, hi0, hi, hbl, hk⟩
 simp only [Int.toNat_natCast]
 rw [← hk]
 by_cases hi' : i < s.length
 ·have e1 : decide ((i : Int) < (s.length : Int)) = true := by apply decide_eq_true; omega
  have x1 : ixOK (i : Int) s.length = true := ixOK_iff.2 (by omega)
  have hd := ydrop hi'
  have q34 : decide (((s[i].toNat : Nat) : Int) = 34) = decide (s[i] = 34) := ybyteD _ 34 (by decide)
  have q92 : decide (((s[i].toNat : Nat) : Int) = 92) = decide (s[i] = 92) := ybyteD _ 92 (by decide)
  have wi := ywrap (show i < 4611686018427387904 by omega)
  have app : ∀ (c : UInt8), decide (((intsOf b).length + ([((c.toNat : Nat) : Int)] : List Int).length) * 1 ≤ 140737488355328) = true := fun c => by
   apply decide_eq_true; rw [ints_len]; simp only [List.length_cons, List.length_nil]; omega
  simp only [e1, x1, ybyte hi', q34, q92, cond_true, Bool.true_or, wi]
  rw [hd, text_cons]
  by_cases c34 : s[i] = 34
  ·have d34 : decide (s[i] = 34) = true := decide_eq_true c34
   have ne : decide ((i : Int) = (s.length : Int)) = false := decide_eq_false (by omega)
   simp only [d34, Bool.not_true, cond_false, if_pos c34]
   by_cases hb : b.length > 2000
   ·have db : decide (((intsOf b).length : Int) > 2000) = true := by rw [ints_len]; exact decide_eq_true (by omega)
    rw [if_pos hb]
    refine .inr ⟨_, rfl, ?_⟩
    simp only [ne, db, cond_false, cond_true, Option.bind_some, str_ints, wi]
    rw [rput_val hP ht]
    exact ⟨_, rfl, by decide, _, _, _, rfl⟩
   ·have db : decide (((intsOf b).length : Int) > 2000) = false := by rw [ints_len]; exact decide_eq_false (by omega)
    rw [if_neg hb]
    refine .inr ⟨_, rfl, ?_⟩
    simp only [ne, db, cond_false, cond_true, Option.bind_some, str_ints, wi]
    rw [rput_val hP ht]
    exact ⟨_, rfl, i + 1, rfl, by omega, by omega, rfl⟩
  ·have d34 : decide (s[i] = 34) = false := decide_eq_false c34
   rw [if_neg c34]
   simp only [d34, Bool.not_false, cond_true]
   by_cases c92 : s[i] = 92
   ·have d92 : decide (s[i] = 92) = true := decide_eq_true c92
    simp only [d92, cond_true, if_pos c92]
    by_cases hl : i + 1 = s.length
    ·have dl : decide (((i + 1 : Nat) : Int) = (s.length : Int)) = true := decide_eq_true (by omega)
     have he : s.drop (i + 1) = [] := List.drop_of_length_le (by omega)
     rw [dl, cond_true, he]
     refine .inr ⟨_, rfl, ?_⟩
     simp only [dl, cond_true]
     exact ⟨_, rfl, by decide, _, _, _, rfl⟩
    ·have hj : i + 1 < s.length := by omega
     have dl : decide (((i + 1 : Nat) : Int) = (s.length : Int)) = false := decide_eq_false (by omega)
     have x2 : ixOK ((i + 1 : Nat) : Int) s.length = true := ixOK_iff.2 (by omega)
     have r34 : decide (((s[i + 1].toNat : Nat) : Int) = 34) = decide (s[i + 1] = 34) := ybyteD _ 34 (by decide)
     have r92 : decide (((s[i + 1].toNat : Nat) : Int) = 92) = decide (s[i + 1] = 92) := ybyteD _ 92 (by decide)
     have r110 : decide (((s[i + 1].toNat : Nat) : Int) = 110) = decide (s[i + 1] = 110) := ybyteD _ 110 (by decide)
     have wi2 := ywrap (show i + 1 < 4611686018427387904 by omega)
     rw [dl, cond_false, x2, cond_true, ybyte hj, r34, r92, r110, ydrop hj]
     by_cases c110 : s[i + 1] = 110
     ·have d110 : decide (s[i + 1] = 110) = true := decide_eq_true c110
      have a10 : decide (((intsOf b).length + ([(10 : Int)] : List Int).length) * 1 ≤ 140737488355328) = true := app 10
      simp only [d110, cond_true, if_pos c110, Option.bind_some, a10, wi2]
      refine .inl ⟨_, rfl, ⟨i + 1 + 1, b ++ [10], by rw [← ints_app]; rfl, by omega, by omega, by simp; omega, ?_⟩, by simp only [Int.toNat_natCast]; omega⟩
      rfl
     ·have d110 : decide (s[i + 1] = 110) = false := decide_eq_false c110
      simp only [d110, cond_false, if_neg c110]
      by_cases c3 : s[i + 1] = 34 ∨ s[i + 1] = 92
      ·rw [if_pos c3]
       by_cases e34 : s[i + 1] = 34
       ·have dd : decide (s[i + 1] = 34) = true := decide_eq_true e34
        simp only [dd, cond_true, Option.bind_some, app, wi2]
        refine .inl ⟨_, rfl, ⟨i + 1 + 1, b ++ [s[i + 1]], by rw [← ints_app], by omega, by omega, by simp; omega, ?_⟩, by simp only [Int.toNat_natCast]; omega⟩
        rfl
       ·have dd : decide (s[i + 1] = 34) = false := decide_eq_false e34
        have dd2 : decide (s[i + 1] = 92) = true := decide_eq_true (c3.resolve_left e34)
        simp only [dd, dd2, cond_false, cond_true, Option.bind_some, app, wi2]
        refine .inl ⟨_, rfl, ⟨i + 1 + 1, b ++ [s[i + 1]], by rw [← ints_app], by omega, by omega, by simp; omega, ?_⟩, by simp only [Int.toNat_natCast]; omega⟩
        rfl
      ·simp only [not_or] at c3
       have dd : decide (s[i + 1] = 34) = false := decide_eq_false c3.1
       have dd2 : decide (s[i + 1] = 92) = false := decide_eq_false c3.2
       rw [if_neg (by simp [c3.1, c3.2])]
       simp only [dd, dd2, cond_false, Option.bind_some]
       exact .inr ⟨_, rfl, _, rfl, by decide, _, _, _, rfl⟩
   ·have d92 : decide (s[i] = 92) = false := decide_eq_false c92
    simp only [d92, cond_false, if_neg c92]
    have hlt : (s[i] < 32) = (s[i].toNat < 32) := rfl
    have hgt : (s[i] > 126) = (126 < s[i].toNat) := rfl
    by_cases cr : s[i] < 32 ∨ s[i] > 126
    ·have dd : cond (decide (((s[i].toNat : Nat) : Int) < 32)) true (decide (((s[i].toNat : Nat) : Int) > 126)) = true := by
      rw [hlt, hgt] at cr
      by_cases h : ((s[i].toNat : Nat) : Int) < 32
      ·rw [decide_eq_true h]; rfl
      ·rw [decide_eq_false h]; exact decide_eq_true (by omega)
     simp only [dd, cond_true, if_pos cr]
     exact .inr ⟨_, rfl, _, rfl, by decide, _, _, _, rfl⟩
    ·have dd : cond (decide (((s[i].toNat : Nat) : Int) < 32)) true (decide (((s[i].toNat : Nat) : Int) > 126)) = false := by
      rw [hlt, hgt] at cr
      rw [decide_eq_false (show ¬ ((s[i].toNat : Nat) : Int) < 32 by omega)]; exact decide_eq_false (by omega)
     simp only [dd, cond_false, if_neg cr, Option.bind_some, app, cond_true, wi]
     refine .inl ⟨_, rfl, ⟨i + 1, b ++ [s[i]], by rw [← ints_app], by omega, by omega, by simp; omega, ?_⟩, by simp only [Int.toNat_natCast]; omega⟩
     rfl
 ·have e1 : decide ((i : Int) < (s.length : Int)) = false := by apply decide_eq_false; omega
  have el : decide ((i : Int) = (s.length : Int)) = true := decide_eq_true (by omega)
  have hd : s.drop i = [] := List.drop_of_length_le (by omega)
  rw [hd, text_nil]
  refine .inr ⟨_, by simp only [e1, Bool.not_false, Bool.or_true, cond_true, cond_false]; rfl, ?_⟩
  simp only [el, cond_true]
  exact ⟨_, rfl, by decide, _, _, _, rfl⟩
end Go.Ab

set_option maxRecDepth 100000
namespace Go.Ab
open Go Go.RowKit Go.Proofs
theorem ybindv {L R A : Type} {b : L → Option (Step L R)} {l0 : L} {F : R → Option A} {Q : A → Prop} (r : R) (I : L → Prop) (μ : L → Nat) (h0 : I l0)
  (h : ∀ l, I l → (∃ l', b l = some (.next l') ∧ I l' ∧ μ l' < μ l) ∨ b l = some (.done r)) (k : ∃ v, F r = some v ∧ Q v) : ∃ v, Option.bind (loopM b l0) F = some v ∧ Q v := by
 rw [ywpv I μ h0 h]; exact k
theorem rvisible_val (c : UInt8) : G_rvisible ((c.toNat : Nat) : Int) = some (visS c) := visible_val c
theorem rdigits_val {t : List UInt8} (ht : t.length ≤ 4611686018427387000) : G_rDigits t = some (numericS t) := digits_val ht
theorem numS_err (w : List UInt8) : (numS w).2 = 0 ∨ (numS w).2 = 4 ∨ (numS w).2 = 5 := by
 unfold numS
 repeat' split
 all_goals simp
theorem take_tw {p : UInt8 → Bool} (l : List UInt8) : l.take (l.takeWhile p).length = l.takeWhile p := (List.prefix_iff_eq_take.1 (List.takeWhile_prefix p)).symm
theorem drop_tw {p : UInt8 → Bool} (l : List UInt8) : l.drop (l.takeWhile p).length = l.dropWhile p := by
 have h := List.takeWhile_append_dropWhile (p := p) (l := l)
 generalize l.takeWhile p = a at h ⊢
 generalize l.dropWhile p = b at h ⊢
 rw [← h, List.drop_left]
def RT (s : List UInt8) (i0 : Nat) (near : Bool) (P : List (List Fm)) (top : List Fm) (q : List UInt8) (v : Unit × (RdS × (List (List Fm)) × Unit)) : Int ⊕ Fm → Prop
 | .inl e => e ≠ 0 ∧ ∃ (a : Int) (nr : Bool) (L : List (List Fm)), v = ((), ((s, a, (), nr, e, ()), L, ()))
 | .inr f => ∃ j : Nat, v = ((), ((s, (j : Int), (), near, 0, ()), P ++ [top ++ [f]], ())) ∧ i0 < j ∧ j ≤ s.length ∧ s.drop j = q
theorem rtoken_val {s : List UInt8} {i0 : Nat} {near : Bool} {P : List (List Fm)} {top : List Fm} (hs : s.length ≤ 1000000000) (h0 : i0 < s.length) (hv : visS s[i0] = true) (hP : P.length ≤ 1000000000) (ht : top.length ≤ 1000000000) :
  ∃ v, G_rtoken (s, (i0 : Int), (), near, 0, ()) (P ++ [top]) = some v ∧ RT s i0 near P top ((s.drop i0).dropWhile visS) v (tokS numS ((s.drop i0).takeWhile visS)) := by
 unfold G_rtoken
 generalize hk : i0 + ((s.drop i0).takeWhile visS).length = k
 have hkl : k ≤ s.length := by
  have := (List.takeWhile_prefix visS (l := s.drop i0)).length_le
  rw [List.length_drop] at this; omega
 have hpos : 0 < ((s.drop i0).takeWhile visS).length := by rw [ydrop h0, List.takeWhile_cons_of_pos hv]; simp
 refine ybindv (((), (i0 : Int), ()), ((s, (k : Int), (), near, (0 : Int), ()), P ++ [top], ())) (fun d => ∃ i : Nat, d = (((), (i0 : Int), ()), ((s, (i : Int), (), near, (0 : Int), ()), P ++ [top], ())) ∧ i ≤ s.length ∧ i + ((s.drop i).takeWhile visS).length = k) (fun d => s.length - d.2.1.2.1.toNat) ⟨i0, rfl, by omega, hk⟩ ?_ ?_
 ·rintro d ⟨i, rfl, hi, hki⟩
  simp only [Int.toNat_natCast]
  by_cases hi' : i < s.length
  ·have e1 : decide ((i : Int) < (s.length : Int)) = true := by apply decide_eq_true; omega
   have x1 : ixOK (i : Int) s.length = true := ixOK_iff.2 (by omega)
   simp only [e1, x1, ybyte hi', rvisible_val, cond_true, Bool.true_or, Option.bind_some, ywrap (show i < 4611686018427387904 by omega)]
   rw [ydrop hi'] at hki
   cases hvi : visS s[i] with
   | true =>
    rw [List.takeWhile_cons_of_pos hvi, List.length_cons] at hki
    exact .inl ⟨_, rfl, ⟨i + 1, rfl, by omega, by omega⟩, by simp only [Int.toNat_natCast]; omega⟩
   | false =>
    rw [List.takeWhile_cons_of_neg (by rw [hvi]; decide), List.length_nil, Nat.add_zero] at hki
    subst hki
    exact .inr rfl
  ·have e1 : decide ((i : Int) < (s.length : Int)) = false := by apply decide_eq_false; omega
   have hd : s.drop i = [] := List.drop_of_length_le (by omega)
   rw [hd, List.takeWhile_nil, List.length_nil, Nat.add_zero] at hki
   subst hki
   right
   simp only [e1, Bool.not_false, Bool.or_true, cond_true, cond_false, Option.bind_some]
 have hki0 : k - i0 = ((s.drop i0).takeWhile visS).length := by omega
 have hw : (s.drop i0).take (k - i0) = (s.drop i0).takeWhile visS := by rw [hki0]; exact take_tw _
 have hq : s.drop k = (s.drop i0).dropWhile visS := by
  rw [← drop_tw, List.drop_drop, hk]
 have sl : slOK (i0 : Int) (k : Int) s.length = true := slOK_iff.2 (by omega)
 have hwl : ((s.drop i0).takeWhile visS).length ≤ 1000000000 := by omega
 simp only [Option.bind_some, sl, cond_true, Int.toNat_natCast, hw, rdigits_val (show ((s.drop i0).takeWhile visS).length ≤ 4611686018427387000 by omega)]
 generalize (s.drop i0).takeWhile visS = w at *
 unfold tokS
 cases hn : numericS w with
 | true =>
  simp only [Bool.not_true, cond_false, if_true, rnum_val hwl hn, Option.bind_some]
  rcases numS_err w with h | h | h
  ·simp only [resN, h, show ¬ ((0 : Int) = 4) by decide, show ¬ ((0 : Int) = 5) by decide, if_false, if_true, Bool.not_true, cond_false, Option.bind_some, G_rnum, Fm.eta_eq]
   rw [rput_val hP ht]
   exact ⟨_, rfl, k, rfl, by omega, hkl, hq⟩
  ·simp only [resN, h, show ¬ ((4 : Int) = 0) by decide, if_false, if_true, Bool.not_false, cond_true, Option.bind_some, G_rnum, Fm.eta_eq]
   rw [rput_val hP ht]
   exact ⟨_, rfl, by decide, _, _, _, rfl⟩
  ·simp only [resN, h, show ¬ ((5 : Int) = 0) by decide, show ¬ ((5 : Int) = 4) by decide, if_false, if_true, Bool.not_true, Bool.not_false, cond_true, cond_false, Option.bind_some, G_rnum, Fm.eta_eq]
   rw [rput_val hP ht]
   exact ⟨_, rfl, by decide, _, _, _, rfl⟩
 | false =>
  simp only [Bool.not_false, cond_true, if_neg (show ¬ (false = true) by decide), G_rword, Option.bind_some, Fm.eta_eq]
  by_cases hl30 : w.length > 30
  ·have d30 : decide ((w.length : Int) > 30) = true := decide_eq_true (by omega)
   simp only [d30, cond_true, if_pos hl30, Option.bind_some]
   rw [rput_val hP ht]
   exact ⟨_, rfl, by decide, _, _, _, rfl⟩
  ·have d30 : decide ((w.length : Int) > 30) = false := decide_eq_false (by omega)
   simp only [d30, cond_false, if_neg hl30, Option.bind_some]
   rw [rput_val hP ht]
   exact ⟨_, rfl, k, rfl, by omega, hkl, hq⟩
end Go.Ab

set_option maxRecDepth 100000
namespace Go.Ab
open Go Go.RowKit Go.Proofs
def SQ (s : List UInt8) (n j : Nat) (near : Bool) (top : List Fm) (st : List (List Fm)) (v : Unit × (RdS × (List (List Fm)) × Unit)) : Prop :=
 (∃ e : Int, e ≠ 0 ∧ refS visS (tokS numS) (n + 1) (s.drop j) near top st = .inl e ∧ ∃ (a : Int) (nr : Bool) (L : List (List Fm)), v = ((), ((s, a, (), nr, e, ()), L, ()))) ∨
 (∃ (j' : Nat) (near' : Bool) (top' : List Fm) (st' : List (List Fm)), v = ((), ((s, (j' : Int), (), near', 0, ()), st'.reverse ++ [top'], ())) ∧ j < j' ∧ j' ≤ s.length ∧ refS visS (tokS numS) (n + 1) (s.drop j) near top st = refS visS (tokS numS) n (s.drop j') near' top' st' ∧ Szs j' top' st')
theorem rstep_val {s : List UInt8} {n j : Nat} {near : Bool} {top : List Fm} {st : List (List Fm)} (hs : s.length ≤ 1000000000) (hj : j < s.length) (hz : Szs j top st) :
  ∃ v, G_rstep (s, (j : Int), (), near, 0, ()) (st.reverse ++ [top]) = some v ∧ SQ s n j near top st v := by
 have hPl : st.reverse.length = st.length := List.length_reverse
 have hst := hz.hst
 have htop := hz.htop
 have x1 : ixOK (j : Int) s.length = true := ixOK_iff.2 (by omega)
 have wi := ywrap (show j < 4611686018427387904 by omega)
 have q59 : decide (((s[j].toNat : Nat) : Int) = 59) = decide (s[j] = 59) := ybyteD _ 59 (by decide)
 have q40 : decide (((s[j].toNat : Nat) : Int) = 40) = decide (s[j] = 40) := ybyteD _ 40 (by decide)
 have q41 : decide (((s[j].toNat : Nat) : Int) = 41) = decide (s[j] = 41) := ybyteD _ 41 (by decide)
 have q34 : decide (((s[j].toNat : Nat) : Int) = 34) = decide (s[j] = 34) := ybyteD _ 34 (by decide)
 have hd := ydrop hj
 unfold G_rstep SQ
 rw [hd]
 simp only [x1, cond_true, ybyte hj, blank_cond, q59, q40, q41, q34, wi, refS_cons]
 by_cases hb : blankB s[j] = true
 ·simp only [hb, cond_true, if_true]
  exact ⟨_, rfl, .inr ⟨j + 1, false, top, st, rfl, by omega, by omega, rfl, hz.le (by omega)⟩⟩
 ·have hbf : blankB s[j] = false := by simpa using hb
  simp only [hbf, cond_false, if_neg (show ¬ (false = true) by decide)]
  by_cases c59 : s[j] = 59
  ·simp only [decide_eq_true c59, cond_true, if_pos c59]
   generalize hk : j + ((s.drop j).takeWhile (fun x => !decide (x = 10))).length = k
   have hkl : k ≤ s.length := by
    have := (List.takeWhile_prefix (fun x => !decide (x = 10)) (l := s.drop j)).length_le
    rw [List.length_drop] at this; omega
   have hpos : 0 < ((s.drop j).takeWhile (fun x : UInt8 => !decide (x = 10))).length := by rw [hd, List.takeWhile_cons_of_pos (by rw [c59]; decide)]; simp
   rw [ywpv (v := ((), ((s, (k : Int), (), false, (0 : Int), ()), st.reverse ++ [top], ()))) (fun d => ∃ i : Nat, d = (((), ()), ((s, (i : Int), (), false, (0 : Int), ()), st.reverse ++ [top], ())) ∧ i ≤ s.length ∧ i + ((s.drop i).takeWhile (fun x => !decide (x = 10))).length = k) (fun d => s.length - d.2.1.2.1.toNat) ⟨j, rfl, by omega, hk⟩ ?_]
   ·refine ⟨_, rfl, .inr ⟨k, false, top, st, rfl, by omega, hkl, ?_, hz.le (by omega)⟩⟩
    rw [← hd, ← drop_tw, List.drop_drop, hk]
   ·rintro d ⟨i, rfl, hi, hki⟩
    simp only [Int.toNat_natCast]
    by_cases hi' : i < s.length
    ·have e1 : decide ((i : Int) < (s.length : Int)) = true := by apply decide_eq_true; omega
     have x1 : ixOK (i : Int) s.length = true := ixOK_iff.2 (by omega)
     have q10 : decide (((s[i].toNat : Nat) : Int) = 10) = decide (s[i] = 10) := ybyteD _ 10 (by decide)
     simp only [e1, x1, ybyte hi', q10, cond_true, Bool.true_or, ywrap (show i < 4611686018427387904 by omega)]
     rw [ydrop hi'] at hki
     by_cases c10 : s[i] = 10
     ·rw [List.takeWhile_cons_of_neg (by simp [c10]), List.length_nil, Nat.add_zero] at hki
      subst hki
      simp only [decide_eq_true c10, Bool.not_true, cond_false]
      exact .inr trivial
     ·rw [List.takeWhile_cons_of_pos (by simp [c10]), List.length_cons] at hki
      simp only [decide_eq_false c10, Bool.not_false, cond_true]
      exact .inl ⟨_, rfl, ⟨i + 1, rfl, by omega, by omega⟩, by simp only [Int.toNat_natCast]; omega⟩
    ·have e1 : decide ((i : Int) < (s.length : Int)) = false := by apply decide_eq_false; omega
     have hd2 : s.drop i = [] := List.drop_of_length_le (by omega)
     rw [hd2, List.takeWhile_nil, List.length_nil, Nat.add_zero] at hki
     subst hki
     right
     simp only [e1, Bool.not_false, Bool.or_true, cond_true, cond_false]
  ·simp only [decide_eq_false c59, cond_false, if_neg c59]
   by_cases c40 : s[j] = 40
   ·have cl : decide (((st.reverse ++ [top]).length + 1) * 24 ≤ 140737488355328) = true := by
     apply decide_eq_true; rw [stk_len, hPl]; omega
    simp only [decide_eq_true c40, cond_true, if_pos c40, cl]
    exact ⟨_, rfl, .inr ⟨j + 1, false, [], top :: st, by simp, by omega, by omega, rfl, hz.push (by omega)⟩⟩
   ·simp only [decide_eq_false c40, cond_false, if_neg c40]
    have w1 : IntKind.wrap .i64 (((st.reverse ++ [top]).length : Int) - 1) = (st.reverse.length : Int) := by
     rw [stk_len]; exact stk_top (by omega)
    by_cases c41 : s[j] = 41
    ·simp only [decide_eq_true c41, cond_true, if_pos c41, w1]
     cases st with
     | nil =>
      simp only [List.reverse_nil, List.length_nil]
      exact ⟨_, rfl, .inl ⟨4, by decide, rfl, _, _, _, rfl⟩⟩
     | cons t st' =>
      have hP : (t :: st').reverse = st'.reverse ++ [t] := by simp
      have hl1 : st'.reverse.length = st'.length := List.length_reverse
      have hst2 : st'.length + 1 ≤ j := by simpa using hst
      have htl : t.length ≤ j := hz.hrows t (by simp)
      have n0 : decide ((((t :: st').reverse.length : Nat) : Int) = 0) = false := decide_eq_false (by rw [hPl]; simp only [List.length_cons]; omega)
      have c5 : ixOK (((t :: st').reverse.length : Nat) : Int) ((t :: st').reverse ++ [top]).length = true := ixOK_iff.2 (by rw [stk_len]; omega)
      have c6 : decide ((t :: st').reverse.length < ((t :: st').reverse ++ [top]).length) = true := decide_eq_true (by rw [stk_len]; omega)
      have c7 : hiOK (((t :: st').reverse.length : Nat) : Int) ((t :: st').reverse ++ [top]).length = true := hiOK_iff.2 (by rw [stk_len]; omega)
      have g1 : ((t :: st').reverse ++ [top]).getD (t :: st').reverse.length ([] : List Fm) = top := stk_get
      have g3 : ((t :: st').reverse ++ [top]).take (t :: st').reverse.length = (t :: st').reverse := stk_take
      simp only [n0, cond_false, c5, c6, c7, cond_true, Int.toNat_natCast, g1, g3, G_refList, Option.bind_some, Fm.eta_eq]
      rw [hP, rput_val (by rw [hl1]; omega) (by omega)]
      exact ⟨_, rfl, .inr ⟨j + 1, false, t ++ [lstF top], st', rfl, by omega, by omega, rfl, hz.pop (by omega) _⟩⟩
    ·simp only [decide_eq_false c41, cond_false, if_neg c41]
     cases near with
     | true =>
      simp only [cond_true, if_true]
      exact ⟨_, rfl, .inl ⟨4, by decide, rfl, _, _, _, rfl⟩⟩
     | false =>
      simp only [cond_false, if_neg (show ¬ (false = true) by decide)]
      by_cases c34 : s[j] = 34
      ·simp only [decide_eq_true c34, cond_true, if_pos c34]
       obtain ⟨v, h1, h2⟩ := rquoted_val (near := false) (P := st.reverse) (top := top) hs hj (by rw [hPl]; omega) (by omega)
       rw [h1]
       cases ht : textS (s.drop (j + 1)) [] with
       | inl e =>
        rw [ht] at h2
        obtain ⟨he, a, nr, L, rfl⟩ := h2
        exact ⟨_, rfl, .inl ⟨e, he, rfl, _, _, _, rfl⟩⟩
       | inr p =>
        obtain ⟨b, q⟩ := p
        rw [ht] at h2
        obtain ⟨j', rfl, k1, k2, k3⟩ := h2
        exact ⟨_, rfl, .inr ⟨j', true, top ++ [txtF b], st, rfl, k1, k2, by rw [k3], hz.app k1 _⟩⟩
      ·simp only [decide_eq_false c34, cond_false, if_neg c34, rvisible_val, Option.bind_some]
       cases hv : visS s[j] with
       | false =>
        simp only [cond_false, if_neg (show ¬ (false = true) by decide)]
        exact ⟨_, rfl, .inl ⟨4, by decide, rfl, _, _, _, rfl⟩⟩
       | true =>
        simp only [cond_true, if_true]
        obtain ⟨v, h1, h2⟩ := rtoken_val (near := false) (P := st.reverse) (top := top) hs hj hv (by rw [hPl]; omega) (by omega)
        rw [h1]
        rw [hd] at h2
        cases ht : tokS numS ((s[j] :: s.drop (j + 1)).takeWhile visS) with
        | inl e =>
         rw [ht] at h2
         obtain ⟨he, a, nr, L, rfl⟩ := h2
         exact ⟨_, rfl, .inl ⟨e, he, rfl, _, _, _, rfl⟩⟩
        | inr f =>
         rw [ht] at h2
         obtain ⟨j', rfl, k1, k2, k3⟩ := h2
         exact ⟨_, rfl, .inr ⟨j', true, top ++ [f], st, rfl, k1, k2, by rw [k3], hz.app k1 _⟩⟩
theorem rloop_val {A : Type} {s : List UInt8} (hs : s.length ≤ 60000) {F : (Unit × Unit) × (RdS × (List (List Fm)) × Unit) → Option A} {v : A} {T : Int ⊕ List Fm} (hT : refS visS (tokS numS) (s.length + 1) s false [] [] = T)
  (herr : ∀ e : Int, e ≠ 0 → T = .inl e → ∀ (a : Int) (nr : Bool) (L : List (List Fm)), F (((), ()), ((s, a, (), nr, e, ()), L, ())) = some v)
  (hend : ∀ (n : Nat) (nr : Bool) (top : List Fm) (st : List (List Fm)), refS visS (tokS numS) (n + 1) [] nr top st = T → Szs s.length top st → F (((), ()), ((s, (s.length : Int), (), nr, 0, ()), st.reverse ++ [top], ())) = some v) :
  Option.bind (loopM (L := ((List UInt8) × Unit × Unit) × (((List UInt8) × Int × Unit × Bool × Int × Unit) × (List (List Fm)) × Unit)) (R := (Unit × Unit) × (((List UInt8) × Int × Unit × Bool × Int × Unit) × (List (List Fm)) × Unit)) (fun d1 => (
 let l2 := d1.2.2.1
 let v0_3 := d1.1.1
 cond (cond (decide (d1.2.1.2.1 < (v0_3.length : Int))) (decide (d1.2.1.2.2.2.2.1 = 0)) false) (Option.bind (α := (Unit) × (((List UInt8) × Int × Unit × Bool × Int × Unit) × (List (List Fm)) × Unit)) (G_rstep (d1.2.1.1, d1.2.1.2.1, (), d1.2.1.2.2.2.1, d1.2.1.2.2.2.2.1, ()) l2) fun r4 => (
 some (Step.next ((v0_3, (), ()), ((r4.2.1.1, r4.2.1.2.1, (), r4.2.1.2.2.2.1, r4.2.1.2.2.2.2.1, ()), r4.2.2.1, ()))))) (some (Step.done (((), ()), ((d1.2.1.1, d1.2.1.2.1, (), d1.2.1.2.2.2.1, d1.2.1.2.2.2.2.1, ()), l2, ())))))) ((s, (), ()), ((s, 0, (), false, 0, ()), [([] : List Fm)], ()))) F = some v := by
 refine Exists.elim (yloop (F := F) (l0 := ((s, (), ()), ((s, 0, (), false, 0, ()), [([] : List Fm)], ()))) (fun d => (∃ (j n : Nat) (nr : Bool) (top : List Fm) (st : List (List Fm)), d = ((s, (), ()), ((s, (j : Int), (), nr, (0 : Int), ()), st.reverse ++ [top], ())) ∧ j ≤ s.length ∧ s.length - j < n ∧ refS visS (tokS numS) n (s.drop j) nr top st = T ∧ Szs j top st) ∨
   (∃ (e a : Int) (nr : Bool) (L : List (List Fm)), d = ((s, (), ()), ((s, a, (), nr, e, ()), L, ())) ∧ e ≠ 0 ∧ T = .inl e)) (fun d => if d.2.1.2.2.2.2.1 = 0 then s.length + 1 - d.2.1.2.1.toNat else 0) (fun w => w = v) ?_
  (.inl ⟨0, s.length + 1, false, [], [], rfl, Nat.zero_le _, by omega, by simpa using hT, ⟨by simp, by simp, by simp⟩⟩)) (fun w h => by rw [h.1, h.2])
 rintro d (⟨j, n, nr, top, st, rfl, hj, hn, hR, hz⟩ | ⟨e, a, nr, L, rfl, he, hTe⟩)
 ·simp only [Int.toNat_natCast]
  cases n with
  | zero => omega
  | succ n =>
  by_cases hj' : j < s.length
  ·have e1 : decide ((j : Int) < (s.length : Int)) = true := by apply decide_eq_true; omega
   obtain ⟨w, h1, h2⟩ := rstep_val (n := n) (near := nr) (show s.length ≤ 1000000000 by omega) hj' hz
   simp only [e1, cond_true, show decide ((0 : Int) = 0) = true from rfl]
   rw [h1]
   left
   rcases h2 with ⟨e, he, hr, a, nr', L, rfl⟩ | ⟨j', nr', top', st', rfl, k1, k2, k3, k4⟩
   ·refine ⟨_, rfl, .inr ⟨e, a, nr', L, rfl, he, by rw [← hR, hr]⟩, ?_⟩
    simp only [if_neg he, if_true]
    omega
   ·refine ⟨_, rfl, .inl ⟨j', n, nr', top', st', rfl, k2, by omega, by rw [← k3, hR], k4⟩, ?_⟩
    simp only [if_true, Int.toNat_natCast]
    omega
  ·have e1 : decide ((j : Int) < (s.length : Int)) = false := by apply decide_eq_false; omega
   have hjl : j = s.length := by omega
   subst hjl
   right
   rw [List.drop_length] at hR
   refine ⟨_, by simp only [e1, cond_false]; rfl, _, ?_, rfl⟩
   exact hend n nr top st hR hz
 ·right
  have d0 : decide (e = 0) = false := decide_eq_false he
  refine ⟨_, by simp only [d0]; cases decide (a < (s.length : Int)) <;> rfl, _, herr e he hTe a nr L, rfl⟩
end Go.Ab

set_option maxRecDepth 100000
namespace Go.Ab
open Go Go.RowKit Go.Proofs
theorem skip_len : ∀ (b : Bool) (r : List UInt8), (skipS b r).length ≤ r.length
 | _, [] => by simp [skipS]
 | true, c :: r => by
  simp only [skipS, List.length_cons]
  split
  ·have := skip_len false r; omega
  ·have := skip_len true r; omega
 | false, c :: r => by
  simp only [skipS, List.length_cons]
  split
  ·have := skip_len false r; omega
  ·split
   ·have := skip_len true r; omega
   ·simp
def goodT (b : List UInt8) : Prop := ∀ c ∈ b, badB c = false
theorem goodT.app {b : List UInt8} {c : UInt8} (h : goodT b) (hc : badB c = false) : goodT (b ++ [c]) := fun x hx => by
 rcases List.mem_append.1 hx with hx | hx
 ·exact h x hx
 ·rw [List.mem_singleton.1 hx]; exact hc
theorem good_esc {d : UInt8} (h : d = 34 ∨ d = 92) : badB d = false := by rcases h with rfl | rfl <;> decide
theorem good_plain {c : UInt8} (h : ¬ (c < 32 ∨ c > 126)) : badB c = false := by
 revert h
 have : ∀ n : Fin 256, ¬ ((UInt8.ofFin n) < 32 ∨ (UInt8.ofFin n) > 126) → badB (UInt8.ofFin n) = false := by decide +kernel
 exact this c.toFin
theorem textS_good : ∀ (r b x q : List UInt8), textS r b = .inr (x, q) → goodT b → goodT x ∧ x.length ≤ 2000 ∧ x.length + q.length + 1 ≤ b.length + r.length
 | [], b, x, q, h, _ => by simp [textS] at h
 | [c], b, x, q, h, hb => by
  simp only [textS] at h
  split at h
  ·split at h
   ·cases h
   ·cases h; exact ⟨hb, by omega, by simp⟩
  ·split at h
   ·cases h
   ·split at h <;> cases h
 | c :: d :: r, b, x, q, h, hb => by
  simp only [textS] at h
  split at h
  ·split at h
   ·cases h
   ·cases h; exact ⟨hb, by omega, by simp only [List.length_cons]; omega⟩
  ·split at h
   ·split at h
    ·obtain ⟨h1, h2, h3⟩ := textS_good r _ x q h (hb.app (by decide))
     refine ⟨h1, h2, ?_⟩
     simp only [List.length_append, List.length_cons, List.length_nil] at h3 ⊢; omega
    ·split at h
     ·rename_i hd
      obtain ⟨h1, h2, h3⟩ := textS_good r _ x q h (hb.app (good_esc hd))
      refine ⟨h1, h2, ?_⟩
      simp only [List.length_append, List.length_cons, List.length_nil] at h3 ⊢; omega
     ·cases h
   ·split at h
    ·cases h
    ·rename_i hc
     obtain ⟨h1, h2, h3⟩ := textS_good (d :: r) _ x q h (hb.app (good_plain hc))
     refine ⟨h1, h2, ?_⟩
     simp only [List.length_append, List.length_cons, List.length_nil] at h3 ⊢; omega
theorem textS_ne : ∀ (r b : List UInt8), textS r b ≠ .inl 0
 | [], b => by simp [textS]
 | [c], b => by
  simp only [textS]
  split
  ·split <;> simp
  ·split
   ·simp
   ·split <;> simp
 | c :: d :: r, b => by
  simp only [textS]
  split
  ·split <;> simp
  ·split
   ·split
    ·exact textS_ne r _
    ·split
     ·exact textS_ne r _
     ·simp
   ·split
    ·simp
    ·exact textS_ne (d :: r) _
theorem txt_good {b : List UInt8} (h : goodT b) (hl : b.length ≤ 2000) : fieldsF (txtF b) = true := by
 have : badT b = false := by
  rw [badT_any, List.any_eq_false]
  intro c hc; rw [h c hc]; decide
 simp [txtF, fieldsF, fieldsL, leafS, this, hl]
theorem numS_bound (w : List UInt8) (h : (numS w).2 = 0) : -1152921504606846976 ≤ (numS w).1 ∧ (numS w).1 ≤ 1152921504606846976 := by
 unfold numS at h ⊢
 split
 ·rename_i h1; rw [if_pos h1] at h; simp at h
 ·rename_i h1
  rw [if_neg h1] at h
  split
  ·rename_i h2; rw [if_pos h2] at h; simp at h
  ·simp only
   split <;> omega
theorem tok_good {w : List UInt8} {f : Fm} (h : tokS numS w = .inr f) (hv : ∀ c ∈ w, visS c = true) (hne : w ≠ []) : fieldsF f = true ∧ f.big ≤ 2 * w.length := by
 have hpos : 0 < w.length := List.length_pos_iff.2 hne
 unfold tokS at h
 split at h
 ·split at h
  ·rename_i h0
   cases h
   have := numS_bound w h0
   refine ⟨?_, by simp only [nuF, Fm.big, Fm.bigL, List.length_nil]; omega⟩
   simp [nuF, fieldsF, fieldsL, leafS, this]
  ·cases h
 ·rename_i hn
  split at h
  ·cases h
  ·rename_i hl
   cases h
   refine ⟨?_, by simp only [wrdF, Fm.big, Fm.bigL]; omega⟩
   have ho : w.all (fun c => !outsideS c) = true := List.all_eq_true.2 fun c hc => hv c hc
   have hn' : numericS w = false := by simpa using hn
   have hl' : w.length ≤ 30 := by omega
   simp only [wrdF, fieldsF, fieldsL, leafS, wordS, ho, hn', hl']
   simp [hne]
theorem tokS_ne (w : List UInt8) : tokS numS w ≠ .inl 0 := by
 unfold tokS
 split
 ·split
  ·simp
  ·rename_i h; simpa using h
 ·split <;> simp
theorem fieldsL_app : ∀ (a b : List Fm), fieldsL (a ++ b) = (fieldsL a && fieldsL b)
 | [], b => by simp [fieldsL]
 | f :: a, b => by simp [fieldsL, fieldsL_app a b, Bool.and_assoc]
theorem bigL_app : ∀ (a b : List Fm), Fm.bigL (a ++ b) = Fm.bigL a + Fm.bigL b
 | [], b => by simp [Fm.bigL]
 | f :: a, b => by simp [Fm.bigL, bigL_app a b]; omega
def bigLL : List (List Fm) → Nat
 | [] => 0
 | t :: st => Fm.bigL t + bigLL st
theorem takeWhile_all {p : UInt8 → Bool} : ∀ {l : List UInt8} {c : UInt8}, c ∈ l.takeWhile p → p c = true := fun {l c} h => by
 have := List.all_takeWhile (p := p) (l := l)
 exact List.all_eq_true.1 this c h
theorem parse_good : ∀ (n : Nat) (r : List UInt8) (top : List Fm) (st : List (List Fm)) (l : List Fm), parseS visS (tokS numS) n r top st = .inr l → fieldsL top = true → (∀ t ∈ st, fieldsL t = true) →
  fieldsL l = true ∧ Fm.bigL l ≤ Fm.bigL top + bigLL st + 2 * r.length
 | 0, r, top, st, l, h, _, _ => by simp [parseS] at h
 | n + 1, r, top, st, l, h, ht, hst => by
  have hsl := skip_len false r
  rw [parseS_succ] at h
  cases hsk : skipS false r with
  | nil =>
   rw [hsk] at h
   cases st with
   | nil => cases h; exact ⟨ht, by simp [bigLL]⟩
   | cons t st' => cases h
  | cons c r' =>
   rw [hsk] at h hsl
   simp only [List.length_cons] at hsl
   simp only at h
   split at h
   ·obtain ⟨h1, h2⟩ := parse_good n r' [] (top :: st) l h rfl (fun t hx => by rcases List.mem_cons.1 hx with rfl | hx; exact ht; exact hst t hx)
    refine ⟨h1, ?_⟩
    simp only [Fm.bigL, bigLL] at h2; omega
   ·split at h
    ·cases st with
     | nil => cases h
     | cons t st' =>
      simp only at h
      obtain ⟨h1, h2⟩ := parse_good n r' (t ++ [lstF top]) st' l h (by
       rw [fieldsL_app, hst t (by simp)]
       simp [fieldsL, lstF, fieldsF, leafS, ht]) (fun x hx => hst x (by simp [hx]))
      refine ⟨h1, ?_⟩
      simp only [bigL_app, Fm.bigL, lstF, Fm.big, List.length_nil, bigLL] at h2 ⊢; omega
    ·split at h
     ·cases hx : textS r' [] with
      | inl e => rw [hx] at h; cases h
      | inr p =>
       obtain ⟨b, q⟩ := p
       rw [hx] at h
       simp only at h
       obtain ⟨k1, k2, k3⟩ := textS_good r' [] b q hx (fun c hc => by cases hc)
       simp only [List.length_nil] at k3
       split at h
       ·cases h
       ·obtain ⟨h1, h2⟩ := parse_good n q (top ++ [txtF b]) st l h (by rw [fieldsL_app, ht]; simp [fieldsL, txt_good k1 k2]) hst
        refine ⟨h1, ?_⟩
        simp only [bigL_app, Fm.bigL, txtF, Fm.big] at h2; omega
     ·split at h
      ·rename_i hv
       cases hx : tokS numS ((c :: r').takeWhile visS) with
       | inl e => rw [hx] at h; cases h
       | inr f =>
        rw [hx] at h
        simp only at h
        have hne : (c :: r').takeWhile visS ≠ [] := by rw [List.takeWhile_cons_of_pos hv]; simp
        obtain ⟨k1, k2⟩ := tok_good hx (fun c hc => takeWhile_all hc) hne
        have hlen : ((c :: r').takeWhile visS).length + ((c :: r').dropWhile visS).length = r'.length + 1 := by
         rw [← List.length_append, List.takeWhile_append_dropWhile, List.length_cons]
        split at h
        ·cases h
        ·obtain ⟨h1, h2⟩ := parse_good n _ (top ++ [f]) st l h (by rw [fieldsL_app, ht]; simp [fieldsL, k1]) hst
         refine ⟨h1, ?_⟩
         simp only [bigL_app, Fm.bigL] at h2; omega
      ·cases h
theorem parse_ne : ∀ (n : Nat) (r : List UInt8) (top : List Fm) (st : List (List Fm)), r.length < n → parseS visS (tokS numS) n r top st ≠ .inl 0
 | 0, r, top, st, h => by omega
 | n + 1, r, top, st, h => by
  have hsl := skip_len false r
  rw [parseS_succ]
  cases hsk : skipS false r with
  | nil => cases st <;> simp
  | cons c r' =>
   rw [hsk] at hsl
   simp only [List.length_cons] at hsl
   simp only
   split
   ·exact parse_ne n r' _ _ (by omega)
   ·split
    ·cases st with
     | nil => simp
     | cons t st' => exact parse_ne n r' _ _ (by omega)
    ·split
     ·cases hx : textS r' [] with
      | inl e => have := textS_ne r' []; rw [hx] at this; simpa using this
      | inr p =>
       obtain ⟨b, q⟩ := p
       have := textS_len r' [] b q hx
       simp only
       split
       ·simp
       ·exact parse_ne n q _ _ (by omega)
     ·split
      ·rename_i hv
       cases hx : tokS numS ((c :: r').takeWhile visS) with
       | inl e => have := tokS_ne ((c :: r').takeWhile visS); rw [hx] at this; simpa using this
       | inr f =>
        simp only
        have hl : ((c :: r').dropWhile visS).length ≤ r'.length := by rw [List.dropWhile_cons_of_pos hv]; exact drop_len _ _
        split
        ·simp
        ·exact parse_ne n _ _ _ (by omega)
      ·simp
end Go.Ab

set_option maxRecDepth 100000
namespace Go.Ab
open Go Go.RowKit Go.Proofs
def readS (s : List UInt8) : List Fm × Int × Unit :=
 if s.length > 60000 then ([], 2, ()) else match parseS visS (tokS numS) (s.length + 1) s [] [] with
  | .inl e => ([], e, ())
  | .inr l => if l.all validF = true then (l, 0, ()) else ([], 2, ())
theorem getD_ix {l : List Fm} {i : Nat} (h : i < l.length) : l.getD i (Fm.mk 0 0 [] []) = l[i] := by simp [List.getD_eq_getElem?_getD, h]
theorem any_drop {l : List Fm} {i : Nat} {p : Fm → Bool} (h : i < l.length) : (l.drop i).all p = (p l[i] && (l.drop (i + 1)).all p) := by
 rw [List.drop_eq_getElem_cons h, List.all_cons]
theorem indexBad_val {l : List Fm} (hl : l.length ≤ 1000000000) (hb : ∀ f ∈ l, f.big ≤ 4611686018427387000) : ∃ k : Int, G_indexBad l () = some k ∧ (0 ≤ k ↔ l.all validF = false) := by
 unfold G_indexBad
 refine yloop (fun d => ∃ i : Nat, d = ((l, (), (l.length : Int), (i : Int), ()), ()) ∧ i ≤ l.length ∧ (l.drop i).all validF = l.all validF) (fun d => l.length - d.1.2.2.2.1.toNat) _ ?_ ⟨0, rfl, Nat.zero_le _, rfl⟩
 rintro d ⟨i, rfl, hi, hk⟩
 simp only [Int.toNat_natCast]
 by_cases hi' : i < l.length
 ·have e1 : decide ((i : Int) < (l.length : Int)) = true := decide_eq_true (by omega)
  have x1 : ixOK (i : Int) l.length = true := ixOK_iff.2 (by omega)
  have hm : l[i] ∈ l := List.getElem_mem hi'
  simp only [e1, x1, cond_true, getD_ix hi', Fm.eta_eq, G_readBad, rvalid_val (hb _ hm), Option.bind_some, ywrap (show i < 4611686018427387904 by omega)]
  rw [any_drop hi'] at hk
  cases hv : validF l[i] with
  | true =>
   rw [hv, Bool.true_and] at hk
   simp only [Bool.not_true, cond_false]
   exact .inl ⟨_, rfl, ⟨i + 1, rfl, by omega, hk⟩, by simp only [Int.toNat_natCast]; omega⟩
  | false =>
   rw [hv, Bool.false_and] at hk
   simp only [Bool.not_false, cond_true]
   exact .inr ⟨_, rfl, _, rfl, by rw [← hk]; simp⟩
 ·have e1 : decide ((i : Int) < (l.length : Int)) = false := decide_eq_false (by omega)
  have hd : l.drop i = [] := List.drop_of_length_le (by omega)
  rw [hd, List.all_nil] at hk
  simp only [e1, cond_false]
  exact .inr ⟨_, rfl, _, rfl, by rw [← hk]; simp⟩
theorem contains_val {l : List Fm} (hl : l.length ≤ 1000000000) (hb : ∀ f ∈ l, f.big ≤ 4611686018427387000) : G_containsBad1 l () = some (!l.all validF) := by
 obtain ⟨k, h1, h2⟩ := indexBad_val hl hb
 unfold G_containsBad1
 rw [h1]
 simp only [Option.bind_some]
 cases ha : l.all validF with
 | true =>
  have : ¬ (0 ≤ k) := fun h => by rw [h2.1 h] at ha; cases ha
  rw [decide_eq_false (by omega)]; rfl
 | false => rw [decide_eq_true (h2.2 ha)]; rfl
theorem fieldsL_mem : ∀ {l : List Fm}, fieldsL l = true → ∀ f ∈ l, fieldsF f = true
 | [], _, f, h => by cases h
 | g :: l, hl, f, h => by
  simp only [fieldsL, Bool.and_eq_true] at hl
  rcases List.mem_cons.1 h with rfl | h
  ·exact hl.1
  ·exact fieldsL_mem hl.2 f h
theorem big_len : ∀ l : List Fm, l.length ≤ Fm.bigL l
 | [] => Nat.le_refl _
 | f :: l => by
  have := big_len l
  have := big_pos f
  simp only [List.length_cons, Fm.bigL]; omega
theorem parse_ok {s : List UInt8} {l : List Fm} (hs : s.length ≤ 60000) (h : parseS visS (tokS numS) (s.length + 1) s [] [] = .inr l) : (∀ f ∈ l, fieldsF f = true) ∧ (∀ f ∈ l, f.big ≤ 120000) ∧ l.length ≤ 120000 := by
 obtain ⟨h1, h2⟩ := parse_good _ s [] [] l h rfl (fun t ht => by cases ht)
 simp only [Fm.bigL, bigLL] at h2
 refine ⟨fieldsL_mem h1, fun f hf => ?_, ?_⟩
 ·have := big_mem hf; omega
 ·have := big_len l; omega
theorem readA_val {s : List UInt8} : G_readA s = some (readS s) := by
 unfold G_readA readS
 by_cases h : s.length > 60000
 ·rw [if_pos h, decide_eq_true (show ((s.length : Int) > 60000) by omega)]; rfl
 ·rw [if_neg h, decide_eq_false (show ¬ ((s.length : Int) > 60000) by omega), cond_false, parse_val (by omega)]
  cases hp : parseS visS (tokS numS) (s.length + 1) s [] [] with
  | inl e =>
   have he : e ≠ 0 := fun h0 => parse_ne _ s [] [] (Nat.lt_succ_self _) (by rw [hp, h0])
   simp only [Option.bind_some, resP, decide_eq_false he, Bool.not_false, cond_true]
  | inr l =>
   obtain ⟨h1, h2, h3⟩ := parse_ok (by omega) hp
   simp only [Option.bind_some, resP, show decide ((0 : Int) = 0) = true from rfl, Bool.not_true, cond_false, contains_val (show l.length ≤ 1000000000 by omega) (fun f hf => by have := h2 f hf; omega)]
   cases l.all validF with
   | true => rfl
   | false => rfl
theorem vis_not (c : UInt8) (h : visS c = true) : blankB c = false ∧ c ≠ 59 ∧ c ≠ 40 ∧ c ≠ 41 ∧ c ≠ 34 := by
 revert h
 have : ∀ n : Fin 256, visS (UInt8.ofFin n) = true → blankB (UInt8.ofFin n) = false ∧ UInt8.ofFin n ≠ 59 ∧ UInt8.ofFin n ≠ 40 ∧ UInt8.ofFin n ≠ 41 ∧ UInt8.ofFin n ≠ 34 := by decide +kernel
 exact this c.toFin
theorem small1_val {f : Fm} (hb : f.big ≤ 4611686018427387000) (hf : fieldsF f = true) : G_small1 f = some (validF f) := by
 have h := refValid_val hb
 unfold G_refValid at h
 simp only [Fm.eta_eq, fields_val hb, hf, Option.bind_some, cond_true] at h
 cases hs : G_small1 f with
 | none => rw [hs] at h; cases h
 | some b => rw [hs] at h; simpa using h
theorem rRead_val {s : List UInt8} : G_rRead s = some (readS s) := by
 unfold G_rRead readS
 by_cases h : s.length > 60000
 ·rw [if_pos h, decide_eq_true (show ((s.length : Int) > 60000) by omega)]; rfl
 ·rw [if_neg h, decide_eq_false (show ¬ ((s.length : Int) > 60000) by omega), cond_false]
  have hsame : refS visS (tokS numS) (s.length + 1) s false [] [] = parseS visS (tokS numS) (s.length + 1) s [] [] := by
   rw [read_same visS (tokS numS) vis_not s.length s (Nat.le_refl _) (s.length + 1) (s.length + 1) false [] [] (Nat.lt_succ_self _) (Nat.lt_succ_self _)]
   simp
  generalize hT : parseS visS (tokS numS) (s.length + 1) s [] [] = T at hsame
  refine rloop_val (by omega) hsame (fun e he hTe a nr L => ?_) (fun n nr top st hr hz => ?_)
  ·subst hTe
   simp only [decide_eq_false he, cond_false, Option.bind_some, Bool.not_false, cond_true]
  ·cases st with
   | cons t st' =>
    have hT2 : T = .inl 12 := by rw [← hr]; rfl
    subst hT2
    have hl : decide ((((t :: st').reverse ++ [top]).length : Int) > 1) = true := decide_eq_true (by simp; omega)
    simp only [show decide ((0 : Int) = 0) = true from rfl, hl, cond_true, Option.bind_some]
    rfl
   | nil =>
    have hT2 : T = .inr top := by rw [← hr]; rfl
    subst hT2
    obtain ⟨h1, h2, h3⟩ := parse_ok (by omega) hT
    simp only [List.reverse_nil, List.nil_append, List.length_cons, List.length_nil, Nat.zero_add, decide_true, show decide (((1 : Nat) : Int) > 1) = false from rfl, cond_true, cond_false, Option.bind_some, Bool.not_true]
    refine Exists.elim (yloop (l0 := (((), 0, ()), ((s, (s.length : Int), (), nr, 0, ()), [top], ()))) (fun d => ∃ i : Nat, d = (((), (i : Int), ()), ((s, (s.length : Int), (), nr, (0 : Int), ()), [top], ())) ∧ i ≤ top.length ∧ (top.drop i).all validF = top.all validF) (fun d => top.length - d.1.2.1.toNat) (fun w => w = (if top.all validF = true then (top, (0 : Int), ()) else ([], 2, ()))) ?_ ⟨0, rfl, Nat.zero_le _, rfl⟩) (fun w h => by rw [h.1, h.2])
    rintro d ⟨i, rfl, hi, hk⟩
    have x0 : ixOK 0 [top].length = true := rfl
    have d0 : decide ((0 : Int).toNat < [top].length) = true := rfl
    have g0 : [top].getD ((0 : Int).toNat) ([] : List Fm) = top := rfl
    simp only [Int.toNat_natCast, x0, d0, g0, cond_true]
    by_cases hi' : i < top.length
    ·have e1 : decide ((i : Int) < (top.length : Int)) = true := decide_eq_true (by omega)
     have x1 : ixOK (i : Int) top.length = true := ixOK_iff.2 (by omega)
     have hm : top[i] ∈ top := List.getElem_mem hi'
     have hbm := h2 _ hm
     simp only [e1, x1, cond_true, getD_ix hi', Fm.eta_eq, small1_val (show top[i].big ≤ 4611686018427387000 by omega) (h1 _ hm), Option.bind_some, ywrap (show i < 4611686018427387904 by omega)]
     rw [any_drop hi'] at hk
     cases hv : validF top[i] with
     | true =>
      rw [hv, Bool.true_and] at hk
      simp only [Bool.not_true, cond_false]
      exact .inl ⟨_, rfl, ⟨i + 1, rfl, by omega, hk⟩, by simp only [Int.toNat_natCast]; omega⟩
     | false =>
      rw [hv, Bool.false_and] at hk
      simp only [Bool.not_false, cond_true]
      exact .inr ⟨_, rfl, _, rfl, by rw [← hk]; rfl⟩
    ·have e1 : decide ((i : Int) < (top.length : Int)) = false := decide_eq_false (by omega)
     have hd : top.drop i = [] := List.drop_of_length_le (by omega)
     rw [hd, List.all_nil] at hk
     simp only [e1, cond_false]
     exact .inr ⟨_, rfl, _, rfl, by rw [← hk]; rfl⟩
end Go.Ab

set_option maxRecDepth 100000
namespace Go.Ab
open Go Go.RowKit Go.Proofs
theorem refEqual_self {f : Fm} (hb : f.big ≤ 4611686018427387000) : G_refEqual f f = some true := by
 unfold G_refEqual
 simp only [Fm.eta_eq, refCompare_val hb, Option.bind_some, cmpF_self]
 rfl
theorem readS_big (s : List UInt8) : Fm.bigL (readS s).1 ≤ 120000 := by
 unfold readS
 split
 ·simp [Fm.bigL]
 ·split
  ·simp [Fm.bigL]
  ·rename_i l hl
   have h2 := (parse_good _ s [] [] l hl rfl (fun t ht => by cases ht)).2
   simp only [Fm.bigL, bigLL] at h2
   split
   ·simp only; omega
   ·simp [Fm.bigL]
def oneS (s : List UInt8) : Fm × Int × Unit :=
 if (readS s).2.1 ≠ 0 then (Fm.mk 0 0 [] [], (readS s).2.1, ()) else if (readS s).1.length ≠ 1 then (Fm.mk 0 0 [] [], 4, ()) else ((readS s).1.getD 0 (Fm.mk 0 0 [] []), 0, ())
theorem oneA_val (s : List UInt8) : G_oneA s = some (oneS s) := by
 unfold G_oneA oneS
 rw [readA_val]
 simp only [Option.bind_some]
 by_cases he : (readS s).2.1 = 0
 ·rw [decide_eq_true he, if_neg (by simp [he])]
  simp only [Bool.not_true, cond_false]
  by_cases hl : (readS s).1.length = 1
  ·have x0 : ixOK 0 (readS s).1.length = true := by rw [hl]; rfl
   rw [decide_eq_true (show (((readS s).1.length : Nat) : Int) = 1 by omega), if_neg (by simp [hl]), x0, Fm.eta_eq]
   rfl
  ·rw [decide_eq_false (show ¬ (((readS s).1.length : Nat) : Int) = 1 by omega), if_pos hl]
   rfl
 ·rw [decide_eq_false he, if_pos he]
  rfl
theorem rOne_val (s : List UInt8) : G_rOne s = some (oneS s) := by
 unfold G_rOne oneS
 rw [rRead_val]
 simp only [Option.bind_some]
 by_cases he : (readS s).2.1 = 0
 ·rw [decide_eq_true he, if_neg (by simp [he])]
  by_cases hl : (readS s).1.length = 1
  ·have x0 : ixOK 0 (readS s).1.length = true := by rw [hl]; rfl
   rw [decide_eq_true (show (((readS s).1.length : Nat) : Int) = 1 by omega), if_neg (by simp [hl])]
   simp only [Bool.not_true, cond_true, cond_false, Option.bind_some, he, decide_true, x0, Fm.eta_eq]
   rfl
  ·rw [decide_eq_false (show ¬ (((readS s).1.length : Nat) : Int) = 1 by omega), if_pos hl]
   rfl
 ·rw [decide_eq_false he, if_pos he]
  simp only [cond_false, Option.bind_some, decide_eq_false he, Bool.not_false, cond_true]
theorem oneS_big (s : List UInt8) : (oneS s).1.big ≤ 120001 := by
 unfold oneS
 have hb := readS_big s
 split
 ·simp [Fm.big, Fm.bigL]
 ·split
  ·simp [Fm.big, Fm.bigL]
  ·rename_i h1 h2
   have hl : 0 < (readS s).1.length := by simp only [ne_eq, Decidable.not_not] at h2; omega
   simp only
   rw [getD_ix hl]
   have := big_mem (List.getElem_mem hl)
   omega
theorem allA_val {l : List Fm} (hb : Fm.bigL l ≤ 120000) : G_allA l l = some true := by
 unfold G_allA G_refEqAll G_refList
 simp only [Option.bind_some, Fm.eta_eq]
 rw [refEqual_self (by simp only [Fm.big, List.length_nil]; omega)]
 simp
theorem lawReads_val (s : List UInt8) : G_lawReads s = some true := by
 unfold G_lawReads
 simp only [readA_val, rRead_val, oneA_val, rOne_val, Option.bind_some, decide_true, cond_true, allA_val (readS_big s), Fm.eta_eq, refEqual_self (show (oneS s).1.big ≤ 4611686018427387000 by have := oneS_big s; omega), sane01_val]
theorem reads_call (s : List UInt8) : PCall CX 4 [.str s] (· = .ret (.bool true)) :=
 S_lawReads_ok (s, ()) true (lawReads_val s)
end Go.Ab

set_option maxRecDepth 100000
namespace Go.Proofs.YtdagildojaagiaaGreatDoor.readerReads
open Go Go.ChangeShapes Go.WideShapes Go.ChangeAt Go.RowKit Go.Ab
theorem own : ownKnob Tryz.prog.godebug = none := by kernel_rfl
def flat {H : Type} : Nat → DataW H → List Value
 | 0, _ => []
 | n + 1, d => match d with
  | .lit (.int k x) => [.int k x]
  | .agg l => l.flatMap (flat n)
  | _ => []
noncomputable def lay (W : World) (name : String) (d : DataW Unit) : World :=
 match Tryz.prog.globalNamed name with
 | some g => match d with
  | .iface _ (.ptr (.agg [.lit (.string bs)])) => { W with heap := (W.heap.push (.cells #[.string ⟨bs.toArray⟩] 298 (0, 0))).modify g fun
   | .cells _ t fz => .cells #[.iface 296 (.pointer (some ⟨W.heap.size, 0, none⟩))] t fz
   | o => o }
  | d => { W with heap := W.heap.modify g fun
   | .cells _ t fz => .cells (flat 4 d).toArray t fz
   | o => o }
 | none => W
noncomputable def laidWorld (os : Os) : World :=
 lay (lay (lay (lay (lay (lay (lay (World.holding Tryz.prog os ⟨#[], #[], []⟩) "math/bits.deBruijn32tab" Rows.laid_math_bits_deBruijn32tab) "math/bits.deBruijn64tab" Rows.laid_math_bits_deBruijn64tab) "internal/strconv.uint64pow10" Rows.laid_internal_strconv_uint64pow10) "unicode/utf8.acceptRanges" Rows.laid_unicode_utf8_acceptRanges) "strconv.ErrRange" Rows.laid_strconv_ErrRange) "strconv.ErrSyntax" Rows.laid_strconv_ErrSyntax) "unicode/utf8.first" Rows.laid_unicode_utf8_first
theorem laid_met (os : Os) : laidMet Tryz.prog Rows.readerReadsUptoRow.laid ((laidWorld os).forCall (fun _ _ => 0) ⟨#[], #[(.string ⟨#[]⟩)], []⟩).memory :=
 laidMet_of_run' 8 (by kernel_rfl) (by kernel_rfl)
theorem reads (os : Os) {H : Type} (enc : TypeId × Value → H) : ∃ places, DataW.whole enc Tryz.prog ((laidWorld os).forCall (fun _ _ => 0) ⟨#[], #[(.string ⟨#[]⟩)], []⟩).memory Tryz.f4.params.toList Rows.readerReadsSpec.vars false (#[(.string ⟨#[]⟩)] : Array Value).toList 8 = some ([(.lit (.string []))], [], places) :=
 ⟨[], by kernel_rfl⟩
theorem spec_fn (H : Type) (ds : List (DataW H)) (h : ds.length = Tryz.f4.params.toList.length) : Rows.readerReadsSpec.fn H ds = { results := [.lit (.bool true)], args := ds } := by
 rw [Tryz.params4] at h
 rcases ds with _ | ⟨d0, _ | ⟨e, ds⟩⟩
 all_goals first | (simp at h; done) | rfl
theorem contract (H : Type) (enc : TypeId × Value → H) (W : World) (base : Nat) (args : Array Value) (ds gs : List (DataW H)) (before : List MemPlace)
  (hval : ∀ (j : Nat) t v, Tryz.f4.params[j]? = some t → args[j]? = some v → Value.okWide Tryz.prog W .any base t v)
  (hW : DataW.Whole enc Tryz.prog Tryz.f4.params.toList Rows.readerReadsSpec.vars false W args.toList ds gs before) (hb : Rows.uptoSmall H (ds ++ gs) = true) (hE : ErrW W) :
  Calls Tryz.prog 4 args W fun e W' => ∃ v, e = .returned v ∧ Rows.readerReadsSpec.post enc Tryz.prog Tryz.f4 false true false false W args v W' :=
 contract_of (es := [.str]) (n := 12) (tb := 4) rfl spec_fn (by kernel_rfl) (by kernel_rfl) (by kernel_rfl) (by kernel_rfl) (by kernel_rfl) (by kernel_rfl) (fun x _ _ => by obtain ⟨(s : List UInt8), u⟩ := x; exact reads_call s) H enc W base args ds gs before hval hW hb hE
theorem lifted (os : Os) (started : os.Started) (H : Type) (enc : TypeId × Value → H) (F : Stop.Interp) :
  ReturnsInHanded {} Tryz.checked os 4 .any ((Rows.OpenSpec.upto Rows.readerReadsSpec).preRow enc Tryz.prog Tryz.f4 Rows.readerReadsUptoRow.domain false Rows.readerReadsUptoRow.laid) (((Rows.OpenSpec.upto Rows.readerReadsSpec).at F).post enc Tryz.prog Tryz.f4 false true false false) := by
 obtain ⟨places, hx⟩ := reads os enc
 refine returnsInHanded_of_row (C := Tryz.checked) (s := Rows.OpenSpec.upto Rows.readerReadsSpec) own started (by kernel_rfl) Tryz.func4
  (witness_row_at (enc := enc) (C := Tryz.checked) false (laidWorld os) #[(.string ⟨#[]⟩)] rfl (by kernel_rfl) (by kernel_rfl) (by kernel_rfl)
   (OpenSpec.preRow_of_cond 8 hx (by kernel_rfl) (fun k hk => by cases hk; kernel_rfl) (by kernel_rfl) (laid_met os))) ?_
 intro W base args ds gs before hval hW g1 g2 g3 hL g4 g5
 exact contract H enc W base args ds gs before hval hW (g2 _ rfl) (errW_of hL (show ("strconv.ErrRange", Rows.laid_strconv_ErrRange) ∈ Rows.readerReadsUptoRow.laid from by simp [Rows.readerReadsUptoRow]))
theorem band {a b : Bool} (h : a = true) (h' : b = true) : (a && b) = true := by rw [h, h']; rfl
theorem fact1 : (Rows.readerReadsUptoRow.inPlace == Tryz.pinned.checked.prog.inPlace 4) = true := by kernel_rfl
theorem fact2 : (Rows.readerReadsUptoRow.unfollowed == Tryz.pinned.checked.prog.unfollowed 4) = true := by kernel_rfl
theorem fact3 : (Rows.readerReadsUptoRow.recurses == Tryz.pinned.checked.prog.recurses 4) = true := by kernel_rfl
theorem fact4 : (Rows.readerReadsUptoRow.named == Tryz.pinned.checked.prog.varsNamed 4) = true := by kernel_rfl
theorem fact5 : Tryz.pinned.checked.prog.mayEnter = true := by kernel_rfl
theorem fact6 : Tryz.pinned.checked.prog.stopsHeard = true := by kernel_rfl
theorem closed : joinedFacts Tryz.pinned.checked.prog 4 Tryz.f4 (Rows.OpenSpec.upto Rows.readerReadsSpec).bare Rows.readerReadsUptoRow = true := by
 unfold joinedFacts
 repeat' with_reducible refine band ?_ ?_
 all_goals first | with_reducible exact fact1 | with_reducible exact fact2 | with_reducible exact fact3 | with_reducible exact fact4 | with_reducible exact fact5 | with_reducible exact fact6 | kernel_rfl
theorem said : Rows.ReaderReadsUptoSaid :=
 OpenClaim.holds_of_cond 4 Tryz.f4 rfl rfl rfl rfl rfl rfl rfl ⟨rfl, rfl, rfl, rfl, rfl⟩ rfl rfl rfl rfl rfl (by as_aux_lemma => kernel_rfl) Tryz.func4 closed
  (of_decide_eq_true (by kernel_rfl)) (by unfold Func.isWrapper; first | (rw [if_pos (by decide +kernel)]; kernel_rfl) | (rw [if_neg (by decide +kernel)]; exact ⟨rfl, rfl⟩))
  (fun os started H enc _ F => by rw [OpenClaim.pre_eq_preRow]; exact lifted os started H enc F)
theorem plain (f : FuncId) (fn : Func) (hf : Tryz.pinned.checked.prog.funcNamed "plinth/plinthlaw01.ReaderReads" = some f) (hfn : Tryz.pinned.checked.prog.funcs[f]? = some fn) :
  true = Tryz.pinned.checked.prog.looks [] ∧ ∀ (j : Nat) t, fn.params[j]? = some t → Tryz.pinned.checked.prog.wantsStandIn t = false := by
 obtain rfl : f = 4 := Option.some.inj ((show Tryz.prog.funcNamed "plinth/plinthlaw01.ReaderReads" = some 4 by kernel_rfl).symm.trans hf) |>.symm
 obtain rfl : fn = Tryz.f4 := (Option.some.inj (Tryz.func4.symm.trans hfn)).symm
 refine ⟨by kernel_rfl, fun j t ht => ?_⟩
 rw [Tryz.params4] at ht
 have hm := Array.mem_of_getElem? ht
 simp only [List.mem_toArray, List.mem_cons, List.mem_nil_iff, or_false] at hm
 have w0 : Tryz.prog.wantsStandIn 9 = false := by kernel_rfl
 rw [hm]; exact w0
theorem proved : Rows.ReaderReadsUptoCardSaid :=
 Claim7.holds_tied_plain_at .later _ _ _ _ _ said (fun _ h => by cases h) (by kernel_rfl) (fun _ h => by cases h) readerReadsUpto_row_tie rfl ⟨rfl, rfl⟩ (by kernel_rfl) rfl plain (by kernel_rfl)
#print axioms proved
end Go.Proofs.YtdagildojaagiaaGreatDoor.readerReads
