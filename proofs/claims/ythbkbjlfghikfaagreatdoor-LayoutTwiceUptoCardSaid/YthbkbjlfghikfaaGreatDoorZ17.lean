/-
  LAYOUT in plain terms: the remarks and forms of a text.
-/
import Derived.Test.YthbkbjlfghikfaaGreatDoorZ16
import Derived.Test.YthbkbjlfghikfaaGreatDoorZ15
set_option linter.unusedVariables false
set_option linter.unusedSimpArgs false
set_option maxRecDepth 100000
namespace Go.Ab
open Go Go.RowKit Go.Proofs
theorem touch_part {A : Type} {s q : List UInt8} {j : Nat} (hj : j ≤ s.length) (hd : s.drop j = q) (X Y : Option A) :
  cond ((ixOK (j : Int) s.length) || !(decide ((j : Int) < (s.length : Int)))) (Option.bind (cond (decide ((j : Int) < (s.length : Int))) (G_touches (byteAt s (j : Int))) (some false)) fun r10 => cond (cond (decide ((j : Int) < (s.length : Int))) r10 false) X Y) none = cond (touchS visS q) X Y := by
 by_cases h : j < s.length
 ·have x1 : ixOK (j : Int) s.length = true := ixOK_iff.2 (by omega)
  have c1 : decide ((j : Int) < (s.length : Int)) = true := decide_eq_true (by omega)
  rw [ydrop h] at hd
  subst hd
  simp only [x1, c1, Bool.true_or, cond_true, ybyte h, touches_val, Option.bind_some, touchS]
 ·have c1 : decide ((j : Int) < (s.length : Int)) = false := decide_eq_false (by omega)
  have hq : q = [] := by rw [← hd]; exact List.drop_of_length_le (by omega)
  subst hq
  simp only [c1, Bool.not_false, Bool.or_true, cond_true, cond_false, Option.bind_some, touchS]
theorem parse_val {s : List UInt8} (hs : s.length ≤ 1000000000) : G_parse s = some (resP (parseS visS (tokS numS) (s.length + 1) s [] [])) := by
 unfold G_parse
 generalize hT0 : parseS visS (tokS numS) (s.length + 1) s [] [] = T0
 refine ywpv (fun l => ∃ (j : Nat) (top : List Fm) (st : List (List Fm)) (n : Nat), l = (((), (), ()), ((s, (j : Int), ()), st.reverse ++ [top], ())) ∧ j ≤ s.length ∧ s.length - j < n ∧ parseS visS (tokS numS) n (s.drop j) top st = T0 ∧ Szs j top st)
  (fun l => s.length - l.2.1.2.1.toNat) ⟨0, [], [], s.length + 1, rfl, Nat.zero_le _, by omega, by simpa using hT0, ⟨by simp, by simp, by simp⟩⟩ ?_
 rintro l ⟨j, top, st, n, rfl, hj, hn, hT, hz⟩
 obtain ⟨v, hv, hq⟩ := next_val (num := numS) hs hj (fun w hw h => number_val (by omega) h)
 cases n with
 | zero => omega
 | succ n =>
 rw [parseS_succ] at hT
 dsimp only
 rw [hv]
 simp only [Option.bind_some]
 have hPl : st.reverse.length = st.length := List.length_reverse
 have hst := hz.hst
 have htop := hz.htop
 have hstl : st.reverse.length < 4611686018427387904 := by rw [hPl]; omega
 cases hsk : skipS false (s.drop j) with
 | nil =>
  rw [hsk] at hq hT
  subst hq
  right
  cases st with
  | nil => subst hT; simp [ixOK, resP, stk_len, IntKind.wrap_i64]
  | cons t st' =>
   subst hT
   have c1 : decide (IntKind.wrap .i64 ((((t :: st').reverse ++ [top]).length : Int) - 1) > 0) = true := by
    rw [stk_len, stk_top hstl]; apply decide_eq_true; rw [hPl]; simp only [List.length_cons]; omega
   simp only [c1]
   rfl
 | cons c r =>
  rw [hsk] at hq hT
  simp only [NextQ] at hq
  by_cases c4 : c = 40 ∨ c = 41
  ·rw [if_pos c4] at hq
   obtain ⟨j', rfl, hjj, hj', hdr⟩ := hq
   have hlen : s.drop j = skipS false (s.drop j) → True := fun _ => trivial
   by_cases c40 : c = 40
   ·subst c40
    left
    have cl : (st.length + 1 + 1) * 24 ≤ 140737488355328 := by omega
    refine ⟨(((), (), ()), ((s, (j' : Int), ()), (st.reverse ++ [top]) ++ [[]], ())), ?_, ⟨j', [], top :: st, n, by simp, hj', by omega, ?_, hz.push hjj⟩, ?_⟩
    ·simp [cl]
    ·rw [hdr]; simpa using hT
    ·simp only [Int.toNat_natCast]; omega
   ·have c41 : c = 41 := c4.resolve_left c40
    subst c41
    cases st with
    | nil =>
     right
     have hT' : Sum.inl 4 = T0 := by simpa using hT
     subst hT'
     simp [stk_len, IntKind.wrap_i64, resP]
    | cons t st' =>
     left
     have hP : (t :: st').reverse = st'.reverse ++ [t] := by simp
     have hl1 : st'.reverse.length = st'.length := List.length_reverse
     have hst2 : st'.length + 1 ≤ j := by simpa using hst
     have htl : t.length ≤ j := hz.hrows t (by simp)
     rw [hP]
     have w1 : IntKind.wrap .i64 ((((st'.reverse ++ [t]) ++ [top]).length : Int) - 1) = (((st'.reverse ++ [t]).length : Nat) : Int) := by
      rw [stk_len]; exact stk_top (by rw [stk_len, hl1]; omega)
     have w2 : IntKind.wrap .i64 ((((st'.reverse ++ [t]).length : Nat) : Int) - 1) = (st'.reverse.length : Int) := by
      rw [stk_len]; exact stk_top (by rw [hl1]; omega)
     have g1 : ((st'.reverse ++ [t]) ++ [top]).getD (st'.reverse ++ [t]).length ([] : List Fm) = top := stk_get
     have g2 : (st'.reverse ++ [t]).getD st'.reverse.length ([] : List Fm) = t := stk_get
     have g3 : ((st'.reverse ++ [t]) ++ [top]).take (st'.reverse ++ [t]).length = st'.reverse ++ [t] := stk_take
     have g4 : ∀ y : List Fm, (st'.reverse ++ [t]).set st'.reverse.length y = st'.reverse ++ [y] := fun y => stk_set
     have c1 : decide (((st'.reverse ++ [t]).length : Int) = 0) = false := by apply decide_eq_false; rw [stk_len]; omega
     have c2 : ixOK (((st'.reverse ++ [t]).length : Nat) : Int) ((st'.reverse ++ [t]) ++ [top]).length = true := ixOK_iff.2 (by rw [stk_len (x := top)]; omega)
     have c3 : decide ((st'.reverse ++ [t]).length < ((st'.reverse ++ [t]) ++ [top]).length) = true := decide_eq_true (by rw [stk_len (x := top)]; omega)
     have c4' : hiOK (((st'.reverse ++ [t]).length : Nat) : Int) ((st'.reverse ++ [t]) ++ [top]).length = true := hiOK_iff.2 (by rw [stk_len (x := top)]; omega)
     have c5 : ixOK ((st'.reverse.length : Nat) : Int) (st'.reverse ++ [t]).length = true := ixOK_iff.2 (by rw [stk_len]; omega)
     have c6 : decide (st'.reverse.length < (st'.reverse ++ [t]).length) = true := decide_eq_true (by rw [stk_len]; omega)
     have c7 : ∀ f : Fm, decide ((t.length + [f].length) * 56 ≤ 140737488355328) = true := fun f => decide_eq_true (by simp only [List.length_cons, List.length_nil]; omega)
     have c8 : decide (st'.reverse.length = st'.reverse.length) = true := decide_eq_true rfl
     have c9 : ∀ f : Fm, ixOK ((t.length : Nat) : Int) (t.length + [f].length) = true := fun f => ixOK_iff.2 (by simp only [List.length_cons, List.length_nil]; omega)
     have c10 : decide (t.length ≤ t.length) = true := decide_eq_true (Nat.le_refl _)
     have c11 : ∀ f : Fm, decide (t.length < t.length + [f].length) = true := fun f => decide_eq_true (by simp)
     refine ⟨(((), (), ()), ((s, (j' : Int), ()), (st'.reverse ++ [t ++ [lstF top]]), ())), ?_, ⟨j', t ++ [lstF top], st', n, rfl, hj', by omega, ?_, hz.pop hjj _⟩, ?_⟩
     ·have e41 : (((41 : UInt8).toNat : Nat) : Int) = 41 := rfl
      simp only [e41, w1, w2, Int.toNat_natCast, g1, g2, g3, g4, c1, c2, c3, c4', c5, c6, c7, c8, c9, c10, c11, cond_true, cond_false, Bool.true_and, one_set, Bool.not_true, show decide ((41 : Int) = 40) = false from rfl, show decide ((41 : Int) = 41) = true from rfl, show decide ((0 : Int) = 0) = true from rfl, show decide ((41 : Int) = 0) = false from rfl]
      refine ybind (ymg rfl rfl) ?_
      simp [lstF]
     ·rw [hdr]; simpa using hT
     ·simp only [Int.toNat_natCast]; omega
  ·rw [if_neg c4] at hq
   simp only [not_or] at c4
   simp only [if_neg c4.1, if_neg c4.2] at hT
   have key : (∃ e : Int, e ≠ 0 ∧ (∃ (t : Int × Fm) (a : Bool) (jj : Int), v = ((t, a, e, ()), ((s, jj, ()), ()))) ∧ T0 = .inl e) ∨
     (∃ (f : Fm) (q : List UInt8) (j' : Nat), v = (((0, f), true, 0, ()), ((s, (j' : Int), ()), ())) ∧ j < j' ∧ j' ≤ s.length ∧ s.drop j' = q ∧ T0 = if touchS visS q = true then .inl 4 else parseS visS (tokS numS) n q (top ++ [f]) st) := by
    by_cases c34 : c = 34
    ·rw [if_pos c34] at hq
     simp only [if_pos c34] at hT
     cases ht : textS r [] with
     | inl e =>
      rw [ht] at hq hT
      exact .inl ⟨e, hq.1, hq.2, hT.symm⟩
     | inr p =>
      obtain ⟨b, q⟩ := p
      rw [ht] at hq hT
      obtain ⟨j', h1, h2, h3, h4⟩ := hq
      exact .inr ⟨txtF b, q, j', h1, h2, h3, h4, hT.symm⟩
    ·rw [if_neg c34] at hq
     simp only [if_neg c34] at hT
     by_cases cv : visS c = true
     ·rw [if_pos cv] at hq
      simp only [if_pos cv] at hT
      cases ht : tokS numS ((c :: r).takeWhile visS) with
      | inl e =>
       rw [ht] at hq hT
       exact .inl ⟨e, hq.1, hq.2, hT.symm⟩
      | inr f =>
       rw [ht] at hq hT
       obtain ⟨j', h1, h2, h3, h4⟩ := hq
       exact .inr ⟨f, _, j', h1, h2, h3, h4, hT.symm⟩
     ·rw [if_neg cv] at hq
      simp only [if_neg cv] at hT
      exact .inl ⟨4, by decide, hq, hT.symm⟩
   rcases key with ⟨e, he, ⟨tt, a, jj, rfl⟩, hR⟩ | ⟨f, q, j', rfl, hjj, hj', hdr, hR⟩
   ·right
    rw [hR]
    have ce : decide (e = 0) = false := decide_eq_false he
    simp only [ce, Bool.not_false, cond_true, Option.bind_some]
    rfl
   ·have w1 : IntKind.wrap .i64 (((st.reverse ++ [top]).length : Int) - 1) = (st.reverse.length : Int) := by
     rw [stk_len]; exact stk_top hstl
    have g1 : (st.reverse ++ [top]).getD st.reverse.length ([] : List Fm) = top := stk_get
    have g4 : ∀ y : List Fm, (st.reverse ++ [top]).set st.reverse.length y = st.reverse ++ [y] := fun y => stk_set
    have c5 : ixOK ((st.reverse.length : Nat) : Int) (st.reverse ++ [top]).length = true := ixOK_iff.2 (by rw [stk_len]; omega)
    have c6 : decide (st.reverse.length < (st.reverse ++ [top]).length) = true := decide_eq_true (by rw [stk_len]; omega)
    have c7 : ∀ f : Fm, decide ((top.length + [f].length) * 56 ≤ 140737488355328) = true := fun f => decide_eq_true (by simp only [List.length_cons, List.length_nil]; omega)
    have c8 : decide (st.reverse.length = st.reverse.length) = true := decide_eq_true rfl
    have c9 : ∀ f : Fm, ixOK ((top.length : Nat) : Int) (top.length + [f].length) = true := fun f => ixOK_iff.2 (by simp only [List.length_cons, List.length_nil]; omega)
    have c10 : decide (top.length ≤ top.length) = true := decide_eq_true (Nat.le_refl _)
    have c11 : ∀ f : Fm, decide (top.length < top.length + [f].length) = true := fun f => decide_eq_true (by simp)
    have fin : ∀ X : Option (Step ((Unit × Unit × Unit) × (((List UInt8) × Int × Unit) × (List (List Fm)) × Unit)) ((List Fm) × Int × Unit)), X = cond (touchS visS q) (some (.done ([], 4, ()))) (some (.next (((), (), ()), ((s, (j' : Int), ()), (st.reverse ++ [top ++ [f]]), ())))) →
      (∃ l', X = some (.next l') ∧ (∃ (j : Nat) (top : List Fm) (st : List (List Fm)) (n : Nat), l' = (((), (), ()), ((s, (j : Int), ()), st.reverse ++ [top], ())) ∧ j ≤ s.length ∧ s.length - j < n ∧ parseS visS (tokS numS) n (s.drop j) top st = T0 ∧ Szs j top st) ∧ s.length - l'.2.1.2.1.toNat < s.length - (j : Int).toNat) ∨ X = some (.done (resP T0)) := fun X hX => by
     cases htc : touchS visS q with
     | true =>
      rw [htc] at hX hR
      right
      rw [hX, hR]; rfl
     | false =>
      rw [htc] at hX hR
      left
      refine ⟨_, hX, ⟨j', top ++ [f], st, n, rfl, hj', by omega, ?_, hz.app hjj f⟩, by simp only [Int.toNat_natCast]; omega⟩
      rw [hdr, hR, if_neg (by decide)]
    refine fin _ ?_
    simp only [w1, Int.toNat_natCast, g1, g4, c5, c6, c7, c8, c9, c10, c11, cond_true, cond_false, Bool.true_and, Bool.and_true, one_set, Bool.not_true, Bool.not_false, show decide ((0 : Int) = 40) = false from rfl, show decide ((0 : Int) = 41) = false from rfl, show decide ((0 : Int) = 0) = true from rfl]
    refine ybind (ymg rfl rfl) ?_
    simp only [Fm.eta_eq, show decide ((0 : Int) = 0) = true from rfl, cond_true]
    exact touch_part hj' hdr _ _
end Go.Ab

set_option maxRecDepth 100000
namespace Go.Ab
open Go Go.RowKit Go.Proofs
end Go.Ab

set_option maxRecDepth 100000
namespace Go.Ab
open Go Go.RowKit Go.Proofs
end Go.Ab

set_option maxRecDepth 100000
namespace Go.Ab
open Go Go.RowKit Go.Proofs
end Go.Ab

set_option maxRecDepth 100000
namespace Go.Ab
open Go Go.RowKit Go.Proofs
theorem skip_len : ∀ (b : Bool) (r : List UInt8), (skipS b r).length ≤ r.length
 | _, [] => by simp [skipS]
 | true, c :: r => by
  simp only [skipS, List.length_cons]
  split
  ·have := skip_len false r; omega
  ·have := skip_len true r; omega
 | false, c :: r => by
  simp only [skipS, List.length_cons]
  split
  ·have := skip_len false r; omega
  ·split
   ·have := skip_len true r; omega
   ·simp
def goodT (b : List UInt8) : Prop := ∀ c ∈ b, badB c = false
theorem goodT.app {b : List UInt8} {c : UInt8} (h : goodT b) (hc : badB c = false) : goodT (b ++ [c]) := fun x hx => by
 rcases List.mem_append.1 hx with hx | hx
 ·exact h x hx
 ·rw [List.mem_singleton.1 hx]; exact hc
theorem good_esc {d : UInt8} (h : d = 34 ∨ d = 92) : badB d = false := by rcases h with rfl | rfl <;> decide
theorem good_plain {c : UInt8} (h : ¬ (c < 32 ∨ c > 126)) : badB c = false := by
 revert h
 have : ∀ n : Fin 256, ¬ ((UInt8.ofFin n) < 32 ∨ (UInt8.ofFin n) > 126) → badB (UInt8.ofFin n) = false := by decide +kernel
 exact this c.toFin
theorem textS_good : ∀ (r b x q : List UInt8), textS r b = .inr (x, q) → goodT b → goodT x ∧ x.length ≤ 2000 ∧ x.length + q.length + 1 ≤ b.length + r.length
 | [], b, x, q, h, _ => by simp [textS] at h
 | [c], b, x, q, h, hb => by
  simp only [textS] at h
  split at h
  ·split at h
   ·cases h
   ·cases h; exact ⟨hb, by omega, by simp⟩
  ·split at h
   ·cases h
   ·split at h <;> cases h
 | c :: d :: r, b, x, q, h, hb => by
  simp only [textS] at h
  split at h
  ·split at h
   ·cases h
   ·cases h; exact ⟨hb, by omega, by simp only [List.length_cons]; omega⟩
  ·split at h
   ·split at h
    ·obtain ⟨h1, h2, h3⟩ := textS_good r _ x q h (hb.app (by decide))
     refine ⟨h1, h2, ?_⟩
     simp only [List.length_append, List.length_cons, List.length_nil] at h3 ⊢; omega
    ·split at h
     ·rename_i hd
      obtain ⟨h1, h2, h3⟩ := textS_good r _ x q h (hb.app (good_esc hd))
      refine ⟨h1, h2, ?_⟩
      simp only [List.length_append, List.length_cons, List.length_nil] at h3 ⊢; omega
     ·cases h
   ·split at h
    ·cases h
    ·rename_i hc
     obtain ⟨h1, h2, h3⟩ := textS_good (d :: r) _ x q h (hb.app (good_plain hc))
     refine ⟨h1, h2, ?_⟩
     simp only [List.length_append, List.length_cons, List.length_nil] at h3 ⊢; omega
theorem textS_ne : ∀ (r b : List UInt8), textS r b ≠ .inl 0
 | [], b => by simp [textS]
 | [c], b => by
  simp only [textS]
  split
  ·split <;> simp
  ·split
   ·simp
   ·split <;> simp
 | c :: d :: r, b => by
  simp only [textS]
  split
  ·split <;> simp
  ·split
   ·split
    ·exact textS_ne r _
    ·split
     ·exact textS_ne r _
     ·simp
   ·split
    ·simp
    ·exact textS_ne (d :: r) _
theorem txt_good {b : List UInt8} (h : goodT b) (hl : b.length ≤ 2000) : fieldsF (txtF b) = true := by
 have : badT b = false := by
  rw [badT_any, List.any_eq_false]
  intro c hc; rw [h c hc]; decide
 simp [txtF, fieldsF, fieldsL, leafS, this, hl]
theorem numS_bound (w : List UInt8) (h : (numS w).2 = 0) : -1152921504606846976 ≤ (numS w).1 ∧ (numS w).1 ≤ 1152921504606846976 := by
 unfold numS at h ⊢
 split
 ·rename_i h1; rw [if_pos h1] at h; simp at h
 ·rename_i h1
  rw [if_neg h1] at h
  split
  ·rename_i h2; rw [if_pos h2] at h; simp at h
  ·simp only
   split <;> omega
theorem tok_good {w : List UInt8} {f : Fm} (h : tokS numS w = .inr f) (hv : ∀ c ∈ w, visS c = true) (hne : w ≠ []) : fieldsF f = true ∧ f.big ≤ 2 * w.length := by
 have hpos : 0 < w.length := List.length_pos_iff.2 hne
 unfold tokS at h
 split at h
 ·split at h
  ·rename_i h0
   cases h
   have := numS_bound w h0
   refine ⟨?_, by simp only [nuF, Fm.big, Fm.bigL, List.length_nil]; omega⟩
   simp [nuF, fieldsF, fieldsL, leafS, this]
  ·cases h
 ·rename_i hn
  split at h
  ·cases h
  ·rename_i hl
   cases h
   refine ⟨?_, by simp only [wrdF, Fm.big, Fm.bigL]; omega⟩
   have ho : w.all (fun c => !outsideS c) = true := List.all_eq_true.2 fun c hc => hv c hc
   have hn' : numericS w = false := by simpa using hn
   have hl' : w.length ≤ 30 := by omega
   simp only [wrdF, fieldsF, fieldsL, leafS, wordS, ho, hn', hl']
   simp [hne]
theorem tokS_ne (w : List UInt8) : tokS numS w ≠ .inl 0 := by
 unfold tokS
 split
 ·split
  ·simp
  ·rename_i h; simpa using h
 ·split <;> simp
theorem fieldsL_app : ∀ (a b : List Fm), fieldsL (a ++ b) = (fieldsL a && fieldsL b)
 | [], b => by simp [fieldsL]
 | f :: a, b => by simp [fieldsL, fieldsL_app a b, Bool.and_assoc]
theorem bigL_app : ∀ (a b : List Fm), Fm.bigL (a ++ b) = Fm.bigL a + Fm.bigL b
 | [], b => by simp [Fm.bigL]
 | f :: a, b => by simp [Fm.bigL, bigL_app a b]; omega
def bigLL : List (List Fm) → Nat
 | [] => 0
 | t :: st => Fm.bigL t + bigLL st
theorem takeWhile_all {p : UInt8 → Bool} : ∀ {l : List UInt8} {c : UInt8}, c ∈ l.takeWhile p → p c = true := fun {l c} h => by
 have := List.all_takeWhile (p := p) (l := l)
 exact List.all_eq_true.1 this c h
theorem parse_good : ∀ (n : Nat) (r : List UInt8) (top : List Fm) (st : List (List Fm)) (l : List Fm), parseS visS (tokS numS) n r top st = .inr l → fieldsL top = true → (∀ t ∈ st, fieldsL t = true) →
  fieldsL l = true ∧ Fm.bigL l ≤ Fm.bigL top + bigLL st + 2 * r.length
 | 0, r, top, st, l, h, _, _ => by simp [parseS] at h
 | n + 1, r, top, st, l, h, ht, hst => by
  have hsl := skip_len false r
  rw [parseS_succ] at h
  cases hsk : skipS false r with
  | nil =>
   rw [hsk] at h
   cases st with
   | nil => cases h; exact ⟨ht, by simp [bigLL]⟩
   | cons t st' => cases h
  | cons c r' =>
   rw [hsk] at h hsl
   simp only [List.length_cons] at hsl
   simp only at h
   split at h
   ·obtain ⟨h1, h2⟩ := parse_good n r' [] (top :: st) l h rfl (fun t hx => by rcases List.mem_cons.1 hx with rfl | hx; exact ht; exact hst t hx)
    refine ⟨h1, ?_⟩
    simp only [Fm.bigL, bigLL] at h2; omega
   ·split at h
    ·cases st with
     | nil => cases h
     | cons t st' =>
      simp only at h
      obtain ⟨h1, h2⟩ := parse_good n r' (t ++ [lstF top]) st' l h (by
       rw [fieldsL_app, hst t (by simp)]
       simp [fieldsL, lstF, fieldsF, leafS, ht]) (fun x hx => hst x (by simp [hx]))
      refine ⟨h1, ?_⟩
      simp only [bigL_app, Fm.bigL, lstF, Fm.big, List.length_nil, bigLL] at h2 ⊢; omega
    ·split at h
     ·cases hx : textS r' [] with
      | inl e => rw [hx] at h; cases h
      | inr p =>
       obtain ⟨b, q⟩ := p
       rw [hx] at h
       simp only at h
       obtain ⟨k1, k2, k3⟩ := textS_good r' [] b q hx (fun c hc => by cases hc)
       simp only [List.length_nil] at k3
       split at h
       ·cases h
       ·obtain ⟨h1, h2⟩ := parse_good n q (top ++ [txtF b]) st l h (by rw [fieldsL_app, ht]; simp [fieldsL, txt_good k1 k2]) hst
        refine ⟨h1, ?_⟩
        simp only [bigL_app, Fm.bigL, txtF, Fm.big] at h2; omega
     ·split at h
      ·rename_i hv
       cases hx : tokS numS ((c :: r').takeWhile visS) with
       | inl e => rw [hx] at h; cases h
       | inr f =>
        rw [hx] at h
        simp only at h
        have hne : (c :: r').takeWhile visS ≠ [] := by rw [List.takeWhile_cons_of_pos hv]; simp
        obtain ⟨k1, k2⟩ := tok_good hx (fun c hc => takeWhile_all hc) hne
        have hlen : ((c :: r').takeWhile visS).length + ((c :: r').dropWhile visS).length = r'.length + 1 := by
         rw [← List.length_append, List.takeWhile_append_dropWhile, List.length_cons]
        split at h
        ·cases h
        ·obtain ⟨h1, h2⟩ := parse_good n _ (top ++ [f]) st l h (by rw [fieldsL_app, ht]; simp [fieldsL, k1]) hst
         refine ⟨h1, ?_⟩
         simp only [bigL_app, Fm.bigL] at h2; omega
      ·cases h
theorem parse_ne : ∀ (n : Nat) (r : List UInt8) (top : List Fm) (st : List (List Fm)), r.length < n → parseS visS (tokS numS) n r top st ≠ .inl 0
 | 0, r, top, st, h => by omega
 | n + 1, r, top, st, h => by
  have hsl := skip_len false r
  rw [parseS_succ]
  cases hsk : skipS false r with
  | nil => cases st <;> simp
  | cons c r' =>
   rw [hsk] at hsl
   simp only [List.length_cons] at hsl
   simp only
   split
   ·exact parse_ne n r' _ _ (by omega)
   ·split
    ·cases st with
     | nil => simp
     | cons t st' => exact parse_ne n r' _ _ (by omega)
    ·split
     ·cases hx : textS r' [] with
      | inl e => have := textS_ne r' []; rw [hx] at this; simpa using this
      | inr p =>
       obtain ⟨b, q⟩ := p
       have := textS_len r' [] b q hx
       simp only
       split
       ·simp
       ·exact parse_ne n q _ _ (by omega)
     ·split
      ·rename_i hv
       cases hx : tokS numS ((c :: r').takeWhile visS) with
       | inl e => have := tokS_ne ((c :: r').takeWhile visS); rw [hx] at this; simpa using this
       | inr f =>
        simp only
        have hl : ((c :: r').dropWhile visS).length ≤ r'.length := by rw [List.dropWhile_cons_of_pos hv]; exact drop_len _ _
        split
        ·simp
        ·exact parse_ne n _ _ _ (by omega)
      ·simp
end Go.Ab

set_option maxRecDepth 100000
namespace Go.Ab
open Go Go.RowKit Go.Proofs
def readS (s : List UInt8) : List Fm × Int × Unit :=
 if s.length > 60000 then ([], 2, ()) else match parseS visS (tokS numS) (s.length + 1) s [] [] with
  | .inl e => ([], e, ())
  | .inr l => if l.all validF = true then (l, 0, ()) else ([], 2, ())
theorem getD_ix {l : List Fm} {i : Nat} (h : i < l.length) : l.getD i (Fm.mk 0 0 [] []) = l[i] := by simp [List.getD_eq_getElem?_getD, h]
theorem any_drop {l : List Fm} {i : Nat} {p : Fm → Bool} (h : i < l.length) : (l.drop i).all p = (p l[i] && (l.drop (i + 1)).all p) := by
 rw [List.drop_eq_getElem_cons h, List.all_cons]
theorem indexBad_val {l : List Fm} (hl : l.length ≤ 1000000000) (hb : ∀ f ∈ l, f.big ≤ 4611686018427387000) : ∃ k : Int, G_indexBad l () = some k ∧ (0 ≤ k ↔ l.all validF = false) := by
 unfold G_indexBad
 refine yloop (fun d => ∃ i : Nat, d = ((l, (), (l.length : Int), (i : Int), ()), ()) ∧ i ≤ l.length ∧ (l.drop i).all validF = l.all validF) (fun d => l.length - d.1.2.2.2.1.toNat) _ ?_ ⟨0, rfl, Nat.zero_le _, rfl⟩
 rintro d ⟨i, rfl, hi, hk⟩
 simp only [Int.toNat_natCast]
 by_cases hi' : i < l.length
 ·have e1 : decide ((i : Int) < (l.length : Int)) = true := decide_eq_true (by omega)
  have x1 : ixOK (i : Int) l.length = true := ixOK_iff.2 (by omega)
  have hm : l[i] ∈ l := List.getElem_mem hi'
  simp only [e1, x1, cond_true, getD_ix hi', Fm.eta_eq, G_readBad, rvalid_val (hb _ hm), Option.bind_some, ywrap (show i < 4611686018427387904 by omega)]
  rw [any_drop hi'] at hk
  cases hv : validF l[i] with
  | true =>
   rw [hv, Bool.true_and] at hk
   simp only [Bool.not_true, cond_false]
   exact .inl ⟨_, rfl, ⟨i + 1, rfl, by omega, hk⟩, by simp only [Int.toNat_natCast]; omega⟩
  | false =>
   rw [hv, Bool.false_and] at hk
   simp only [Bool.not_false, cond_true]
   exact .inr ⟨_, rfl, _, rfl, by rw [← hk]; simp⟩
 ·have e1 : decide ((i : Int) < (l.length : Int)) = false := decide_eq_false (by omega)
  have hd : l.drop i = [] := List.drop_of_length_le (by omega)
  rw [hd, List.all_nil] at hk
  simp only [e1, cond_false]
  exact .inr ⟨_, rfl, _, rfl, by rw [← hk]; simp⟩
theorem contains_val {l : List Fm} (hl : l.length ≤ 1000000000) (hb : ∀ f ∈ l, f.big ≤ 4611686018427387000) : G_containsBad1 l () = some (!l.all validF) := by
 obtain ⟨k, h1, h2⟩ := indexBad_val hl hb
 unfold G_containsBad1
 rw [h1]
 simp only [Option.bind_some]
 cases ha : l.all validF with
 | true =>
  have : ¬ (0 ≤ k) := fun h => by rw [h2.1 h] at ha; cases ha
  rw [decide_eq_false (by omega)]; rfl
 | false => rw [decide_eq_true (h2.2 ha)]; rfl
theorem fieldsL_mem : ∀ {l : List Fm}, fieldsL l = true → ∀ f ∈ l, fieldsF f = true
 | [], _, f, h => by cases h
 | g :: l, hl, f, h => by
  simp only [fieldsL, Bool.and_eq_true] at hl
  rcases List.mem_cons.1 h with rfl | h
  ·exact hl.1
  ·exact fieldsL_mem hl.2 f h
theorem big_len : ∀ l : List Fm, l.length ≤ Fm.bigL l
 | [] => Nat.le_refl _
 | f :: l => by
  have := big_len l
  have := big_pos f
  simp only [List.length_cons, Fm.bigL]; omega
theorem parse_ok {s : List UInt8} {l : List Fm} (hs : s.length ≤ 60000) (h : parseS visS (tokS numS) (s.length + 1) s [] [] = .inr l) : (∀ f ∈ l, fieldsF f = true) ∧ (∀ f ∈ l, f.big ≤ 120000) ∧ l.length ≤ 120000 := by
 obtain ⟨h1, h2⟩ := parse_good _ s [] [] l h rfl (fun t ht => by cases ht)
 simp only [Fm.bigL, bigLL] at h2
 refine ⟨fieldsL_mem h1, fun f hf => ?_, ?_⟩
 ·have := big_mem hf; omega
 ·have := big_len l; omega
theorem readA_val {s : List UInt8} : G_readA s = some (readS s) := by
 unfold G_readA readS
 by_cases h : s.length > 60000
 ·rw [if_pos h, decide_eq_true (show ((s.length : Int) > 60000) by omega)]; rfl
 ·rw [if_neg h, decide_eq_false (show ¬ ((s.length : Int) > 60000) by omega), cond_false, parse_val (by omega)]
  cases hp : parseS visS (tokS numS) (s.length + 1) s [] [] with
  | inl e =>
   have he : e ≠ 0 := fun h0 => parse_ne _ s [] [] (Nat.lt_succ_self _) (by rw [hp, h0])
   simp only [Option.bind_some, resP, decide_eq_false he, Bool.not_false, cond_true]
  | inr l =>
   obtain ⟨h1, h2, h3⟩ := parse_ok (by omega) hp
   simp only [Option.bind_some, resP, show decide ((0 : Int) = 0) = true from rfl, Bool.not_true, cond_false, contains_val (show l.length ≤ 1000000000 by omega) (fun f hf => by have := h2 f hf; omega)]
   cases l.all validF with
   | true => rfl
   | false => rfl
theorem vis_not (c : UInt8) (h : visS c = true) : blankB c = false ∧ c ≠ 59 ∧ c ≠ 40 ∧ c ≠ 41 ∧ c ≠ 34 := by
 revert h
 have : ∀ n : Fin 256, visS (UInt8.ofFin n) = true → blankB (UInt8.ofFin n) = false ∧ UInt8.ofFin n ≠ 59 ∧ UInt8.ofFin n ≠ 40 ∧ UInt8.ofFin n ≠ 41 ∧ UInt8.ofFin n ≠ 34 := by decide +kernel
 exact this c.toFin
end Go.Ab

set_option maxRecDepth 100000
namespace Go.Ab
open Go Go.RowKit Go.Proofs
theorem dec_digits : ∀ u : Nat, (Lib.decDigits u).all digitB = true := by
 intro u
 induction u using Nat.strongRecOn with
 | _ u ih =>
  have h1 : ∀ d : Nat, d < 10 → digitB (UInt8.ofNat (48 + d)) = true := by decide
  by_cases h : u < 10
  ·rw [Lib.decDigits_one h]; simp only [List.all_cons, List.all_nil, Bool.and_true]; exact h1 u h
  ·rw [Lib.decDigits, dif_neg h, List.all_append, ih (u / 10) (by omega)]
   simp only [List.all_cons, List.all_nil, Bool.and_true, Bool.true_and]; exact h1 (u % 10) (by omega)
theorem valD_app (acc : Nat) (a b : List UInt8) : valD acc (a ++ b) = valD (valD acc a) b := by unfold valD; rw [List.foldl_append]
theorem dec_val : ∀ u : Nat, valD 0 (Lib.decDigits u) = u := by
 intro u
 induction u using Nat.strongRecOn with
 | _ u ih =>
  have h1 : ∀ d : Nat, d < 10 → (UInt8.ofNat (48 + d)).toNat - 48 = d := by decide
  by_cases h : u < 10
  ·rw [Lib.decDigits_one h, valD_cons, valD_nil, h1 u h]; omega
  ·rw [Lib.decDigits, dif_neg h, valD_app, ih (u / 10) (by omega), valD_cons, valD_nil, h1 (u % 10) (by omega)]; omega
theorem dec_ne (u : Nat) : Lib.decDigits u ≠ [] := by
 intro h
 have h1 := Lib.decDigits_length u
 have h2 := Lib.nDigits_pos u
 rw [h, List.length_nil] at h1
 omega
theorem dec_head : ∀ u : Nat, 10 ≤ u → (Lib.decDigits u).head? ≠ some 48 := by
 intro u
 induction u using Nat.strongRecOn with
 | _ u ih =>
  intro h
  have h1 : ∀ d : Nat, d < 10 → 1 ≤ d → UInt8.ofNat (48 + d) ≠ 48 := by decide
  rw [Lib.decDigits, dif_neg (by omega)]
  by_cases h2 : u / 10 < 10
  ·rw [Lib.decDigits_one h2]
   intro e
   exact h1 (u / 10) h2 (by omega) (Option.some.inj e)
  ·have := ih (u / 10) (by omega) (by omega)
   have hne := dec_ne (u / 10)
   cases hd : Lib.decDigits (u / 10) with
   | nil => exact absurd hd hne
   | cons c r => rw [hd] at this; simpa using this
theorem dec_one (u : Nat) : ¬ (1 < (Lib.decDigits u).length ∧ (Lib.decDigits u).head? = some 48) := by
 rintro ⟨h1, h2⟩
 by_cases h : u < 10
 ·rw [Lib.decDigits_one h] at h1; simp at h1
 ·exact dec_head u (by omega) h2
theorem digit_not45 {c : UInt8} (h : digitB c = true) : c ≠ 45 := by
 intro e; subst e; revert h; decide
theorem digit_vis {c : UInt8} (h : digitB c = true) : visS c = true := by
 have : ∀ n : Fin 256, digitB (UInt8.ofFin n) = true → visS (UInt8.ofFin n) = true := by decide +kernel
 exact this c.toFin h
theorem cut_dec (u : Nat) : cutMinus (Lib.decDigits u) = Lib.decDigits u := by
 unfold cutMinus
 have h := dec_digits u
 cases hd : Lib.decDigits u with
 | nil => rfl
 | cons c r =>
  rw [hd, List.all_cons, Bool.and_eq_true] at h
  rw [if_neg (by simp [digit_not45 h.1])]
theorem cut_neg (r : List UInt8) : cutMinus (45 :: r) = r := by unfold cutMinus; rw [if_pos (by simp)]; rfl
theorem head_dec (u : Nat) : (Lib.decDigits u).head? ≠ some 45 := by
 have h := dec_digits u
 cases hd : Lib.decDigits u with
 | nil => simp
 | cons c r =>
  rw [hd, List.all_cons, Bool.and_eq_true] at h
  simp [digit_not45 h.1]
theorem numeric_itoa (n : Int) : numericS (Lib.itoa n) = true := by
 unfold numericS Lib.itoa
 split
 ·rw [cut_neg]; simp [dec_ne, dec_digits]
 ·rw [cut_dec]; simp [dec_ne, dec_digits]
theorem num_itoa {n : Int} (h1 : -1152921504606846976 ≤ n) (h2 : n ≤ 1152921504606846976) : numS (Lib.itoa n) = (n, 0) := by
 unfold numS Lib.itoa
 split
 ·rename_i h
  rw [cut_neg, dec_val, if_neg, if_neg (by omega), if_pos (by simp)]
  ·congr 1; omega
  ·rintro (h3 | h3)
   ·exact dec_one _ h3
   ·have h4 : Lib.decDigits n.natAbs = [48] := by simpa using h3
    have := dec_val n.natAbs
    rw [h4] at this
    have e : valD 0 [48] = 0 := rfl
    rw [e] at this; omega
 ·rename_i h
  rw [cut_dec, dec_val, if_neg, if_neg (by omega), if_neg (head_dec _)]
  ·congr 1; omega
  ·rintro (h3 | h3)
   ·exact dec_one _ h3
   ·exact head_dec n.toNat (by rw [h3]; rfl)
theorem itoa_vis (n : Int) : ∀ c ∈ Lib.itoa n, visS c = true := by
 unfold Lib.itoa
 split
 ·intro c hc
  rcases List.mem_cons.1 hc with rfl | hc
  ·decide
  ·exact digit_vis (List.all_eq_true.1 (dec_digits _) c hc)
 ·intro c hc; exact digit_vis (List.all_eq_true.1 (dec_digits _) c hc)
theorem itoa_ne (n : Int) : Lib.itoa n ≠ [] := by
 unfold Lib.itoa
 split
 ·simp
 ·exact dec_ne _
theorem text_end (q b : List UInt8) (h : b.length ≤ 2000) : textS (34 :: q) b = .inr (b, q) := by
 cases q <;> simp [textS] <;> omega
theorem text_esc {d : UInt8} (h : d = 34 ∨ d = 92) (q b : List UInt8) : textS (92 :: d :: q) b = textS q (b ++ [d]) := by
 rcases h with rfl | rfl <;> simp [textS]
theorem text_nl (q b : List UInt8) : textS (92 :: 110 :: q) b = textS q (b ++ [10]) := by simp [textS]
theorem text_plain {c : UInt8} (h1 : c ≠ 34) (h2 : c ≠ 92) (h3 : ¬ (c < 32 ∨ c > 126)) (d : UInt8) (q b : List UInt8) : textS (c :: d :: q) b = textS (d :: q) (b ++ [c]) := by
 simp [textS, h1, h2, h3]
theorem rep_cases (c : UInt8) (h : badB c = false) : (c = 92 ∧ repB c.toNat = some [92, 92]) ∨ (c = 34 ∧ repB c.toNat = some [92, 34]) ∨ (c = 10 ∧ repB c.toNat = some [92, 110]) ∨ (c ≠ 34 ∧ c ≠ 92 ∧ ¬ (c < 32 ∨ c > 126) ∧ repB c.toNat = none) := by
 have : ∀ n : Fin 256, badB (UInt8.ofFin n) = false → (UInt8.ofFin n = 92 ∧ repB (UInt8.ofFin n).toNat = some [92, 92]) ∨ (UInt8.ofFin n = 34 ∧ repB (UInt8.ofFin n).toNat = some [92, 34]) ∨ (UInt8.ofFin n = 10 ∧ repB (UInt8.ofFin n).toNat = some [92, 110]) ∨ (UInt8.ofFin n ≠ 34 ∧ UInt8.ofFin n ≠ 92 ∧ ¬ (UInt8.ofFin n < 32 ∨ UInt8.ofFin n > 126) ∧ repB (UInt8.ofFin n).toNat = none) := by decide +kernel
 exact this c.toFin h
theorem esc_cons (c : UInt8) (t : List UInt8) : escS (c :: t) = (repB c.toNat).getD [c] ++ escS t := by simp [escS]
theorem text_back : ∀ (t b q : List UInt8), (∀ c ∈ t, badB c = false) → b.length + t.length ≤ 2000 → textS (escS t ++ (34 :: q)) b = .inr (b ++ t, q)
 | [], b, q, _, hl => by
  have e : escS [] = [] := rfl
  rw [e, List.nil_append, List.append_nil, text_end q b (by simpa using hl)]
 | c :: t, b, q, hc, hl => by
  have ih := fun d => text_back t (b ++ [d]) q (fun x hx => hc x (by simp [hx])) (by simp only [List.length_cons, List.length_append, List.length_nil] at hl ⊢; omega)
  have e2 : ∀ d : UInt8, b ++ [d] ++ t = b ++ (d :: t) := fun d => by simp
  rw [esc_cons]
  rcases rep_cases c (hc c (by simp)) with ⟨rfl, h⟩ | ⟨rfl, h⟩ | ⟨rfl, h⟩ | ⟨h1, h2, h3, h⟩
  ·rw [h]
   show textS (92 :: 92 :: (escS t ++ (34 :: q))) b = _
   rw [text_esc (.inr rfl), ih, e2]
  ·rw [h]
   show textS (92 :: 34 :: (escS t ++ (34 :: q))) b = _
   rw [text_esc (.inl rfl), ih, e2]
  ·rw [h]
   show textS (92 :: 110 :: (escS t ++ (34 :: q))) b = _
   rw [text_nl, ih, e2]
  ·rw [h]
   show textS (c :: (escS t ++ (34 :: q))) b = _
   cases hx : escS t ++ (34 :: q) with
   | nil => simp at hx
   | cons d r =>
    rw [text_plain h1 h2 h3, ← hx, ih, e2]
theorem ps_fuel {n m : Nat} {r : List UInt8} (hn : r.length < n) (hm : r.length < m) (top : List Fm) (st : List (List Fm)) : parseS visS (tokS numS) n r top st = parseS visS (tokS numS) m r top st := by
 have h1 := read_same visS (tokS numS) vis_not r.length r (Nat.le_refl _) n n false top st hn hn
 have h2 := read_same visS (tokS numS) vis_not r.length r (Nat.le_refl _) n m false top st hn hm
 rw [Bool.false_and, if_neg (by simp)] at h1 h2
 exact h1.symm.trans h2
def PF (r : List UInt8) (top : List Fm) (st : List (List Fm)) : Int ⊕ List Fm := parseS visS (tokS numS) (r.length + 1) r top st
theorem ps_pf {n : Nat} {r : List UInt8} (hn : r.length < n) (top : List Fm) (st : List (List Fm)) : parseS visS (tokS numS) n r top st = PF r top st := ps_fuel hn (Nat.lt_succ_self _) top st
theorem pf_skip {r q : List UInt8} (h : skipS false r = skipS false q) (top : List Fm) (st : List (List Fm)) : PF r top st = PF q top st := by
 have h1 : PF r top st = parseS visS (tokS numS) (r.length + q.length + 1) r top st := (ps_pf (by omega) top st).symm
 have h2 : PF q top st = parseS visS (tokS numS) (r.length + q.length + 1) q top st := (ps_pf (by omega) top st).symm
 rw [h1, h2]; exact parse_skip visS (tokS numS) h top st
theorem pf_blank {c : UInt8} (h : blankB c = true) (r : List UInt8) (top : List Fm) (st : List (List Fm)) : PF (c :: r) top st = PF r top st :=
 pf_skip (by simp [skipS, h]) top st
theorem pf_open (r : List UInt8) (top : List Fm) (st : List (List Fm)) : PF (40 :: r) top st = PF r [] (top :: st) := by
 unfold PF
 rw [parseS_succ]
 have hs : skipS false (40 :: r) = 40 :: r := by simp [skipS, blankB]
 rw [hs]
 exact ps_pf (by simp) _ _
theorem pf_close (r : List UInt8) (top t : List Fm) (st : List (List Fm)) : PF (41 :: r) top (t :: st) = PF r (t ++ [lstF top]) st := by
 unfold PF
 rw [parseS_succ]
 have hs : skipS false (41 :: r) = 41 :: r := by simp [skipS, blankB]
 rw [hs]
 exact ps_pf (by simp) _ _
theorem pf_end (top : List Fm) : PF [] top [] = .inr top := rfl
theorem touch_not {q : List UInt8} (h : touchS visS q = false) : ∀ c r, q = c :: r → visS c = false := by
 rintro c r rfl
 simp only [touchS, Bool.or_eq_false_iff] at h
 exact h.2
theorem take_vis {w q : List UInt8} (hw : ∀ c ∈ w, visS c = true) (hq : touchS visS q = false) : (w ++ q).takeWhile visS = w ∧ (w ++ q).dropWhile visS = q := by
 induction w with
 | nil =>
  cases q with
  | nil => exact ⟨rfl, rfl⟩
  | cons c r =>
   have := touch_not hq c r rfl
   rw [List.nil_append, List.takeWhile_cons_of_neg (by simp [this]), List.dropWhile_cons_of_neg (by simp [this])]
   exact ⟨rfl, rfl⟩
 | cons c w ih =>
  have h1 := hw c (by simp)
  obtain ⟨a, b⟩ := ih (fun x hx => hw x (by simp [hx]))
  rw [List.cons_append, List.takeWhile_cons_of_pos h1, List.dropWhile_cons_of_pos h1, a, b]
  exact ⟨rfl, rfl⟩
theorem pf_tok {w q : List UInt8} {f : Fm} (hne : w ≠ []) (hw : ∀ c ∈ w, visS c = true) (hq : touchS visS q = false) (hf : tokS numS w = .inr f) (top : List Fm) (st : List (List Fm)) : PF (w ++ q) top st = PF q (top ++ [f]) st := by
 cases w with
 | nil => exact absurd rfl hne
 | cons c w' =>
  have hc := hw c (by simp)
  obtain ⟨h1, h2, h3, h4, h5⟩ := vis_not c hc
  obtain ⟨a, b⟩ := take_vis hw hq
  unfold PF
  rw [parseS_succ]
  have hs : skipS false (c :: w' ++ q) = c :: (w' ++ q) := by simp [skipS, h1, h2]
  rw [hs]
  rw [List.cons_append] at a b
  simp only [if_neg h3, if_neg h4, if_neg h5, if_pos hc, a, b, hf, hq]
  rw [if_neg (by decide)]
  exact ps_pf (by simp only [List.length_cons, List.length_append]; omega) _ _
theorem pf_text {t q : List UInt8} (ht : ∀ c ∈ t, badB c = false) (hl : t.length ≤ 2000) (hq : touchS visS q = false) (top : List Fm) (st : List (List Fm)) : PF (34 :: (escS t ++ [34]) ++ q) top st = PF q (top ++ [txtF t]) st := by
 unfold PF
 rw [parseS_succ]
 have hs : skipS false (34 :: (escS t ++ [34]) ++ q) = 34 :: (escS t ++ (34 :: q)) := by simp [skipS, blankB]
 rw [hs]
 have hb := text_back t [] q ht (by simpa using hl)
 rw [List.nil_append] at hb
 simp only [hb, hq, show ¬ ((34 : UInt8) = 40) from by decide, show ¬ ((34 : UInt8) = 41) from by decide, if_false, if_true, if_neg (show ¬ (false = true) by decide)]
 exact ps_pf (by simp only [List.length_cons, List.length_append]; omega) _ _
theorem bad_all {t : List UInt8} (h : badT t = false) : ∀ c ∈ t, badB c = false := by
 rw [badT_any, List.any_eq_false] at h
 intro c hc
 have := h c hc
 simpa using this
theorem touch_blank (q : List UInt8) : touchS visS (32 :: q) = false := by simp [touchS, visS]; decide
theorem touch_close (q : List UInt8) : touchS visS (41 :: q) = false := by simp [touchS, visS]; decide
theorem wr_back : ∀ f : Fm, fieldsF f = true → ∀ q top st, touchS visS q = false → PF (wr f ++ q) top st = PF q (top ++ [f]) st := Fm.ind fun k n t l ih hf q top st hq => by
 rw [fieldsF_eq] at hf
 simp only [Bool.and_eq_true] at hf
 obtain ⟨h1, h2⟩ := hf
 simp only [Fm.k, Fm.n, Fm.t, Fm.l] at h1 h2
 rw [wr]
 unfold leafS at h1
 by_cases c0 : k = 0
 ·rw [if_pos c0] at h1 ⊢
  simp only [Bool.and_eq_true, decide_eq_true_eq] at h1
  obtain ⟨a1, a2, a3, a4⟩ := h1
  subst c0; subst a1; subst a2
  exact pf_tok (itoa_ne n) (itoa_vis n) hq (by unfold tokS; rw [if_pos (numeric_itoa n), num_itoa a3 a4, if_pos rfl]; rfl) top st
 ·rw [if_neg c0] at h1 ⊢
  by_cases c1 : k = 1
  ·rw [if_pos c1] at h1 ⊢
   simp only [wordS, Bool.and_eq_true, decide_eq_true_eq] at h1
   obtain ⟨⟨⟨a1, a2, a3⟩, a4⟩, a5, a6⟩ := h1
   subst c1; subst a5; subst a6
   have a3' : numericS t = false := by simpa using a3
   exact pf_tok a1 (fun c hc => List.all_eq_true.1 a4 c hc) hq (by unfold tokS; rw [a3', if_neg (by decide), if_neg (by omega)]; rfl) top st
  ·rw [if_neg c1] at h1 ⊢
   by_cases c2 : k = 2
   ·rw [if_pos c2] at h1 ⊢
    simp only [Bool.and_eq_true, decide_eq_true_eq] at h1
    obtain ⟨a1, a2, a3, a4⟩ := h1
    subst c2; subst a3; subst a4
    exact pf_text (bad_all (by simpa using a2)) a1 hq top st
   ·rw [if_neg c2] at h1 ⊢
    by_cases c3 : k = 3
    ·rw [if_pos c3] at h1
     simp only [Bool.and_eq_true, decide_eq_true_eq] at h1
     obtain ⟨a1, a2⟩ := h1
     subst c3; subst a1; subst a2
     have key : ∀ (l : List Fm) (b : Bool) (tp : List Fm), (∀ f ∈ l, fieldsF f = true → ∀ q top st, touchS visS q = false → PF (wr f ++ q) top st = PF q (top ++ [f]) st) → fieldsL l = true →
       PF (wrL b l ++ (41 :: q)) tp (top :: st) = PF q (top ++ [lstF (tp ++ l)]) st := by
      intro l
      induction l with
      | nil => intro b tp _ _; rw [wrL, List.nil_append, pf_close, List.append_nil]
      | cons f r ihr =>
       intro b tp hi hl
       simp only [fieldsL, Bool.and_eq_true] at hl
       have hr := ihr false (tp ++ [f]) (fun g hg => hi g (List.mem_cons_of_mem _ hg)) hl.2
       have ht : touchS visS (wrL false r ++ (41 :: q)) = false := by
        cases r with
        | nil => exact touch_close q
        | cons g r' => exact touch_blank _
       have e : tp ++ [f] ++ r = tp ++ (f :: r) := by simp
       have main : PF (wr f ++ (wrL false r ++ (41 :: q))) tp (top :: st) = PF q (top ++ [lstF (tp ++ f :: r)]) st := by
        rw [hi f (by simp) hl.1 _ _ _ ht, hr, e]
       cases b with
       | true =>
        have e3 : wrL true (f :: r) ++ (41 :: q) = wr f ++ (wrL false r ++ (41 :: q)) := by simp [wrL]
        rw [e3]; exact main
       | false =>
        have e3 : wrL false (f :: r) ++ (41 :: q) = 32 :: (wr f ++ (wrL false r ++ (41 :: q))) := by simp [wrL]
        rw [e3, pf_blank (by decide)]; exact main
     have := key l true [] ih h2
     have e4 : 40 :: (wrL true l ++ [41]) ++ q = 40 :: (wrL true l ++ (41 :: q)) := by simp
     rw [e4, pf_open, this]
     rfl
    ·rw [if_neg c3] at h1; cases h1
end Go.Ab

set_option maxRecDepth 100000
namespace Go.Ab
open Go Go.RowKit Go.Proofs
def blanksS (n : Nat) : List UInt8 := List.replicate n 32
def frontB : List Fm → List UInt8
 | [] => []
 | h :: r => if h.k = 1 then h.t ++ (match r with
  | [] => []
  | g :: _ => if g.k = 3 then [] else 32 :: wr g) else []
def manyF : List Fm → Nat
 | [] => 0
 | h :: r => if h.k = 1 then (match r with
  | [] => 1
  | g :: _ => if g.k = 3 then 1 else 2) else 0
mutual
def layF (w : Nat) : Fm → Nat → Nat → List UInt8
 | .mk k n t l, c, cl =>
  if c + (wr (.mk k n t l)).length + cl ≤ w ∨ k ≠ 3 ∨ l = [] then wr (.mk k n t l)
  else 40 :: (frontB l ++ (layL w l (manyF l) (!decide (manyF l = 0)) (if manyF l = 0 then c + 1 else c + 2) cl ++ [41]))
def layL (w : Nat) : List Fm → Nat → Bool → Nat → Nat → List UInt8
 | [], _, _, _, _ => []
 | f :: r, sk + 1, nl, ind, cl => layL w r sk nl ind cl
 | f :: r, 0, nl, ind, cl => (if nl = true then 10 :: blanksS ind else []) ++ (layF w f ind (if r = [] then cl + 1 else 0) ++ layL w r 0 true ind cl)
end
theorem layF_eq (w : Nat) (f : Fm) (c cl : Nat) : layF w f c cl = if c + (wr f).length + cl ≤ w ∨ f.k ≠ 3 ∨ f.l = [] then wr f
  else 40 :: (frontB f.l ++ (layL w f.l (manyF f.l) (!decide (manyF f.l = 0)) (if manyF f.l = 0 then c + 1 else c + 2) cl ++ [41])) := by
 cases f; rw [layF]; rfl
theorem layL_skip (w : Nat) : ∀ (l : List Fm) (sk : Nat) (nl : Bool) (ind cl : Nat), layL w l sk nl ind cl = layL w (l.drop sk) 0 nl ind cl
 | [], sk, nl, ind, cl => by rw [List.drop_nil]; simp [layL]
 | f :: r, 0, nl, ind, cl => rfl
 | f :: r, sk + 1, nl, ind, cl => by rw [layL, List.drop_succ_cons]; exact layL_skip w r sk nl ind cl
theorem pf_blanks : ∀ (n : Nat) (r : List UInt8) (top : List Fm) (st : List (List Fm)), PF (blanksS n ++ r) top st = PF r top st
 | 0, r, top, st => by simp [blanksS]
 | n + 1, r, top, st => by
  have e : blanksS (n + 1) ++ r = 32 :: (blanksS n ++ r) := by simp [blanksS, List.replicate_succ]
  rw [e, pf_blank (by decide), pf_blanks n]
theorem touch_nl (q : List UInt8) : touchS visS (10 :: q) = false := by simp [touchS, visS]; decide
theorem layL_back {w : Nat} : ∀ (l : List Fm) (nl : Bool) (ind cl : Nat) (tp top : List Fm) (st : List (List Fm)) (q : List UInt8),
  (∀ f ∈ l, ∀ c cl q top st, touchS visS q = false → PF (layF w f c cl ++ q) top st = PF q (top ++ [f]) st) →
  PF (layL w l 0 nl ind cl ++ (41 :: q)) tp (top :: st) = PF q (top ++ [lstF (tp ++ l)]) st
 | [], nl, ind, cl, tp, top, st, q, _ => by rw [layL, List.nil_append, pf_close, List.append_nil]
 | f :: r, nl, ind, cl, tp, top, st, q, h => by
  have hr := layL_back r true ind cl (tp ++ [f]) top st q fun g hg => h g (List.mem_cons_of_mem _ hg)
  have ht : touchS visS (layL w r 0 true ind cl ++ (41 :: q)) = false := by
   cases r with
   | nil => rw [layL, List.nil_append]; exact touch_close q
   | cons g r' =>
    rw [layL, if_pos rfl]
    exact touch_nl _
  have e : tp ++ [f] ++ r = tp ++ (f :: r) := by simp
  have main : PF (layF w f ind (if r = [] then cl + 1 else 0) ++ (layL w r 0 true ind cl ++ (41 :: q))) tp (top :: st) = PF q (top ++ [lstF (tp ++ f :: r)]) st := by
   rw [h f (by simp) _ _ _ _ _ ht, hr, e]
  rw [layL]
  cases nl with
  | true =>
   rw [if_pos rfl]
   have e3 : 10 :: blanksS ind ++ (layF w f ind (if r = [] then cl + 1 else 0) ++ layL w r 0 true ind cl) ++ 41 :: q = 10 :: (blanksS ind ++ (layF w f ind (if r = [] then cl + 1 else 0) ++ (layL w r 0 true ind cl ++ (41 :: q)))) := by simp
   rw [e3, pf_blank (by decide), pf_blanks]; exact main
  | false =>
   rw [if_neg (by decide)]
   have e3 : [] ++ (layF w f ind (if r = [] then cl + 1 else 0) ++ layL w r 0 true ind cl) ++ 41 :: q = layF w f ind (if r = [] then cl + 1 else 0) ++ (layL w r 0 true ind cl ++ (41 :: q)) := by simp
   rw [e3]; exact main
theorem lst_eta {n : Int} {t : List UInt8} {l : List Fm} (hn : n = 0) (ht : t = []) : Fm.mk 3 n t l = lstF l := by subst hn; subst ht; rfl
theorem word_eta {h : Fm} (hk : h.k = 1) (hf : fieldsF h = true) : wr h = h.t := by rw [wr_eq, if_neg (by rw [hk]; decide), if_pos hk]
theorem lay_back (w : Nat) : ∀ f : Fm, fieldsF f = true → ∀ c cl q top st, touchS visS q = false → PF (layF w f c cl ++ q) top st = PF q (top ++ [f]) st := Fm.ind fun k n t l ih hf c cl q top st hq => by
 rw [layF]
 split
 ·exact wr_back _ hf q top st hq
 ·rename_i hc
  simp only [not_or, Decidable.not_not] at hc
  obtain ⟨_, hk, hl⟩ := hc
  have hf' := hf
  rw [fieldsF_eq] at hf'
  simp only [Bool.and_eq_true] at hf'
  obtain ⟨h1, h2⟩ := hf'
  simp only [Fm.k, Fm.n, Fm.t, Fm.l] at h1 h2
  subst hk
  have hleaf : t = [] ∧ n = 0 := by
   unfold leafS at h1
   simpa using h1
  rw [lst_eta hleaf.2 hleaf.1]
  have hall : ∀ f ∈ l, ∀ c cl q top st, touchS visS q = false → PF (layF w f c cl ++ q) top st = PF q (top ++ [f]) st := fun f hm c cl q top st hq => ih f hm (fieldsL_mem h2 f hm) c cl q top st hq
  rw [layL_skip]
  generalize hnl : (!decide (manyF l = 0)) = nl
  generalize (if manyF l = 0 then c + 1 else c + 2) = ind
  have e0 : 40 :: (frontB l ++ (layL w (l.drop (manyF l)) 0 nl ind cl ++ [41])) ++ q = 40 :: (frontB l ++ (layL w (l.drop (manyF l)) 0 nl ind cl ++ (41 :: q))) := by simp
  rw [e0, pf_open]
  cases l with
  | nil => exact absurd rfl hl
  | cons h r =>
   by_cases hk1 : h.k = 1
   ·have hfh := fieldsL_mem h2 h (by simp)
    have hwh := word_eta hk1 hfh
    cases r with
    | nil =>
     have e1 : manyF [h] = 1 := by simp [manyF, hk1]
     have e2 : frontB [h] = h.t := by simp [frontB, hk1]
     rw [e1, e2, ← hwh]
     simp only [List.drop_succ_cons, List.drop_nil, layL, List.nil_append]
     rw [wr_back h hfh _ _ _ (touch_close q), pf_close]
     rfl
    | cons g r' =>
     have hfg := fieldsL_mem h2 g (by simp)
     by_cases hk3 : g.k = 3
     ·have e1 : manyF (h :: g :: r') = 1 := by simp [manyF, hk1, hk3]
      have e2 : frontB (h :: g :: r') = h.t := by simp [frontB, hk1, hk3]
      have hnl' : nl = true := by rw [← hnl, e1]; rfl
      rw [e1, e2, ← hwh, hnl']
      rw [show List.drop 1 (h :: g :: r') = g :: r' from rfl]
      rw [wr_back h hfh _ _ _ (by rw [layL, if_pos rfl]; exact touch_nl _), layL_back _ _ _ _ _ _ _ _ fun f hm => hall f (by simp at hm ⊢; exact .inr hm)]
      rfl
     ·have e1 : manyF (h :: g :: r') = 2 := by simp [manyF, hk1, hk3]
      have e2 : frontB (h :: g :: r') = h.t ++ (32 :: wr g) := by simp [frontB, hk1, hk3]
      have hnl' : nl = true := by rw [← hnl, e1]; rfl
      rw [e1, e2, ← hwh, hnl']
      rw [show List.drop 2 (h :: g :: r') = r' from rfl]
      have e3 : wr h ++ 32 :: wr g ++ (layL w r' 0 true ind cl ++ 41 :: q) = wr h ++ (32 :: (wr g ++ (layL w r' 0 true ind cl ++ 41 :: q))) := by simp
      have ht : touchS visS (layL w r' 0 true ind cl ++ 41 :: q) = false := by
       cases r' with
       | nil => rw [layL, List.nil_append]; exact touch_close q
       | cons x y => rw [layL, if_pos rfl]; exact touch_nl _
      rw [e3, wr_back h hfh _ _ _ (touch_blank _), pf_blank (by decide), wr_back g hfg _ _ _ ht, layL_back _ _ _ _ _ _ _ _ fun f hm => hall f (by simp [hm])]
      rfl
   ·have e1 : manyF (h :: r) = 0 := by simp [manyF, hk1]
    have e2 : frontB (h :: r) = [] := by simp [frontB, hk1]
    rw [e1, e2, List.nil_append, List.drop_zero, layL_back _ _ _ _ _ _ _ _ hall]
    rfl
end Go.Ab

set_option maxRecDepth 100000
namespace Go.Ab
open Go Go.RowKit Go.Proofs
def n10 (x : UInt8) : Bool := !decide (x = 10)
def tokc (c : UInt8) : Bool := !(blankB c) && (!decide (c = 40) && (!decide (c = 41) && (!decide (c = 34) && !decide (c = 59))))
def lineE (r : List UInt8) : List UInt8 := r.dropWhile n10
def qEnd : List UInt8 → List UInt8
 | [] => []
 | [_] => []
 | c :: d :: r => if c = 92 then qEnd r else if c = 34 then d :: r else qEnd (d :: r)
def bareF : Bool → List UInt8 → Bool
 | b, [] => b
 | b, c :: r => bareF (if c = 10 then true else b && (decide (c = 32) || decide (c = 9))) r
def evS : Nat → Int → Bool → Bool → List UInt8 → List (Bool × List UInt8)
 | 0, _, _, _, _ => []
 | _ + 1, _, _, _, [] => []
 | n + 1, d, near, bare, c :: r =>
  if c = 59 then (if d = 0 ∧ bare = true then [(false, c :: r)] else []) ++ evS n d false false (lineE (c :: r))
  else if c = 34 then (if d = 0 ∧ near = false then [(true, c :: r)] else []) ++ evS n d false (bareF bare ((c :: r).take ((c :: r).length - (qEnd r).length))) (qEnd r)
  else if c = 40 then (if d = 0 then [(true, c :: r)] else []) ++ evS n (d + 1) false false r
  else if c = 41 then evS n (d - 1) false false r
  else if blankB c = true then evS n d false (if c = 10 then true else bare) r
  else if near = true then evS n d true false r
  else (if d = 0 then [(true, c :: r)] else []) ++ evS n d true false r
def pastS : Nat → Nat → List UInt8 → List UInt8
 | 0, _, r => r
 | _ + 1, _, [] => []
 | n + 1, d, c :: r =>
  if c = 34 then (if d = 0 then qEnd r else pastS n d (qEnd r))
  else if c = 59 then (if d = 0 then lineE (c :: r) else pastS n d (lineE (c :: r)))
  else if c = 40 then pastS n (d + 1) r
  else if c = 41 then (if d = 1 then r else pastS n (d - 1) r)
  else if blankB c = true then (if d = 0 then r else pastS n d r)
  else if d = 0 then (c :: r).dropWhile tokc else pastS n d ((c :: r).dropWhile tokc)
theorem lineE_le (r : List UInt8) : (lineE r).length ≤ r.length := drop_len _ r
theorem lineE_lt {c : UInt8} (h : c ≠ 10) (r : List UInt8) : (lineE (c :: r)).length ≤ r.length := by
 unfold lineE
 rw [List.dropWhile_cons_of_pos (by simp [n10, h])]; exact drop_len _ r
theorem qEnd_le : ∀ r : List UInt8, (qEnd r).length ≤ r.length
 | [] => by simp [qEnd]
 | [c] => by simp [qEnd]
 | c :: d :: r => by
  rw [qEnd]
  split
  ·have := qEnd_le r; simp only [List.length_cons]; omega
  ·split
   ·simp
   ·have := qEnd_le (d :: r); simp only [List.length_cons] at *; omega
theorem tok_drop_lt {c : UInt8} (h : tokc c = true) (r : List UInt8) : ((c :: r).dropWhile tokc).length ≤ r.length := by
 rw [List.dropWhile_cons_of_pos h]; exact drop_len _ r
theorem tok_of {c : UInt8} (h1 : c ≠ 59) (h2 : c ≠ 34) (h3 : c ≠ 40) (h4 : c ≠ 41) (h5 : ¬ blankB c = true) : tokc c = true := by
 simp [tokc, h1, h2, h3, h4, h5]
theorem tok_not {c : UInt8} (h : tokc c = true) : c ≠ 59 ∧ c ≠ 34 ∧ c ≠ 40 ∧ c ≠ 41 ∧ blankB c = false := by
 simp only [tokc, Bool.and_eq_true, Bool.not_eq_true', decide_eq_false_iff_not] at h
 exact ⟨h.2.2.2.2, h.2.2.2.1, h.2.1, h.2.2.1, h.1⟩
theorem vis_tok {c : UInt8} (h : visS c = true) : tokc c = true := by
 obtain ⟨h1, h2, h3, h4, h5⟩ := vis_not c h
 exact tok_of h2 h5 h3 h4 (by simp [h1])
theorem ev_fuel : ∀ (n m : Nat) (d : Int) (near bare : Bool) (r : List UInt8), r.length < n → r.length < m → evS n d near bare r = evS m d near bare r
 | 0, m, d, near, bare, r, h, _ => by omega
 | n + 1, 0, d, near, bare, r, _, h => by omega
 | n + 1, m + 1, d, near, bare, [], _, _ => rfl
 | n + 1, m + 1, d, near, bare, c :: r, h1, h2 => by
  simp only [List.length_cons] at h1 h2
  simp only [evS]
  by_cases c1 : c = 59
  ·have := lineE_lt (show c ≠ 10 by rw [c1]; decide) r
   rw [if_pos c1, if_pos c1, ev_fuel n m _ _ _ _ (by omega) (by omega)]
  ·have hq := qEnd_le r
   rw [if_neg c1, if_neg c1, ev_fuel n m d false _ (qEnd r) (by omega) (by omega), ev_fuel n m (d + 1) false false r (by omega) (by omega), ev_fuel n m (d - 1) false false r (by omega) (by omega), ev_fuel n m d false _ r (by omega) (by omega), ev_fuel n m d true false r (by omega) (by omega)]
def EV (d : Int) (near bare : Bool) (r : List UInt8) : List (Bool × List UInt8) := evS (r.length + 1) d near bare r
theorem EV_nil (d : Int) (near bare : Bool) : EV d near bare [] = [] := rfl
theorem EV_cons (d : Int) (near bare : Bool) (c : UInt8) (r : List UInt8) : EV d near bare (c :: r) =
  (if c = 59 then (if d = 0 ∧ bare = true then [(false, c :: r)] else []) ++ EV d false false (lineE (c :: r))
  else if c = 34 then (if d = 0 ∧ near = false then [(true, c :: r)] else []) ++ EV d false (bareF bare ((c :: r).take ((c :: r).length - (qEnd r).length))) (qEnd r)
  else if c = 40 then (if d = 0 then [(true, c :: r)] else []) ++ EV (d + 1) false false r
  else if c = 41 then EV (d - 1) false false r
  else if blankB c = true then EV d false (if c = 10 then true else bare) r
  else if near = true then EV d true false r
  else (if d = 0 then [(true, c :: r)] else []) ++ EV d true false r) := by
 have hq := qEnd_le r
 unfold EV
 simp only [evS, List.length_cons]
 by_cases c1 : c = 59
 ·have := lineE_lt (show c ≠ 10 by rw [c1]; decide) r
  rw [if_pos c1, if_pos c1, ev_fuel (r.length + 1) ((lineE (c :: r)).length + 1) _ _ _ _ (by omega) (by omega)]
 ·rw [if_neg c1, if_neg c1, ev_fuel (r.length + 1) ((qEnd r).length + 1) d false _ (qEnd r) (by omega) (by omega)]
theorem past_fuel : ∀ (n m d : Nat) (r : List UInt8), r.length < n → r.length < m → pastS n d r = pastS m d r
 | 0, m, d, r, h, _ => by omega
 | n + 1, 0, d, r, _, h => by omega
 | n + 1, m + 1, d, [], _, _ => rfl
 | n + 1, m + 1, d, c :: r, h1, h2 => by
  simp only [List.length_cons] at h1 h2
  have hq := qEnd_le r
  simp only [pastS]
  by_cases c1 : c = 34
  ·rw [if_pos c1, if_pos c1, past_fuel n m d (qEnd r) (by omega) (by omega)]
  ·rw [if_neg c1, if_neg c1]
   by_cases c2 : c = 59
   ·have := lineE_lt (show c ≠ 10 by rw [c2]; decide) r
    rw [if_pos c2, if_pos c2, past_fuel n m d (lineE (c :: r)) (by omega) (by omega)]
   ·rw [if_neg c2, if_neg c2]
    by_cases c3 : c = 40
    ·rw [if_pos c3, if_pos c3, past_fuel n m (d + 1) r (by omega) (by omega)]
    ·rw [if_neg c3, if_neg c3]
     by_cases c4 : c = 41
     ·rw [if_pos c4, if_pos c4, past_fuel n m (d - 1) r (by omega) (by omega)]
     ·rw [if_neg c4, if_neg c4]
      by_cases c5 : blankB c = true
      ·rw [if_pos c5, if_pos c5, past_fuel n m d r (by omega) (by omega)]
      ·have := tok_drop_lt (tok_of c2 c1 c3 c4 c5) r
       rw [if_neg c5, if_neg c5, past_fuel n m d ((c :: r).dropWhile tokc) (by omega) (by omega)]
def PA (d : Nat) (r : List UInt8) : List UInt8 := pastS (r.length + 1) d r
theorem PA_cons (d : Nat) (c : UInt8) (r : List UInt8) : PA d (c :: r) =
  (if c = 34 then (if d = 0 then qEnd r else PA d (qEnd r))
  else if c = 59 then (if d = 0 then lineE (c :: r) else PA d (lineE (c :: r)))
  else if c = 40 then PA (d + 1) r
  else if c = 41 then (if d = 1 then r else PA (d - 1) r)
  else if blankB c = true then (if d = 0 then r else PA d r)
  else if d = 0 then (c :: r).dropWhile tokc else PA d ((c :: r).dropWhile tokc)) := by
 have hq := qEnd_le r
 unfold PA
 simp only [pastS, List.length_cons]
 by_cases c1 : c = 34
 ·rw [if_pos c1, if_pos c1, past_fuel (r.length + 1) ((qEnd r).length + 1) d (qEnd r) (by omega) (by omega)]
 ·rw [if_neg c1, if_neg c1]
  by_cases c2 : c = 59
  ·have := lineE_lt (show c ≠ 10 by rw [c2]; decide) r
   rw [if_pos c2, if_pos c2, past_fuel (r.length + 1) ((lineE (c :: r)).length + 1) d (lineE (c :: r)) (by omega) (by omega)]
  ·rw [if_neg c2, if_neg c2]
   by_cases c3 : c = 40
   ·rw [if_pos c3, if_pos c3]
   ·rw [if_neg c3, if_neg c3]
    by_cases c4 : c = 41
    ·rw [if_pos c4, if_pos c4]
    ·rw [if_neg c4, if_neg c4]
     by_cases c5 : blankB c = true
     ·rw [if_pos c5, if_pos c5]
     ·have := tok_drop_lt (tok_of c2 c1 c3 c4 c5) r
      rw [if_neg c5, if_neg c5, past_fuel (r.length + 1) (((c :: r).dropWhile tokc).length + 1) d ((c :: r).dropWhile tokc) (by omega) (by omega)]
theorem pf_quote (r : List UInt8) (top : List Fm) (st : List (List Fm)) : PF (34 :: r) top st = match textS r [] with
  | .inl e => .inl e
  | .inr (b, q) => if touchS visS q = true then .inl 4 else PF q (top ++ [txtF b]) st := by
 have hs : skipS false (34 :: r) = 34 :: r := by simp [skipS, blankB]
 unfold PF
 rw [parseS_succ, hs]
 simp only [show ¬ ((34 : UInt8) = 40) from by decide, show ¬ ((34 : UInt8) = 41) from by decide, if_false, if_true]
 cases hx : textS r [] with
 | inl e => rfl
 | inr p =>
  obtain ⟨b, q⟩ := p
  have := textS_len r [] b q hx
  simp only
  rw [ps_pf (show q.length < (34 :: r).length by simp only [List.length_cons]; omega)]
  rfl
theorem pf_vis {c : UInt8} (hc : visS c = true) (r : List UInt8) (top : List Fm) (st : List (List Fm)) : PF (c :: r) top st = match tokS numS ((c :: r).takeWhile visS) with
  | .inl e => .inl e
  | .inr f => if touchS visS ((c :: r).dropWhile visS) = true then .inl 4 else PF ((c :: r).dropWhile visS) (top ++ [f]) st := by
 obtain ⟨h1, h2, h3, h4, h5⟩ := vis_not c hc
 have hs : skipS false (c :: r) = c :: r := by simp [skipS, h1, h2]
 have hl : ((c :: r).dropWhile visS).length < (c :: r).length := by rw [List.dropWhile_cons_of_pos hc]; have := drop_len visS r; simp only [List.length_cons]; omega
 unfold PF
 rw [parseS_succ, hs]
 simp only [if_neg h3, if_neg h4, if_neg h5, if_pos hc]
 cases tokS numS ((c :: r).takeWhile visS) with
 | inl e => rfl
 | inr f =>
  simp only
  rw [ps_fuel hl (Nat.lt_succ_self _)]
theorem pf_bad {c : UInt8} (h1 : blankB c = false) (h2 : c ≠ 59) (h3 : c ≠ 40) (h4 : c ≠ 41) (h5 : c ≠ 34) (h6 : visS c = false) (r : List UInt8) (top : List Fm) (st : List (List Fm)) : PF (c :: r) top st = .inl 4 := by
 have hs : skipS false (c :: r) = c :: r := by simp [skipS, h1, h2]
 unfold PF
 rw [parseS_succ, hs]
 simp only [if_neg h3, if_neg h4, if_neg h5, h6]
 rfl
theorem pf_close0 (r : List UInt8) (top : List Fm) : PF (41 :: r) top [] = .inl 4 := by
 have hs : skipS false (41 :: r) = 41 :: r := by simp [skipS, blankB]
 unfold PF
 rw [parseS_succ, hs]
 rfl
theorem pf_line59 (r : List UInt8) (top : List Fm) (st : List (List Fm)) : PF (59 :: r) top st = PF (lineE (59 :: r)) top st := by
 refine pf_skip ?_ top st
 have e1 : skipS false (59 :: r) = skipS true r := by simp [skipS, blankB]
 have e2 : lineE (59 :: r) = lineE r := by unfold lineE; rw [List.dropWhile_cons_of_pos (by decide)]
 rw [e1, skip_line, e2]
 rfl
theorem text_qEnd : ∀ (r b x q : List UInt8), textS r b = .inr (x, q) → qEnd r = q ∧ ∃ p, r = p ++ q ∧ ∀ c ∈ p, c ≠ 10
 | [], b, x, q, h => by simp [textS] at h
 | [c], b, x, q, h => by
  simp only [textS] at h
  split at h
  ·rename_i hc
   split at h
   ·cases h
   ·cases h; exact ⟨rfl, [c], rfl, by simp [hc]⟩
  ·split at h
   ·cases h
   ·split at h <;> cases h
 | c :: d :: r, b, x, q, h => by
  simp only [textS] at h
  rw [qEnd]
  split at h
  ·rename_i hc
   split at h
   ·cases h
   ·cases h
    rw [if_neg (by rw [hc]; decide), if_pos hc]
    exact ⟨rfl, [c], rfl, by simp [hc]⟩
  ·rename_i hc34
   split at h
   ·rename_i hc
    rw [if_pos hc]
    split at h
    ·rename_i hd
     obtain ⟨h1, p, h2, h3⟩ := text_qEnd r _ x q h
     exact ⟨h1, c :: d :: p, by rw [h2]; rfl, fun y hy => by
      rcases List.mem_cons.1 hy with rfl | hy
      ·rw [hc]; decide
      ·rcases List.mem_cons.1 hy with rfl | hy
       ·rw [hd]; decide
       ·exact h3 y hy⟩
    ·split at h
     ·rename_i hd
      obtain ⟨h1, p, h2, h3⟩ := text_qEnd r _ x q h
      exact ⟨h1, c :: d :: p, by rw [h2]; rfl, fun y hy => by
       rcases List.mem_cons.1 hy with rfl | hy
       ·rw [hc]; decide
       ·rcases List.mem_cons.1 hy with rfl | hy
        ·rcases hd with rfl | rfl <;> decide
        ·exact h3 y hy⟩
     ·cases h
   ·rename_i hc92
    rw [if_neg hc92, if_neg hc34]
    split at h
    ·cases h
    ·rename_i hc
     obtain ⟨h1, p, h2, h3⟩ := text_qEnd (d :: r) _ x q h
     exact ⟨h1, c :: p, by rw [h2]; rfl, fun y hy => by
      rcases List.mem_cons.1 hy with rfl | hy
      ·intro e; subst e; exact hc (.inl (by decide))
      ·exact h3 y hy⟩
theorem bareF_false : ∀ r : List UInt8, (∀ c ∈ r, c ≠ 10) → bareF false r = false
 | [], _ => rfl
 | c :: r, h => by
  rw [bareF, if_neg (h c (by simp)), Bool.false_and]
  exact bareF_false r fun x hx => h x (by simp [hx])
theorem tok_end {q : List UInt8} {top l : List Fm} {st : List (List Fm)} (h : PF q top st = .inr l) (ht : touchS visS q = false) : ∀ c r, q = c :: r → tokc c = false ∧ c ≠ 34 := by
 rintro c r rfl
 simp only [touchS, Bool.or_eq_false_iff, decide_eq_false_iff_not] at ht
 refine ⟨?_, ht.1⟩
 cases hc : tokc c with
 | false => rfl
 | true =>
  obtain ⟨h1, h2, h3, h4, h5⟩ := tok_not hc
  rw [pf_bad h5 h1 h3 h4 h2 ht.2] at h
  cases h
theorem take_tok {w q : List UInt8} (hw : ∀ c ∈ w, tokc c = true) (hq : ∀ c r, q = c :: r → tokc c = false ∧ c ≠ 34) : (w ++ q).dropWhile tokc = q := by
 induction w with
 | nil =>
  cases q with
  | nil => rfl
  | cons c r => rw [List.nil_append, List.dropWhile_cons_of_neg (by simp [(hq c r rfl).1])]
 | cons c w ih =>
  rw [List.cons_append, List.dropWhile_cons_of_pos (hw c (by simp))]
  exact ih fun x hx => hw x (by simp [hx])
theorem tok_split {c : UInt8} {r : List UInt8} {top l : List Fm} {st : List (List Fm)} (hc : tokc c = true) (h : PF (c :: r) top st = .inr l) : ∃ f q, (c :: r).dropWhile tokc = q ∧ q.length ≤ r.length ∧ (∀ x y, q = x :: y → tokc x = false ∧ x ≠ 34) ∧ PF q (top ++ [f]) st = .inr l := by
 obtain ⟨h1, h2, h3, h4, h5⟩ := tok_not hc
 have hv : visS c = true := by
  cases hv : visS c with
  | true => rfl
  | false => rw [pf_bad h5 h1 h3 h4 h2 hv] at h; cases h
 rw [pf_vis hv] at h
 cases hx : tokS numS ((c :: r).takeWhile visS) with
 | inl e => rw [hx] at h; cases h
 | inr f =>
  rw [hx] at h
  simp only at h
  cases ht : touchS visS ((c :: r).dropWhile visS) with
  | true => rw [ht] at h; cases h
  | false =>
   rw [ht, if_neg (by decide)] at h
   have he := tok_end h ht
   have hall : ∀ x ∈ (c :: r).takeWhile visS, tokc x = true := fun x hx => vis_tok (takeWhile_all hx)
   have hd := take_tok hall he
   rw [List.takeWhile_append_dropWhile] at hd
   refine ⟨f, (c :: r).dropWhile visS, hd, ?_, he, h⟩
   rw [List.dropWhile_cons_of_pos hv]; exact drop_len _ r
theorem ev_near {d : Int} : ∀ (r : List UInt8) (b : Bool), (∀ c y, r.dropWhile tokc = c :: y → c ≠ 34) → r = r.dropWhile tokc ∨ b = false → EV d true b r = EV d false b (r.dropWhile tokc)
 | [], b, _, _ => rfl
 | c :: r, b, h, hb => by
  by_cases hc : tokc c = true
  ·obtain ⟨h1, h2, h3, h4, h5⟩ := tok_not hc
   have hb' : b = false := by
    rcases hb with hb | hb
    ·rw [List.dropWhile_cons_of_pos hc] at hb
     have := congrArg List.length hb
     have := drop_len tokc r
     simp only [List.length_cons] at *
     omega
    ·exact hb
   rw [List.dropWhile_cons_of_pos hc] at h ⊢
   rw [EV_cons, if_neg h1, if_neg h2, if_neg h3, if_neg h4, if_neg (by simp [h5]), if_pos rfl, hb']
   exact ev_near r false h (.inr rfl)
  ·rw [List.dropWhile_cons_of_neg hc] at h ⊢
   have h34 := h c r rfl
   rw [EV_cons, EV_cons, if_neg h34, if_neg h34]
   by_cases c1 : c = 59
   ·rw [if_pos c1, if_pos c1]
   ·rw [if_neg c1, if_neg c1]
    by_cases c2 : c = 40
    ·rw [if_pos c2, if_pos c2]
    ·rw [if_neg c2, if_neg c2]
     by_cases c3 : c = 41
     ·rw [if_pos c3, if_pos c3]
     ·rw [if_neg c3, if_neg c3]
      by_cases c4 : blankB c = true
      ·rw [if_pos c4, if_pos c4]
      ·exact absurd (tok_of c1 h34 c2 c3 c4) hc
theorem ev_tok {c : UInt8} {d : Int} {b : Bool} {r q : List UInt8} (hc : tokc c = true) (hq : (c :: r).dropWhile tokc = q) (he : ∀ x y, q = x :: y → tokc x = false ∧ x ≠ 34) : EV d false b (c :: r) = (if d = 0 then [(true, c :: r)] else []) ++ EV d false false q := by
 obtain ⟨h1, h2, h3, h4, h5⟩ := tok_not hc
 rw [EV_cons, if_neg h1, if_neg h2, if_neg h3, if_neg h4, if_neg (by simp [h5]), if_neg (by decide)]
 rw [List.dropWhile_cons_of_pos hc] at hq
 rw [ev_near r false (fun x y e => (he x y (by rw [← hq]; exact e)).2) (.inr rfl), hq]
theorem pop_list : ∀ (N : Nat) (r : List UInt8), r.length ≤ N → ∀ (top t0 l : List Fm) (st : List (List Fm)) (bare : Bool), PF r top (st ++ [t0]) = .inr l →
  ∃ f, (PA (st.length + 1) r).length < r.length ∧ PF (PA (st.length + 1) r) (t0 ++ [f]) [] = .inr l ∧ EV ((st.length : Int) + 1) false bare r = EV 0 false false (PA (st.length + 1) r)
 | 0, [], _, top, t0, l, st, bare, h => by
  unfold PF at h
  rw [parseS_succ] at h
  cases st <;> cases h
 | 0, c :: r, hN, _, _, _, _, _, _ => by simp at hN
 | N + 1, [], _, top, t0, l, st, bare, h => by
  unfold PF at h
  rw [parseS_succ] at h
  cases st <;> cases h
 | N + 1, c :: r, hN, top, t0, l, st, bare, h => by
  simp only [List.length_cons] at hN ⊢
  have ih := pop_list N
  have hd0 : ¬ ((st.length : Int) + 1 = 0) := by omega
  by_cases c1 : c = 59
  ·subst c1
   have hl := lineE_lt (show (59 : UInt8) ≠ 10 by decide) r
   rw [pf_line59] at h
   obtain ⟨f, h1, h2, h3⟩ := ih (lineE (59 :: r)) (by omega) top t0 l st false h
   have e : PA (st.length + 1) (59 :: r) = PA (st.length + 1) (lineE (59 :: r)) := by rw [PA_cons, if_neg (by decide), if_pos rfl, if_neg (by omega)]
   rw [e]
   refine ⟨f, by omega, h2, ?_⟩
   rw [EV_cons, if_pos rfl, if_neg (fun h => hd0 h.1), List.nil_append]
   exact h3
  ·by_cases c2 : c = 34
   ·subst c2
    rw [pf_quote] at h
    cases hx : textS r [] with
    | inl e => rw [hx] at h; cases h
    | inr p =>
     obtain ⟨b, q⟩ := p
     rw [hx] at h
     simp only at h
     obtain ⟨hq, p, hp, hp10⟩ := text_qEnd r [] b q hx
     have hql := qEnd_le r
     cases ht : touchS visS q with
     | true => rw [ht] at h; cases h
     | false =>
      rw [ht, if_neg (by decide), ← hq] at h
      obtain ⟨f, h1, h2, h3⟩ := ih (qEnd r) (by omega) _ t0 l st (bareF bare ((34 :: r).take ((34 :: r).length - (qEnd r).length))) h
      have e : PA (st.length + 1) (34 :: r) = PA (st.length + 1) (qEnd r) := by rw [PA_cons, if_pos rfl, if_neg (by omega)]
      rw [e]
      refine ⟨f, by omega, h2, ?_⟩
      rw [EV_cons, if_neg (by decide), if_pos rfl, if_neg (fun h => hd0 h.1), List.nil_append]
      exact h3
   ·by_cases c3 : c = 40
    ·subst c3
     rw [pf_open] at h
     obtain ⟨f, h1, h2, h3⟩ := ih r (by omega) [] t0 l (top :: st) false h
     have e : PA (st.length + 1) (40 :: r) = PA (st.length + 1 + 1) r := by rw [PA_cons, if_neg (by decide), if_neg (by decide), if_pos rfl]
     rw [List.length_cons] at h1 h2 h3
     rw [e]
     refine ⟨f, by omega, h2, ?_⟩
     rw [EV_cons, if_neg (by decide), if_neg (by decide), if_pos rfl, if_neg hd0, List.nil_append, ← h3]
     rfl
    ·by_cases c4 : c = 41
     ·subst c4
      cases st with
      | nil =>
       rw [List.nil_append, pf_close] at h
       have e : PA (([] : List (List Fm)).length + 1) (41 :: r) = r := by rw [PA_cons, if_neg (by decide), if_neg (by decide), if_neg (by decide), if_pos rfl]; rfl
       rw [e]
       refine ⟨lstF top, by omega, h, ?_⟩
       rw [EV_cons, if_neg (by decide), if_neg (by decide), if_neg (by decide), if_pos rfl]
       rfl
      | cons t st' =>
       rw [List.cons_append, pf_close] at h
       obtain ⟨f, h1, h2, h3⟩ := ih r (by omega) _ t0 l st' false h
       have e : PA ((t :: st').length + 1) (41 :: r) = PA (st'.length + 1) r := by
        rw [PA_cons, if_neg (by decide), if_neg (by decide), if_neg (by decide), if_pos rfl, List.length_cons, if_neg (by omega)]; rfl
       rw [e]
       refine ⟨f, by omega, h2, ?_⟩
       rw [EV_cons, if_neg (by decide), if_neg (by decide), if_neg (by decide), if_pos rfl, List.length_cons, ← h3]
       congr 1; omega
     ·by_cases c5 : blankB c = true
      ·rw [pf_blank c5] at h
       obtain ⟨f, h1, h2, h3⟩ := ih r (by omega) top t0 l st (if c = 10 then true else bare) h
       have e : PA (st.length + 1) (c :: r) = PA (st.length + 1) r := by rw [PA_cons, if_neg c2, if_neg c1, if_neg c3, if_neg c4, if_pos c5, if_neg (by omega)]
       rw [e]
       refine ⟨f, by omega, h2, ?_⟩
       rw [EV_cons, if_neg c1, if_neg c2, if_neg c3, if_neg c4, if_pos c5]
       exact h3
      ·have hc := tok_of c1 c2 c3 c4 c5
       obtain ⟨g, q, hq, hql, he, h'⟩ := tok_split hc h
       obtain ⟨f, h1, h2, h3⟩ := ih q (by omega) _ t0 l st false h'
       have e : PA (st.length + 1) (c :: r) = PA (st.length + 1) q := by rw [PA_cons, if_neg c2, if_neg c1, if_neg c3, if_neg c4, if_neg c5, if_neg (by omega), hq]
       rw [e]
       refine ⟨f, by omega, h2, ?_⟩
       rw [ev_tok hc hq he, if_neg hd0, List.nil_append]
       exact h3
end Go.Ab
