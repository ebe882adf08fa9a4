/-
  ReaderBack: the card. For every argument of bulk at most 1048576, as the card says.
-/
import Derived.Test.YtdagildojaagiaaGreatDoorZ16
import Derived.Test.YtdagildojaagiaaGreatDoorZ12
set_option linter.unusedVariables false
set_option linter.unusedSimpArgs false
set_option maxRecDepth 100000
namespace Go.Ab
open Go Go.RowKit Go.Proofs
theorem ymg {R : Type} {a b : Option R} {v : R} (ha : a = some v) (hb : b = some v) : mgC a b = some v := by
 subst ha; subst hb
 unfold mgC
 split
 ·rfl
 ·rename_i h _; exact absurd rfl h
section
variable {α : Type} {P : List α} {x y d : α}
theorem stk_len : (P ++ [x]).length = P.length + 1 := by simp
theorem stk_get : (P ++ [x]).getD P.length d = x := by simp [List.getD_eq_getElem?_getD]
theorem stk_set : (P ++ [x]).set P.length y = P ++ [y] := by
 rw [List.set_append_right _ _ (Nat.le_refl _), Nat.sub_self]; rfl
theorem stk_take : (P ++ [x]).take P.length = P := by simp
theorem stk_top (h : P.length < 4611686018427387904) : IntKind.wrap .i64 (((P.length + 1 : Nat) : Int) - 1) = (P.length : Int) := by
 rw [w64 (by omega) (by omega)]; omega
theorem one_set {f z : α} {n : Nat} : [z].set (n - n) f = [f] := by rw [Nat.sub_self]; rfl
end
theorem touches_val (c : UInt8) : G_touches ((c.toNat : Nat) : Int) = some (decide (c = 34) || visS c) := by
 unfold G_touches
 have q34 : decide (((c.toNat : Nat) : Int) = 34) = decide (c = 34) := ybyteD _ 34 (by decide)
 simp only [q34, yout]
 cases hc : decide (c = 34) with
 | true => rfl
 | false => rfl
def resP : Int ⊕ List Fm → List Fm × Int × Unit
 | .inl e => ([], e, ())
 | .inr l => (l, 0, ())
structure Szs (j : Nat) (top : List Fm) (st : List (List Fm)) : Prop where
 hst : st.length ≤ j
 htop : top.length ≤ j
 hrows : ∀ t ∈ st, t.length ≤ j
theorem Szs.app {j j' : Nat} {top : List Fm} {st : List (List Fm)} (h : Szs j top st) (hj : j < j') (f : Fm) : Szs j' (top ++ [f]) st :=
 ⟨by have := h.hst; omega, by have := h.htop; simp; omega, fun t ht => by have := h.hrows t ht; omega⟩
theorem Szs.push {j j' : Nat} {top : List Fm} {st : List (List Fm)} (h : Szs j top st) (hj : j < j') : Szs j' [] (top :: st) :=
 ⟨by have := h.hst; simp only [List.length_cons]; omega, by simp, fun t ht => by
  rcases List.mem_cons.1 ht with rfl | ht
  ·have := h.htop; omega
  ·have := h.hrows t ht; omega⟩
theorem Szs.pop {j j' : Nat} {top t : List Fm} {st : List (List Fm)} (h : Szs j top (t :: st)) (hj : j < j') (f : Fm) : Szs j' (t ++ [f]) st :=
 ⟨by have := h.hst; simp only [List.length_cons] at this; omega, by have := h.hrows t (by simp); simp; omega, fun x hx => by have := h.hrows x (by simp [hx]); omega⟩
theorem Szs.le {j j' : Nat} {top : List Fm} {st : List (List Fm)} (h : Szs j top st) (hj : j ≤ j') : Szs j' top st :=
 ⟨Nat.le_trans h.hst hj, Nat.le_trans h.htop hj, fun t ht => Nat.le_trans (h.hrows t ht) hj⟩
theorem ywpv {L R : Type} {b : L → Option (Step L R)} {l0 : L} {v : R} (I : L → Prop) (μ : L → Nat) (h0 : I l0)
  (h : ∀ l, I l → (∃ l', b l = some (.next l') ∧ I l' ∧ μ l' < μ l) ∨ b l = some (.done v)) : loopM b l0 = some v := by
 obtain ⟨r, h1, h2⟩ := ywp I μ (fun r => r = v) (fun l hl => (h l hl).imp id fun h => ⟨v, h, rfl⟩) h0
 rw [← h2]; exact h1
end Go.Ab

set_option maxRecDepth 100000
namespace Go.Ab
open Go Go.RowKit Go.Proofs
theorem touch_part {A : Type} {s q : List UInt8} {j : Nat} (hj : j ≤ s.length) (hd : s.drop j = q) (X Y : Option A) :
  cond ((ixOK (j : Int) s.length) || !(decide ((j : Int) < (s.length : Int)))) (Option.bind (cond (decide ((j : Int) < (s.length : Int))) (G_touches (byteAt s (j : Int))) (some false)) fun r10 => cond (cond (decide ((j : Int) < (s.length : Int))) r10 false) X Y) none = cond (touchS visS q) X Y := by
 by_cases h : j < s.length
 ·have x1 : ixOK (j : Int) s.length = true := ixOK_iff.2 (by omega)
  have c1 : decide ((j : Int) < (s.length : Int)) = true := decide_eq_true (by omega)
  rw [ydrop h] at hd
  subst hd
  simp only [x1, c1, Bool.true_or, cond_true, ybyte h, touches_val, Option.bind_some, touchS]
 ·have c1 : decide ((j : Int) < (s.length : Int)) = false := decide_eq_false (by omega)
  have hq : q = [] := by rw [← hd]; exact List.drop_of_length_le (by omega)
  subst hq
  simp only [c1, Bool.not_false, Bool.or_true, cond_true, cond_false, Option.bind_some, touchS]
theorem parse_val {s : List UInt8} (hs : s.length ≤ 1000000000) : G_parse s = some (resP (parseS visS (tokS numS) (s.length + 1) s [] [])) := by
 unfold G_parse
 generalize hT0 : parseS visS (tokS numS) (s.length + 1) s [] [] = T0
 refine ywpv (fun l => ∃ (j : Nat) (top : List Fm) (st : List (List Fm)) (n : Nat), l = (((), (), ()), ((s, (j : Int), ()), st.reverse ++ [top], ())) ∧ j ≤ s.length ∧ s.length - j < n ∧ parseS visS (tokS numS) n (s.drop j) top st = T0 ∧ Szs j top st)
  (fun l => s.length - l.2.1.2.1.toNat) ⟨0, [], [], s.length + 1, rfl, Nat.zero_le _, by omega, by simpa using hT0, ⟨by simp, by simp, by simp⟩⟩ ?_
 rintro l ⟨j, top, st, n, rfl, hj, hn, hT, hz⟩
 obtain ⟨v, hv, hq⟩ := next_val (num := numS) hs hj (fun w hw h => number_val (by omega) h)
 cases n with
 | zero => omega
 | succ n =>
 rw [parseS_succ] at hT
 dsimp only
 rw [hv]
 simp only [Option.bind_some]
 have hPl : st.reverse.length = st.length := List.length_reverse
 have hst := hz.hst
 have htop := hz.htop
 have hstl : st.reverse.length < 4611686018427387904 := by rw [hPl]; omega
 cases hsk : skipS false (s.drop j) with
 | nil =>
  rw [hsk] at hq hT
  subst hq
  right
  cases st with
  | nil => subst hT; simp [ixOK, resP, stk_len, IntKind.wrap_i64]
  | cons t st' =>
   subst hT
   have c1 : decide (IntKind.wrap .i64 ((((t :: st').reverse ++ [top]).length : Int) - 1) > 0) = true := by
    rw [stk_len, stk_top hstl]; apply decide_eq_true; rw [hPl]; simp only [List.length_cons]; omega
   simp only [c1]
   rfl
 | cons c r =>
  rw [hsk] at hq hT
  simp only [NextQ] at hq
  by_cases c4 : c = 40 ∨ c = 41
  ·rw [if_pos c4] at hq
   obtain ⟨j', rfl, hjj, hj', hdr⟩ := hq
   have hlen : s.drop j = skipS false (s.drop j) → True := fun _ => trivial
   by_cases c40 : c = 40
   ·subst c40
    left
    have cl : (st.length + 1 + 1) * 24 ≤ 140737488355328 := by omega
    refine ⟨(((), (), ()), ((s, (j' : Int), ()), (st.reverse ++ [top]) ++ [[]], ())), ?_, ⟨j', [], top :: st, n, by simp, hj', by omega, ?_, hz.push hjj⟩, ?_⟩
    ·simp [cl]
    ·rw [hdr]; simpa using hT
    ·simp only [Int.toNat_natCast]; omega
   ·have c41 : c = 41 := c4.resolve_left c40
    subst c41
    cases st with
    | nil =>
     right
     have hT' : Sum.inl 4 = T0 := by simpa using hT
     subst hT'
     simp [stk_len, IntKind.wrap_i64, resP]
    | cons t st' =>
     left
     have hP : (t :: st').reverse = st'.reverse ++ [t] := by simp
     have hl1 : st'.reverse.length = st'.length := List.length_reverse
     have hst2 : st'.length + 1 ≤ j := by simpa using hst
     have htl : t.length ≤ j := hz.hrows t (by simp)
     rw [hP]
     have w1 : IntKind.wrap .i64 ((((st'.reverse ++ [t]) ++ [top]).length : Int) - 1) = (((st'.reverse ++ [t]).length : Nat) : Int) := by
      rw [stk_len]; exact stk_top (by rw [stk_len, hl1]; omega)
     have w2 : IntKind.wrap .i64 ((((st'.reverse ++ [t]).length : Nat) : Int) - 1) = (st'.reverse.length : Int) := by
      rw [stk_len]; exact stk_top (by rw [hl1]; omega)
     have g1 : ((st'.reverse ++ [t]) ++ [top]).getD (st'.reverse ++ [t]).length ([] : List Fm) = top := stk_get
     have g2 : (st'.reverse ++ [t]).getD st'.reverse.length ([] : List Fm) = t := stk_get
     have g3 : ((st'.reverse ++ [t]) ++ [top]).take (st'.reverse ++ [t]).length = st'.reverse ++ [t] := stk_take
     have g4 : ∀ y : List Fm, (st'.reverse ++ [t]).set st'.reverse.length y = st'.reverse ++ [y] := fun y => stk_set
     have c1 : decide (((st'.reverse ++ [t]).length : Int) = 0) = false := by apply decide_eq_false; rw [stk_len]; omega
     have c2 : ixOK (((st'.reverse ++ [t]).length : Nat) : Int) ((st'.reverse ++ [t]) ++ [top]).length = true := ixOK_iff.2 (by rw [stk_len (x := top)]; omega)
     have c3 : decide ((st'.reverse ++ [t]).length < ((st'.reverse ++ [t]) ++ [top]).length) = true := decide_eq_true (by rw [stk_len (x := top)]; omega)
     have c4' : hiOK (((st'.reverse ++ [t]).length : Nat) : Int) ((st'.reverse ++ [t]) ++ [top]).length = true := hiOK_iff.2 (by rw [stk_len (x := top)]; omega)
     have c5 : ixOK ((st'.reverse.length : Nat) : Int) (st'.reverse ++ [t]).length = true := ixOK_iff.2 (by rw [stk_len]; omega)
     have c6 : decide (st'.reverse.length < (st'.reverse ++ [t]).length) = true := decide_eq_true (by rw [stk_len]; omega)
     have c7 : ∀ f : Fm, decide ((t.length + [f].length) * 56 ≤ 140737488355328) = true := fun f => decide_eq_true (by simp only [List.length_cons, List.length_nil]; omega)
     have c8 : decide (st'.reverse.length = st'.reverse.length) = true := decide_eq_true rfl
     have c9 : ∀ f : Fm, ixOK ((t.length : Nat) : Int) (t.length + [f].length) = true := fun f => ixOK_iff.2 (by simp only [List.length_cons, List.length_nil]; omega)
     have c10 : decide (t.length ≤ t.length) = true := decide_eq_true (Nat.le_refl _)
     have c11 : ∀ f : Fm, decide (t.length < t.length + [f].length) = true := fun f => decide_eq_true (by simp)
     refine ⟨(((), (), ()), ((s, (j' : Int), ()), (st'.reverse ++ [t ++ [lstF top]]), ())), ?_, ⟨j', t ++ [lstF top], st', n, rfl, hj', by omega, ?_, hz.pop hjj _⟩, ?_⟩
     ·have e41 : (((41 : UInt8).toNat : Nat) : Int) = 41 := rfl
      simp only [e41, w1, w2, Int.toNat_natCast, g1, g2, g3, g4, c1, c2, c3, c4', c5, c6, c7, c8, c9, c10, c11, cond_true, cond_false, Bool.true_and, one_set, Bool.not_true, show decide ((41 : Int) = 40) = false from rfl, show decide ((41 : Int) = 41) = true from rfl, show decide ((0 : Int) = 0) = true from rfl, show decide ((41 : Int) = 0) = false from rfl]
      refine ybind (ymg rfl rfl) ?_
      simp [lstF]
     ·rw [hdr]; simpa using hT
     ·simp only [Int.toNat_natCast]; omega
  ·rw [if_neg c4] at hq
   simp only [not_or] at c4
   simp only [if_neg c4.1, if_neg c4.2] at hT
   have key : (∃ e : Int, e ≠ 0 ∧ (∃ (t : Int × Fm) (a : Bool) (jj : Int), v = ((t, a, e, ()), ((s, jj, ()), ()))) ∧ T0 = .inl e) ∨
     (∃ (f : Fm) (q : List UInt8) (j' : Nat), v = (((0, f), true, 0, ()), ((s, (j' : Int), ()), ())) ∧ j < j' ∧ j' ≤ s.length ∧ s.drop j' = q ∧ T0 = if touchS visS q = true then .inl 4 else parseS visS (tokS numS) n q (top ++ [f]) st) := by
    by_cases c34 : c = 34
    ·rw [if_pos c34] at hq
     simp only [if_pos c34] at hT
     cases ht : textS r [] with
     | inl e =>
      rw [ht] at hq hT
      exact .inl ⟨e, hq.1, hq.2, hT.symm⟩
     | inr p =>
      obtain ⟨b, q⟩ := p
      rw [ht] at hq hT
      obtain ⟨j', h1, h2, h3, h4⟩ := hq
      exact .inr ⟨txtF b, q, j', h1, h2, h3, h4, hT.symm⟩
    ·rw [if_neg c34] at hq
     simp only [if_neg c34] at hT
     by_cases cv : visS c = true
     ·rw [if_pos cv] at hq
      simp only [if_pos cv] at hT
      cases ht : tokS numS ((c :: r).takeWhile visS) with
      | inl e =>
       rw [ht] at hq hT
       exact .inl ⟨e, hq.1, hq.2, hT.symm⟩
      | inr f =>
       rw [ht] at hq hT
       obtain ⟨j', h1, h2, h3, h4⟩ := hq
       exact .inr ⟨f, _, j', h1, h2, h3, h4, hT.symm⟩
     ·rw [if_neg cv] at hq
      simp only [if_neg cv] at hT
      exact .inl ⟨4, by decide, hq, hT.symm⟩
   rcases key with ⟨e, he, ⟨tt, a, jj, rfl⟩, hR⟩ | ⟨f, q, j', rfl, hjj, hj', hdr, hR⟩
   ·right
    rw [hR]
    have ce : decide (e = 0) = false := decide_eq_false he
    simp only [ce, Bool.not_false, cond_true, Option.bind_some]
    rfl
   ·have w1 : IntKind.wrap .i64 (((st.reverse ++ [top]).length : Int) - 1) = (st.reverse.length : Int) := by
     rw [stk_len]; exact stk_top hstl
    have g1 : (st.reverse ++ [top]).getD st.reverse.length ([] : List Fm) = top := stk_get
    have g4 : ∀ y : List Fm, (st.reverse ++ [top]).set st.reverse.length y = st.reverse ++ [y] := fun y => stk_set
    have c5 : ixOK ((st.reverse.length : Nat) : Int) (st.reverse ++ [top]).length = true := ixOK_iff.2 (by rw [stk_len]; omega)
    have c6 : decide (st.reverse.length < (st.reverse ++ [top]).length) = true := decide_eq_true (by rw [stk_len]; omega)
    have c7 : ∀ f : Fm, decide ((top.length + [f].length) * 56 ≤ 140737488355328) = true := fun f => decide_eq_true (by simp only [List.length_cons, List.length_nil]; omega)
    have c8 : decide (st.reverse.length = st.reverse.length) = true := decide_eq_true rfl
    have c9 : ∀ f : Fm, ixOK ((top.length : Nat) : Int) (top.length + [f].length) = true := fun f => ixOK_iff.2 (by simp only [List.length_cons, List.length_nil]; omega)
    have c10 : decide (top.length ≤ top.length) = true := decide_eq_true (Nat.le_refl _)
    have c11 : ∀ f : Fm, decide (top.length < top.length + [f].length) = true := fun f => decide_eq_true (by simp)
    have fin : ∀ X : Option (Step ((Unit × Unit × Unit) × (((List UInt8) × Int × Unit) × (List (List Fm)) × Unit)) ((List Fm) × Int × Unit)), X = cond (touchS visS q) (some (.done ([], 4, ()))) (some (.next (((), (), ()), ((s, (j' : Int), ()), (st.reverse ++ [top ++ [f]]), ())))) →
      (∃ l', X = some (.next l') ∧ (∃ (j : Nat) (top : List Fm) (st : List (List Fm)) (n : Nat), l' = (((), (), ()), ((s, (j : Int), ()), st.reverse ++ [top], ())) ∧ j ≤ s.length ∧ s.length - j < n ∧ parseS visS (tokS numS) n (s.drop j) top st = T0 ∧ Szs j top st) ∧ s.length - l'.2.1.2.1.toNat < s.length - (j : Int).toNat) ∨ X = some (.done (resP T0)) := fun X hX => by
     cases htc : touchS visS q with
     | true =>
      rw [htc] at hX hR
      right
      rw [hX, hR]; rfl
     | false =>
      rw [htc] at hX hR
      left
      refine ⟨_, hX, ⟨j', top ++ [f], st, n, rfl, hj', by omega, ?_, hz.app hjj f⟩, by simp only [Int.toNat_natCast]; omega⟩
      rw [hdr, hR, if_neg (by decide)]
    refine fin _ ?_
    simp only [w1, Int.toNat_natCast, g1, g4, c5, c6, c7, c8, c9, c10, c11, cond_true, cond_false, Bool.true_and, Bool.and_true, one_set, Bool.not_true, Bool.not_false, show decide ((0 : Int) = 40) = false from rfl, show decide ((0 : Int) = 41) = false from rfl, show decide ((0 : Int) = 0) = true from rfl]
    refine ybind (ymg rfl rfl) ?_
    simp only [Fm.eta_eq, show decide ((0 : Int) = 0) = true from rfl, cond_true]
    exact touch_part hj' hdr _ _
end Go.Ab

set_option maxRecDepth 100000
namespace Go.Ab
open Go Go.RowKit Go.Proofs
end Go.Ab

set_option maxRecDepth 100000
namespace Go.Ab
open Go Go.RowKit Go.Proofs
end Go.Ab

set_option maxRecDepth 100000
namespace Go.Ab
open Go Go.RowKit Go.Proofs
end Go.Ab

set_option maxRecDepth 100000
namespace Go.Ab
open Go Go.RowKit Go.Proofs
theorem skip_len : ∀ (b : Bool) (r : List UInt8), (skipS b r).length ≤ r.length
 | _, [] => by simp [skipS]
 | true, c :: r => by
  simp only [skipS, List.length_cons]
  split
  ·have := skip_len false r; omega
  ·have := skip_len true r; omega
 | false, c :: r => by
  simp only [skipS, List.length_cons]
  split
  ·have := skip_len false r; omega
  ·split
   ·have := skip_len true r; omega
   ·simp
def goodT (b : List UInt8) : Prop := ∀ c ∈ b, badB c = false
theorem goodT.app {b : List UInt8} {c : UInt8} (h : goodT b) (hc : badB c = false) : goodT (b ++ [c]) := fun x hx => by
 rcases List.mem_append.1 hx with hx | hx
 ·exact h x hx
 ·rw [List.mem_singleton.1 hx]; exact hc
theorem good_esc {d : UInt8} (h : d = 34 ∨ d = 92) : badB d = false := by rcases h with rfl | rfl <;> decide
theorem good_plain {c : UInt8} (h : ¬ (c < 32 ∨ c > 126)) : badB c = false := by
 revert h
 have : ∀ n : Fin 256, ¬ ((UInt8.ofFin n) < 32 ∨ (UInt8.ofFin n) > 126) → badB (UInt8.ofFin n) = false := by decide +kernel
 exact this c.toFin
theorem textS_good : ∀ (r b x q : List UInt8), textS r b = .inr (x, q) → goodT b → goodT x ∧ x.length ≤ 2000 ∧ x.length + q.length + 1 ≤ b.length + r.length
 | [], b, x, q, h, _ => by simp [textS] at h
 | [c], b, x, q, h, hb => by
  simp only [textS] at h
  split at h
  ·split at h
   ·cases h
   ·cases h; exact ⟨hb, by omega, by simp⟩
  ·split at h
   ·cases h
   ·split at h <;> cases h
 | c :: d :: r, b, x, q, h, hb => by
  simp only [textS] at h
  split at h
  ·split at h
   ·cases h
   ·cases h; exact ⟨hb, by omega, by simp only [List.length_cons]; omega⟩
  ·split at h
   ·split at h
    ·obtain ⟨h1, h2, h3⟩ := textS_good r _ x q h (hb.app (by decide))
     refine ⟨h1, h2, ?_⟩
     simp only [List.length_append, List.length_cons, List.length_nil] at h3 ⊢; omega
    ·split at h
     ·rename_i hd
      obtain ⟨h1, h2, h3⟩ := textS_good r _ x q h (hb.app (good_esc hd))
      refine ⟨h1, h2, ?_⟩
      simp only [List.length_append, List.length_cons, List.length_nil] at h3 ⊢; omega
     ·cases h
   ·split at h
    ·cases h
    ·rename_i hc
     obtain ⟨h1, h2, h3⟩ := textS_good (d :: r) _ x q h (hb.app (good_plain hc))
     refine ⟨h1, h2, ?_⟩
     simp only [List.length_append, List.length_cons, List.length_nil] at h3 ⊢; omega
theorem textS_ne : ∀ (r b : List UInt8), textS r b ≠ .inl 0
 | [], b => by simp [textS]
 | [c], b => by
  simp only [textS]
  split
  ·split <;> simp
  ·split
   ·simp
   ·split <;> simp
 | c :: d :: r, b => by
  simp only [textS]
  split
  ·split <;> simp
  ·split
   ·split
    ·exact textS_ne r _
    ·split
     ·exact textS_ne r _
     ·simp
   ·split
    ·simp
    ·exact textS_ne (d :: r) _
theorem txt_good {b : List UInt8} (h : goodT b) (hl : b.length ≤ 2000) : fieldsF (txtF b) = true := by
 have : badT b = false := by
  rw [badT_any, List.any_eq_false]
  intro c hc; rw [h c hc]; decide
 simp [txtF, fieldsF, fieldsL, leafS, this, hl]
theorem numS_bound (w : List UInt8) (h : (numS w).2 = 0) : -1152921504606846976 ≤ (numS w).1 ∧ (numS w).1 ≤ 1152921504606846976 := by
 unfold numS at h ⊢
 split
 ·rename_i h1; rw [if_pos h1] at h; simp at h
 ·rename_i h1
  rw [if_neg h1] at h
  split
  ·rename_i h2; rw [if_pos h2] at h; simp at h
  ·simp only
   split <;> omega
theorem tok_good {w : List UInt8} {f : Fm} (h : tokS numS w = .inr f) (hv : ∀ c ∈ w, visS c = true) (hne : w ≠ []) : fieldsF f = true ∧ f.big ≤ 2 * w.length := by
 have hpos : 0 < w.length := List.length_pos_iff.2 hne
 unfold tokS at h
 split at h
 ·split at h
  ·rename_i h0
   cases h
   have := numS_bound w h0
   refine ⟨?_, by simp only [nuF, Fm.big, Fm.bigL, List.length_nil]; omega⟩
   simp [nuF, fieldsF, fieldsL, leafS, this]
  ·cases h
 ·rename_i hn
  split at h
  ·cases h
  ·rename_i hl
   cases h
   refine ⟨?_, by simp only [wrdF, Fm.big, Fm.bigL]; omega⟩
   have ho : w.all (fun c => !outsideS c) = true := List.all_eq_true.2 fun c hc => hv c hc
   have hn' : numericS w = false := by simpa using hn
   have hl' : w.length ≤ 30 := by omega
   simp only [wrdF, fieldsF, fieldsL, leafS, wordS, ho, hn', hl']
   simp [hne]
theorem tokS_ne (w : List UInt8) : tokS numS w ≠ .inl 0 := by
 unfold tokS
 split
 ·split
  ·simp
  ·rename_i h; simpa using h
 ·split <;> simp
theorem fieldsL_app : ∀ (a b : List Fm), fieldsL (a ++ b) = (fieldsL a && fieldsL b)
 | [], b => by simp [fieldsL]
 | f :: a, b => by simp [fieldsL, fieldsL_app a b, Bool.and_assoc]
theorem bigL_app : ∀ (a b : List Fm), Fm.bigL (a ++ b) = Fm.bigL a + Fm.bigL b
 | [], b => by simp [Fm.bigL]
 | f :: a, b => by simp [Fm.bigL, bigL_app a b]; omega
def bigLL : List (List Fm) → Nat
 | [] => 0
 | t :: st => Fm.bigL t + bigLL st
theorem takeWhile_all {p : UInt8 → Bool} : ∀ {l : List UInt8} {c : UInt8}, c ∈ l.takeWhile p → p c = true := fun {l c} h => by
 have := List.all_takeWhile (p := p) (l := l)
 exact List.all_eq_true.1 this c h
theorem parse_good : ∀ (n : Nat) (r : List UInt8) (top : List Fm) (st : List (List Fm)) (l : List Fm), parseS visS (tokS numS) n r top st = .inr l → fieldsL top = true → (∀ t ∈ st, fieldsL t = true) →
  fieldsL l = true ∧ Fm.bigL l ≤ Fm.bigL top + bigLL st + 2 * r.length
 | 0, r, top, st, l, h, _, _ => by simp [parseS] at h
 | n + 1, r, top, st, l, h, ht, hst => by
  have hsl := skip_len false r
  rw [parseS_succ] at h
  cases hsk : skipS false r with
  | nil =>
   rw [hsk] at h
   cases st with
   | nil => cases h; exact ⟨ht, by simp [bigLL]⟩
   | cons t st' => cases h
  | cons c r' =>
   rw [hsk] at h hsl
   simp only [List.length_cons] at hsl
   simp only at h
   split at h
   ·obtain ⟨h1, h2⟩ := parse_good n r' [] (top :: st) l h rfl (fun t hx => by rcases List.mem_cons.1 hx with rfl | hx; exact ht; exact hst t hx)
    refine ⟨h1, ?_⟩
    simp only [Fm.bigL, bigLL] at h2; omega
   ·split at h
    ·cases st with
     | nil => cases h
     | cons t st' =>
      simp only at h
      obtain ⟨h1, h2⟩ := parse_good n r' (t ++ [lstF top]) st' l h (by
       rw [fieldsL_app, hst t (by simp)]
       simp [fieldsL, lstF, fieldsF, leafS, ht]) (fun x hx => hst x (by simp [hx]))
      refine ⟨h1, ?_⟩
      simp only [bigL_app, Fm.bigL, lstF, Fm.big, List.length_nil, bigLL] at h2 ⊢; omega
    ·split at h
     ·cases hx : textS r' [] with
      | inl e => rw [hx] at h; cases h
      | inr p =>
       obtain ⟨b, q⟩ := p
       rw [hx] at h
       simp only at h
       obtain ⟨k1, k2, k3⟩ := textS_good r' [] b q hx (fun c hc => by cases hc)
       simp only [List.length_nil] at k3
       split at h
       ·cases h
       ·obtain ⟨h1, h2⟩ := parse_good n q (top ++ [txtF b]) st l h (by rw [fieldsL_app, ht]; simp [fieldsL, txt_good k1 k2]) hst
        refine ⟨h1, ?_⟩
        simp only [bigL_app, Fm.bigL, txtF, Fm.big] at h2; omega
     ·split at h
      ·rename_i hv
       cases hx : tokS numS ((c :: r').takeWhile visS) with
       | inl e => rw [hx] at h; cases h
       | inr f =>
        rw [hx] at h
        simp only at h
        have hne : (c :: r').takeWhile visS ≠ [] := by rw [List.takeWhile_cons_of_pos hv]; simp
        obtain ⟨k1, k2⟩ := tok_good hx (fun c hc => takeWhile_all hc) hne
        have hlen : ((c :: r').takeWhile visS).length + ((c :: r').dropWhile visS).length = r'.length + 1 := by
         rw [← List.length_append, List.takeWhile_append_dropWhile, List.length_cons]
        split at h
        ·cases h
        ·obtain ⟨h1, h2⟩ := parse_good n _ (top ++ [f]) st l h (by rw [fieldsL_app, ht]; simp [fieldsL, k1]) hst
         refine ⟨h1, ?_⟩
         simp only [bigL_app, Fm.bigL] at h2; omega
      ·cases h
theorem parse_ne : ∀ (n : Nat) (r : List UInt8) (top : List Fm) (st : List (List Fm)), r.length < n → parseS visS (tokS numS) n r top st ≠ .inl 0
 | 0, r, top, st, h => by omega
 | n + 1, r, top, st, h => by
  have hsl := skip_len false r
  rw [parseS_succ]
  cases hsk : skipS false r with
  | nil => cases st <;> simp
  | cons c r' =>
   rw [hsk] at hsl
   simp only [List.length_cons] at hsl
   simp only
   split
   ·exact parse_ne n r' _ _ (by omega)
   ·split
    ·cases st with
     | nil => simp
     | cons t st' => exact parse_ne n r' _ _ (by omega)
    ·split
     ·cases hx : textS r' [] with
      | inl e => have := textS_ne r' []; rw [hx] at this; simpa using this
      | inr p =>
       obtain ⟨b, q⟩ := p
       have := textS_len r' [] b q hx
       simp only
       split
       ·simp
       ·exact parse_ne n q _ _ (by omega)
     ·split
      ·rename_i hv
       cases hx : tokS numS ((c :: r').takeWhile visS) with
       | inl e => have := tokS_ne ((c :: r').takeWhile visS); rw [hx] at this; simpa using this
       | inr f =>
        simp only
        have hl : ((c :: r').dropWhile visS).length ≤ r'.length := by rw [List.dropWhile_cons_of_pos hv]; exact drop_len _ _
        split
        ·simp
        ·exact parse_ne n _ _ _ (by omega)
      ·simp
end Go.Ab

set_option maxRecDepth 100000
namespace Go.Ab
open Go Go.RowKit Go.Proofs
def readS (s : List UInt8) : List Fm × Int × Unit :=
 if s.length > 60000 then ([], 2, ()) else match parseS visS (tokS numS) (s.length + 1) s [] [] with
  | .inl e => ([], e, ())
  | .inr l => if l.all validF = true then (l, 0, ()) else ([], 2, ())
theorem getD_ix {l : List Fm} {i : Nat} (h : i < l.length) : l.getD i (Fm.mk 0 0 [] []) = l[i] := by simp [List.getD_eq_getElem?_getD, h]
theorem any_drop {l : List Fm} {i : Nat} {p : Fm → Bool} (h : i < l.length) : (l.drop i).all p = (p l[i] && (l.drop (i + 1)).all p) := by
 rw [List.drop_eq_getElem_cons h, List.all_cons]
theorem indexBad_val {l : List Fm} (hl : l.length ≤ 1000000000) (hb : ∀ f ∈ l, f.big ≤ 4611686018427387000) : ∃ k : Int, G_indexBad l () = some k ∧ (0 ≤ k ↔ l.all validF = false) := by
 unfold G_indexBad
 refine yloop (fun d => ∃ i : Nat, d = ((l, (), (l.length : Int), (i : Int), ()), ()) ∧ i ≤ l.length ∧ (l.drop i).all validF = l.all validF) (fun d => l.length - d.1.2.2.2.1.toNat) _ ?_ ⟨0, rfl, Nat.zero_le _, rfl⟩
 rintro d ⟨i, rfl, hi, hk⟩
 simp only [Int.toNat_natCast]
 by_cases hi' : i < l.length
 ·have e1 : decide ((i : Int) < (l.length : Int)) = true := decide_eq_true (by omega)
  have x1 : ixOK (i : Int) l.length = true := ixOK_iff.2 (by omega)
  have hm : l[i] ∈ l := List.getElem_mem hi'
  simp only [e1, x1, cond_true, getD_ix hi', Fm.eta_eq, G_readBad, rvalid_val (hb _ hm), Option.bind_some, ywrap (show i < 4611686018427387904 by omega)]
  rw [any_drop hi'] at hk
  cases hv : validF l[i] with
  | true =>
   rw [hv, Bool.true_and] at hk
   simp only [Bool.not_true, cond_false]
   exact .inl ⟨_, rfl, ⟨i + 1, rfl, by omega, hk⟩, by simp only [Int.toNat_natCast]; omega⟩
  | false =>
   rw [hv, Bool.false_and] at hk
   simp only [Bool.not_false, cond_true]
   exact .inr ⟨_, rfl, _, rfl, by rw [← hk]; simp⟩
 ·have e1 : decide ((i : Int) < (l.length : Int)) = false := decide_eq_false (by omega)
  have hd : l.drop i = [] := List.drop_of_length_le (by omega)
  rw [hd, List.all_nil] at hk
  simp only [e1, cond_false]
  exact .inr ⟨_, rfl, _, rfl, by rw [← hk]; simp⟩
theorem contains_val {l : List Fm} (hl : l.length ≤ 1000000000) (hb : ∀ f ∈ l, f.big ≤ 4611686018427387000) : G_containsBad1 l () = some (!l.all validF) := by
 obtain ⟨k, h1, h2⟩ := indexBad_val hl hb
 unfold G_containsBad1
 rw [h1]
 simp only [Option.bind_some]
 cases ha : l.all validF with
 | true =>
  have : ¬ (0 ≤ k) := fun h => by rw [h2.1 h] at ha; cases ha
  rw [decide_eq_false (by omega)]; rfl
 | false => rw [decide_eq_true (h2.2 ha)]; rfl
theorem fieldsL_mem : ∀ {l : List Fm}, fieldsL l = true → ∀ f ∈ l, fieldsF f = true
 | [], _, f, h => by cases h
 | g :: l, hl, f, h => by
  simp only [fieldsL, Bool.and_eq_true] at hl
  rcases List.mem_cons.1 h with rfl | h
  ·exact hl.1
  ·exact fieldsL_mem hl.2 f h
theorem big_len : ∀ l : List Fm, l.length ≤ Fm.bigL l
 | [] => Nat.le_refl _
 | f :: l => by
  have := big_len l
  have := big_pos f
  simp only [List.length_cons, Fm.bigL]; omega
theorem parse_ok {s : List UInt8} {l : List Fm} (hs : s.length ≤ 60000) (h : parseS visS (tokS numS) (s.length + 1) s [] [] = .inr l) : (∀ f ∈ l, fieldsF f = true) ∧ (∀ f ∈ l, f.big ≤ 120000) ∧ l.length ≤ 120000 := by
 obtain ⟨h1, h2⟩ := parse_good _ s [] [] l h rfl (fun t ht => by cases ht)
 simp only [Fm.bigL, bigLL] at h2
 refine ⟨fieldsL_mem h1, fun f hf => ?_, ?_⟩
 ·have := big_mem hf; omega
 ·have := big_len l; omega
theorem readA_val {s : List UInt8} : G_readA s = some (readS s) := by
 unfold G_readA readS
 by_cases h : s.length > 60000
 ·rw [if_pos h, decide_eq_true (show ((s.length : Int) > 60000) by omega)]; rfl
 ·rw [if_neg h, decide_eq_false (show ¬ ((s.length : Int) > 60000) by omega), cond_false, parse_val (by omega)]
  cases hp : parseS visS (tokS numS) (s.length + 1) s [] [] with
  | inl e =>
   have he : e ≠ 0 := fun h0 => parse_ne _ s [] [] (Nat.lt_succ_self _) (by rw [hp, h0])
   simp only [Option.bind_some, resP, decide_eq_false he, Bool.not_false, cond_true]
  | inr l =>
   obtain ⟨h1, h2, h3⟩ := parse_ok (by omega) hp
   simp only [Option.bind_some, resP, show decide ((0 : Int) = 0) = true from rfl, Bool.not_true, cond_false, contains_val (show l.length ≤ 1000000000 by omega) (fun f hf => by have := h2 f hf; omega)]
   cases l.all validF with
   | true => rfl
   | false => rfl
theorem vis_not (c : UInt8) (h : visS c = true) : blankB c = false ∧ c ≠ 59 ∧ c ≠ 40 ∧ c ≠ 41 ∧ c ≠ 34 := by
 revert h
 have : ∀ n : Fin 256, visS (UInt8.ofFin n) = true → blankB (UInt8.ofFin n) = false ∧ UInt8.ofFin n ≠ 59 ∧ UInt8.ofFin n ≠ 40 ∧ UInt8.ofFin n ≠ 41 ∧ UInt8.ofFin n ≠ 34 := by decide +kernel
 exact this c.toFin
end Go.Ab

set_option maxRecDepth 100000
namespace Go.Ab
open Go Go.RowKit Go.Proofs
theorem dec_digits : ∀ u : Nat, (Lib.decDigits u).all digitB = true := by
 intro u
 induction u using Nat.strongRecOn with
 | _ u ih =>
  have h1 : ∀ d : Nat, d < 10 → digitB (UInt8.ofNat (48 + d)) = true := by decide
  by_cases h : u < 10
  ·rw [Lib.decDigits_one h]; simp only [List.all_cons, List.all_nil, Bool.and_true]; exact h1 u h
  ·rw [Lib.decDigits, dif_neg h, List.all_append, ih (u / 10) (by omega)]
   simp only [List.all_cons, List.all_nil, Bool.and_true, Bool.true_and]; exact h1 (u % 10) (by omega)
theorem valD_app (acc : Nat) (a b : List UInt8) : valD acc (a ++ b) = valD (valD acc a) b := by unfold valD; rw [List.foldl_append]
theorem dec_val : ∀ u : Nat, valD 0 (Lib.decDigits u) = u := by
 intro u
 induction u using Nat.strongRecOn with
 | _ u ih =>
  have h1 : ∀ d : Nat, d < 10 → (UInt8.ofNat (48 + d)).toNat - 48 = d := by decide
  by_cases h : u < 10
  ·rw [Lib.decDigits_one h, valD_cons, valD_nil, h1 u h]; omega
  ·rw [Lib.decDigits, dif_neg h, valD_app, ih (u / 10) (by omega), valD_cons, valD_nil, h1 (u % 10) (by omega)]; omega
theorem dec_ne (u : Nat) : Lib.decDigits u ≠ [] := by
 intro h
 have h1 := Lib.decDigits_length u
 have h2 := Lib.nDigits_pos u
 rw [h, List.length_nil] at h1
 omega
theorem dec_head : ∀ u : Nat, 10 ≤ u → (Lib.decDigits u).head? ≠ some 48 := by
 intro u
 induction u using Nat.strongRecOn with
 | _ u ih =>
  intro h
  have h1 : ∀ d : Nat, d < 10 → 1 ≤ d → UInt8.ofNat (48 + d) ≠ 48 := by decide
  rw [Lib.decDigits, dif_neg (by omega)]
  by_cases h2 : u / 10 < 10
  ·rw [Lib.decDigits_one h2]
   intro e
   exact h1 (u / 10) h2 (by omega) (Option.some.inj e)
  ·have := ih (u / 10) (by omega) (by omega)
   have hne := dec_ne (u / 10)
   cases hd : Lib.decDigits (u / 10) with
   | nil => exact absurd hd hne
   | cons c r => rw [hd] at this; simpa using this
theorem dec_one (u : Nat) : ¬ (1 < (Lib.decDigits u).length ∧ (Lib.decDigits u).head? = some 48) := by
 rintro ⟨h1, h2⟩
 by_cases h : u < 10
 ·rw [Lib.decDigits_one h] at h1; simp at h1
 ·exact dec_head u (by omega) h2
theorem digit_not45 {c : UInt8} (h : digitB c = true) : c ≠ 45 := by
 intro e; subst e; revert h; decide
theorem digit_vis {c : UInt8} (h : digitB c = true) : visS c = true := by
 have : ∀ n : Fin 256, digitB (UInt8.ofFin n) = true → visS (UInt8.ofFin n) = true := by decide +kernel
 exact this c.toFin h
theorem cut_dec (u : Nat) : cutMinus (Lib.decDigits u) = Lib.decDigits u := by
 unfold cutMinus
 have h := dec_digits u
 cases hd : Lib.decDigits u with
 | nil => rfl
 | cons c r =>
  rw [hd, List.all_cons, Bool.and_eq_true] at h
  rw [if_neg (by simp [digit_not45 h.1])]
theorem cut_neg (r : List UInt8) : cutMinus (45 :: r) = r := by unfold cutMinus; rw [if_pos (by simp)]; rfl
theorem head_dec (u : Nat) : (Lib.decDigits u).head? ≠ some 45 := by
 have h := dec_digits u
 cases hd : Lib.decDigits u with
 | nil => simp
 | cons c r =>
  rw [hd, List.all_cons, Bool.and_eq_true] at h
  simp [digit_not45 h.1]
theorem numeric_itoa (n : Int) : numericS (Lib.itoa n) = true := by
 unfold numericS Lib.itoa
 split
 ·rw [cut_neg]; simp [dec_ne, dec_digits]
 ·rw [cut_dec]; simp [dec_ne, dec_digits]
theorem num_itoa {n : Int} (h1 : -1152921504606846976 ≤ n) (h2 : n ≤ 1152921504606846976) : numS (Lib.itoa n) = (n, 0) := by
 unfold numS Lib.itoa
 split
 ·rename_i h
  rw [cut_neg, dec_val, if_neg, if_neg (by omega), if_pos (by simp)]
  ·congr 1; omega
  ·rintro (h3 | h3)
   ·exact dec_one _ h3
   ·have h4 : Lib.decDigits n.natAbs = [48] := by simpa using h3
    have := dec_val n.natAbs
    rw [h4] at this
    have e : valD 0 [48] = 0 := rfl
    rw [e] at this; omega
 ·rename_i h
  rw [cut_dec, dec_val, if_neg, if_neg (by omega), if_neg (head_dec _)]
  ·congr 1; omega
  ·rintro (h3 | h3)
   ·exact dec_one _ h3
   ·exact head_dec n.toNat (by rw [h3]; rfl)
theorem itoa_vis (n : Int) : ∀ c ∈ Lib.itoa n, visS c = true := by
 unfold Lib.itoa
 split
 ·intro c hc
  rcases List.mem_cons.1 hc with rfl | hc
  ·decide
  ·exact digit_vis (List.all_eq_true.1 (dec_digits _) c hc)
 ·intro c hc; exact digit_vis (List.all_eq_true.1 (dec_digits _) c hc)
theorem itoa_ne (n : Int) : Lib.itoa n ≠ [] := by
 unfold Lib.itoa
 split
 ·simp
 ·exact dec_ne _
theorem text_end (q b : List UInt8) (h : b.length ≤ 2000) : textS (34 :: q) b = .inr (b, q) := by
 cases q <;> simp [textS] <;> omega
theorem text_esc {d : UInt8} (h : d = 34 ∨ d = 92) (q b : List UInt8) : textS (92 :: d :: q) b = textS q (b ++ [d]) := by
 rcases h with rfl | rfl <;> simp [textS]
theorem text_nl (q b : List UInt8) : textS (92 :: 110 :: q) b = textS q (b ++ [10]) := by simp [textS]
theorem text_plain {c : UInt8} (h1 : c ≠ 34) (h2 : c ≠ 92) (h3 : ¬ (c < 32 ∨ c > 126)) (d : UInt8) (q b : List UInt8) : textS (c :: d :: q) b = textS (d :: q) (b ++ [c]) := by
 simp [textS, h1, h2, h3]
theorem rep_cases (c : UInt8) (h : badB c = false) : (c = 92 ∧ repB c.toNat = some [92, 92]) ∨ (c = 34 ∧ repB c.toNat = some [92, 34]) ∨ (c = 10 ∧ repB c.toNat = some [92, 110]) ∨ (c ≠ 34 ∧ c ≠ 92 ∧ ¬ (c < 32 ∨ c > 126) ∧ repB c.toNat = none) := by
 have : ∀ n : Fin 256, badB (UInt8.ofFin n) = false → (UInt8.ofFin n = 92 ∧ repB (UInt8.ofFin n).toNat = some [92, 92]) ∨ (UInt8.ofFin n = 34 ∧ repB (UInt8.ofFin n).toNat = some [92, 34]) ∨ (UInt8.ofFin n = 10 ∧ repB (UInt8.ofFin n).toNat = some [92, 110]) ∨ (UInt8.ofFin n ≠ 34 ∧ UInt8.ofFin n ≠ 92 ∧ ¬ (UInt8.ofFin n < 32 ∨ UInt8.ofFin n > 126) ∧ repB (UInt8.ofFin n).toNat = none) := by decide +kernel
 exact this c.toFin h
theorem esc_cons (c : UInt8) (t : List UInt8) : escS (c :: t) = (repB c.toNat).getD [c] ++ escS t := by simp [escS]
theorem text_back : ∀ (t b q : List UInt8), (∀ c ∈ t, badB c = false) → b.length + t.length ≤ 2000 → textS (escS t ++ (34 :: q)) b = .inr (b ++ t, q)
 | [], b, q, _, hl => by
  have e : escS [] = [] := rfl
  rw [e, List.nil_append, List.append_nil, text_end q b (by simpa using hl)]
 | c :: t, b, q, hc, hl => by
  have ih := fun d => text_back t (b ++ [d]) q (fun x hx => hc x (by simp [hx])) (by simp only [List.length_cons, List.length_append, List.length_nil] at hl ⊢; omega)
  have e2 : ∀ d : UInt8, b ++ [d] ++ t = b ++ (d :: t) := fun d => by simp
  rw [esc_cons]
  rcases rep_cases c (hc c (by simp)) with ⟨rfl, h⟩ | ⟨rfl, h⟩ | ⟨rfl, h⟩ | ⟨h1, h2, h3, h⟩
  ·rw [h]
   show textS (92 :: 92 :: (escS t ++ (34 :: q))) b = _
   rw [text_esc (.inr rfl), ih, e2]
  ·rw [h]
   show textS (92 :: 34 :: (escS t ++ (34 :: q))) b = _
   rw [text_esc (.inl rfl), ih, e2]
  ·rw [h]
   show textS (92 :: 110 :: (escS t ++ (34 :: q))) b = _
   rw [text_nl, ih, e2]
  ·rw [h]
   show textS (c :: (escS t ++ (34 :: q))) b = _
   cases hx : escS t ++ (34 :: q) with
   | nil => simp at hx
   | cons d r =>
    rw [text_plain h1 h2 h3, ← hx, ih, e2]
theorem ps_fuel {n m : Nat} {r : List UInt8} (hn : r.length < n) (hm : r.length < m) (top : List Fm) (st : List (List Fm)) : parseS visS (tokS numS) n r top st = parseS visS (tokS numS) m r top st := by
 have h1 := read_same visS (tokS numS) vis_not r.length r (Nat.le_refl _) n n false top st hn hn
 have h2 := read_same visS (tokS numS) vis_not r.length r (Nat.le_refl _) n m false top st hn hm
 rw [Bool.false_and, if_neg (by simp)] at h1 h2
 exact h1.symm.trans h2
def PF (r : List UInt8) (top : List Fm) (st : List (List Fm)) : Int ⊕ List Fm := parseS visS (tokS numS) (r.length + 1) r top st
theorem ps_pf {n : Nat} {r : List UInt8} (hn : r.length < n) (top : List Fm) (st : List (List Fm)) : parseS visS (tokS numS) n r top st = PF r top st := ps_fuel hn (Nat.lt_succ_self _) top st
theorem pf_skip {r q : List UInt8} (h : skipS false r = skipS false q) (top : List Fm) (st : List (List Fm)) : PF r top st = PF q top st := by
 have h1 : PF r top st = parseS visS (tokS numS) (r.length + q.length + 1) r top st := (ps_pf (by omega) top st).symm
 have h2 : PF q top st = parseS visS (tokS numS) (r.length + q.length + 1) q top st := (ps_pf (by omega) top st).symm
 rw [h1, h2]; exact parse_skip visS (tokS numS) h top st
theorem pf_blank {c : UInt8} (h : blankB c = true) (r : List UInt8) (top : List Fm) (st : List (List Fm)) : PF (c :: r) top st = PF r top st :=
 pf_skip (by simp [skipS, h]) top st
theorem pf_open (r : List UInt8) (top : List Fm) (st : List (List Fm)) : PF (40 :: r) top st = PF r [] (top :: st) := by
 unfold PF
 rw [parseS_succ]
 have hs : skipS false (40 :: r) = 40 :: r := by simp [skipS, blankB]
 rw [hs]
 exact ps_pf (by simp) _ _
theorem pf_close (r : List UInt8) (top t : List Fm) (st : List (List Fm)) : PF (41 :: r) top (t :: st) = PF r (t ++ [lstF top]) st := by
 unfold PF
 rw [parseS_succ]
 have hs : skipS false (41 :: r) = 41 :: r := by simp [skipS, blankB]
 rw [hs]
 exact ps_pf (by simp) _ _
theorem pf_end (top : List Fm) : PF [] top [] = .inr top := rfl
theorem touch_not {q : List UInt8} (h : touchS visS q = false) : ∀ c r, q = c :: r → visS c = false := by
 rintro c r rfl
 simp only [touchS, Bool.or_eq_false_iff] at h
 exact h.2
theorem take_vis {w q : List UInt8} (hw : ∀ c ∈ w, visS c = true) (hq : touchS visS q = false) : (w ++ q).takeWhile visS = w ∧ (w ++ q).dropWhile visS = q := by
 induction w with
 | nil =>
  cases q with
  | nil => exact ⟨rfl, rfl⟩
  | cons c r =>
   have := touch_not hq c r rfl
   rw [List.nil_append, List.takeWhile_cons_of_neg (by simp [this]), List.dropWhile_cons_of_neg (by simp [this])]
   exact ⟨rfl, rfl⟩
 | cons c w ih =>
  have h1 := hw c (by simp)
  obtain ⟨a, b⟩ := ih (fun x hx => hw x (by simp [hx]))
  rw [List.cons_append, List.takeWhile_cons_of_pos h1, List.dropWhile_cons_of_pos h1, a, b]
  exact ⟨rfl, rfl⟩
theorem pf_tok {w q : List UInt8} {f : Fm} (hne : w ≠ []) (hw : ∀ c ∈ w, visS c = true) (hq : touchS visS q = false) (hf : tokS numS w = .inr f) (top : List Fm) (st : List (List Fm)) : PF (w ++ q) top st = PF q (top ++ [f]) st := by
 cases w with
 | nil => exact absurd rfl hne
 | cons c w' =>
  have hc := hw c (by simp)
  obtain ⟨h1, h2, h3, h4, h5⟩ := vis_not c hc
  obtain ⟨a, b⟩ := take_vis hw hq
  unfold PF
  rw [parseS_succ]
  have hs : skipS false (c :: w' ++ q) = c :: (w' ++ q) := by simp [skipS, h1, h2]
  rw [hs]
  rw [List.cons_append] at a b
  simp only [if_neg h3, if_neg h4, if_neg h5, if_pos hc, a, b, hf, hq]
  rw [if_neg (by decide)]
  exact ps_pf (by simp only [List.length_cons, List.length_append]; omega) _ _
theorem pf_text {t q : List UInt8} (ht : ∀ c ∈ t, badB c = false) (hl : t.length ≤ 2000) (hq : touchS visS q = false) (top : List Fm) (st : List (List Fm)) : PF (34 :: (escS t ++ [34]) ++ q) top st = PF q (top ++ [txtF t]) st := by
 unfold PF
 rw [parseS_succ]
 have hs : skipS false (34 :: (escS t ++ [34]) ++ q) = 34 :: (escS t ++ (34 :: q)) := by simp [skipS, blankB]
 rw [hs]
 have hb := text_back t [] q ht (by simpa using hl)
 rw [List.nil_append] at hb
 simp only [hb, hq, show ¬ ((34 : UInt8) = 40) from by decide, show ¬ ((34 : UInt8) = 41) from by decide, if_false, if_true, if_neg (show ¬ (false = true) by decide)]
 exact ps_pf (by simp only [List.length_cons, List.length_append]; omega) _ _
theorem bad_all {t : List UInt8} (h : badT t = false) : ∀ c ∈ t, badB c = false := by
 rw [badT_any, List.any_eq_false] at h
 intro c hc
 have := h c hc
 simpa using this
theorem touch_blank (q : List UInt8) : touchS visS (32 :: q) = false := by simp [touchS, visS]; decide
theorem touch_close (q : List UInt8) : touchS visS (41 :: q) = false := by simp [touchS, visS]; decide
theorem wr_back : ∀ f : Fm, fieldsF f = true → ∀ q top st, touchS visS q = false → PF (wr f ++ q) top st = PF q (top ++ [f]) st := Fm.ind fun k n t l ih hf q top st hq => by
 rw [fieldsF_eq] at hf
 simp only [Bool.and_eq_true] at hf
 obtain ⟨h1, h2⟩ := hf
 simp only [Fm.k, Fm.n, Fm.t, Fm.l] at h1 h2
 rw [wr]
 unfold leafS at h1
 by_cases c0 : k = 0
 ·rw [if_pos c0] at h1 ⊢
  simp only [Bool.and_eq_true, decide_eq_true_eq] at h1
  obtain ⟨a1, a2, a3, a4⟩ := h1
  subst c0; subst a1; subst a2
  exact pf_tok (itoa_ne n) (itoa_vis n) hq (by unfold tokS; rw [if_pos (numeric_itoa n), num_itoa a3 a4, if_pos rfl]; rfl) top st
 ·rw [if_neg c0] at h1 ⊢
  by_cases c1 : k = 1
  ·rw [if_pos c1] at h1 ⊢
   simp only [wordS, Bool.and_eq_true, decide_eq_true_eq] at h1
   obtain ⟨⟨⟨a1, a2, a3⟩, a4⟩, a5, a6⟩ := h1
   subst c1; subst a5; subst a6
   have a3' : numericS t = false := by simpa using a3
   exact pf_tok a1 (fun c hc => List.all_eq_true.1 a4 c hc) hq (by unfold tokS; rw [a3', if_neg (by decide), if_neg (by omega)]; rfl) top st
  ·rw [if_neg c1] at h1 ⊢
   by_cases c2 : k = 2
   ·rw [if_pos c2] at h1 ⊢
    simp only [Bool.and_eq_true, decide_eq_true_eq] at h1
    obtain ⟨a1, a2, a3, a4⟩ := h1
    subst c2; subst a3; subst a4
    exact pf_text (bad_all (by simpa using a2)) a1 hq top st
   ·rw [if_neg c2] at h1 ⊢
    by_cases c3 : k = 3
    ·rw [if_pos c3] at h1
     simp only [Bool.and_eq_true, decide_eq_true_eq] at h1
     obtain ⟨a1, a2⟩ := h1
     subst c3; subst a1; subst a2
     have key : ∀ (l : List Fm) (b : Bool) (tp : List Fm), (∀ f ∈ l, fieldsF f = true → ∀ q top st, touchS visS q = false → PF (wr f ++ q) top st = PF q (top ++ [f]) st) → fieldsL l = true →
       PF (wrL b l ++ (41 :: q)) tp (top :: st) = PF q (top ++ [lstF (tp ++ l)]) st := by
      intro l
      induction l with
      | nil => intro b tp _ _; rw [wrL, List.nil_append, pf_close, List.append_nil]
      | cons f r ihr =>
       intro b tp hi hl
       simp only [fieldsL, Bool.and_eq_true] at hl
       have hr := ihr false (tp ++ [f]) (fun g hg => hi g (List.mem_cons_of_mem _ hg)) hl.2
       have ht : touchS visS (wrL false r ++ (41 :: q)) = false := by
        cases r with
        | nil => exact touch_close q
        | cons g r' => exact touch_blank _
       have e : tp ++ [f] ++ r = tp ++ (f :: r) := by simp
       have main : PF (wr f ++ (wrL false r ++ (41 :: q))) tp (top :: st) = PF q (top ++ [lstF (tp ++ f :: r)]) st := by
        rw [hi f (by simp) hl.1 _ _ _ ht, hr, e]
       cases b with
       | true =>
        have e3 : wrL true (f :: r) ++ (41 :: q) = wr f ++ (wrL false r ++ (41 :: q)) := by simp [wrL]
        rw [e3]; exact main
       | false =>
        have e3 : wrL false (f :: r) ++ (41 :: q) = 32 :: (wr f ++ (wrL false r ++ (41 :: q))) := by simp [wrL]
        rw [e3, pf_blank (by decide)]; exact main
     have := key l true [] ih h2
     have e4 : 40 :: (wrL true l ++ [41]) ++ q = 40 :: (wrL true l ++ (41 :: q)) := by simp
     rw [e4, pf_open, this]
     rfl
    ·rw [if_neg c3] at h1; cases h1
end Go.Ab

set_option maxRecDepth 100000
namespace Go.Ab
open Go Go.RowKit Go.Proofs
noncomputable def G_lawBack (x0 : List Fm) : Option (Bool) := (
 Option.bind (α := (Unit × Int × Unit) × ((List Fm) × Unit))
 (loopM (L := ((List Fm) × Unit × Int × Int × Unit) × ((List Fm) × Unit)) (R := (Unit × Int × Unit) × ((List Fm) × Unit)) (fun d1 => (
 let l2 := d1.2.1
 let v0_3 := d1.1.1
 let v4_4 := d1.1.2.2.1
 let v5_5 := d1.1.2.2.2.1
 cond (decide (v5_5 < (v0_3.length : Int))) (Option.bind (α := ((List Fm) × Unit × Int × Int × Unit) × ((List Fm) × Unit))
 (cond (ixOK v5_5 v0_3.length) (Option.bind (α := Bool) (G_rvalid (Fm.eta (v0_3.getD v5_5.toNat (Fm.mk 0 0 [] [])))) fun r6 => (
 cond r6 (cond (ixOK v5_5 v0_3.length) (cond (decide ((l2.length + ([(Fm.eta (v0_3.getD v5_5.toNat (Fm.mk 0 0 [] [])))]).length) * 56 ≤ 140737488355328)) (cond (ixOK v5_5 v0_3.length) (Option.bind (α := Int) (L_size (Fm.eta (v0_3.getD v5_5.toNat (Fm.mk 0 0 [] [])))) fun r7 => (
 some ((v0_3, (), IntKind.wrap .i64 (v4_4 + r7), v5_5, ()), (l2 ++ ([(Fm.eta (v0_3.getD v5_5.toNat (Fm.mk 0 0 [] [])))]), ())))) none) none) none) (some ((v0_3, (), v4_4, v5_5, ()), (l2, ()))))) none) fun d8 => (
 let l9 := d8.2.1
 let v0_10 := d8.1.1
 let v4_11 := d8.1.2.2.1
 let v5_12 := d8.1.2.2.2.1
 some (Step.next ((v0_10, (), v4_11, IntKind.wrap .i64 (v5_12 + 1), ()), (l9, ()))))) (some (Step.done (((), v4_4, ()), (l2, ())))))) ((x0, (), 0, 0, ()), (([] : List Fm), ()))) fun d13 => (
 let l14 := d13.2.1
 let v4_15 := d13.1.2.1
 Option.bind (α := List UInt8) (G_rWriteAll l14) fun r16 => (
 cond (cond (decide (v4_15 > 4000)) true (decide ((r16.length : Int) > 30000))) (Option.bind (α := Bool) (G_sane01) fun r17 => (
 some r17)) (Option.bind (α := (List Fm) × Int × Unit) (G_readA r16) fun r18 => (
 Option.bind (α := Bool) (cond (!(!decide (r18.2.1 = 0))) (G_allA r18.1 l14) (some false)) fun r19 => (
 cond (cond (!decide (r18.2.1 = 0)) true (!r19)) (some false) (Option.bind (α := ((List Fm) × (List UInt8) × Unit) × (Unit))
 (loopM (L := ((List Fm) × (List UInt8) × Int × Unit) × (Unit)) (R := ((List Fm) × (List UInt8) × Unit) × (Unit)) (fun d20 => (
 let v3_21 := d20.1.1
 let v9_22 := d20.1.2.1
 let v10_23 := d20.1.2.2.1
 cond (decide (v10_23 < (v3_21.length : Int))) (cond (decide (v9_22.length + ([9]).length ≤ 9223372036854775807)) (cond (ixOK v10_23 v3_21.length) (Option.bind (α := List UInt8) (G_rWrite (Fm.eta (v3_21.getD v10_23.toNat (Fm.mk 0 0 [] [])))) fun r24 => (
 cond (decide ((v9_22 ++ ([9])).length + r24.length ≤ 9223372036854775807)) (cond (decide (((v9_22 ++ ([9])) ++ r24).length + ([32, 59, 34, 10, 10]).length ≤ 9223372036854775807)) (some (Step.next ((v3_21, ((v9_22 ++ ([9])) ++ r24) ++ ([32, 59, 34, 10, 10]), IntKind.wrap .i64 (v10_23 + 1), ()), ()))) none) none)) none) none) (some (Step.done ((v3_21, v9_22, ()), ()))))) ((l14, [32, 59, 32, 40, 10], 0, ()), ())) fun d25 => (
 let v3_26 := d25.1.1
 let v9_27 := d25.1.2.1
 Option.bind (α := (List Fm) × Int × Unit) (G_readA v9_27) fun r28 => (
 Option.bind (α := Bool) (cond (decide (r28.2.1 = 0)) (G_allA r28.1 v3_26) (some false)) fun r29 => (
 Option.bind (α := Bool) (cond (cond (decide (r28.2.1 = 0)) r29 false) (G_sane01) (some false)) fun r30 => (
 some (cond (cond (decide (r28.2.1 = 0)) r29 false) r30 false))))))))))))
def A_lawBack : An := .seq (.leaf) (.seq (.leaf) (.seq (.leaf) (.join false { env := [(3, (.gs 0 .form)), (4, (.d (.int .i64)))], objs := [(false, .tg .form 26)] } (.seq (.leaf) (.block (.loop { env := [(0, (.d (.slice .form))), (3, (.gs 0 .form)), (4, (.d (.int .i64))), (5, (.d (.int .i64)))], objs := [(false, .tg .form 26)] } (.seq (.leaf) (.join false { env := [(0, (.d (.slice .form))), (3, (.gs 0 .form)), (4, (.d (.int .i64))), (5, (.d (.int .i64)))], objs := [(false, .tg .form 26)] } (.leaf) (.leaf)))))) (.frz [0] (.seq (.leaf) (.seq (.leaf) (.seq (.leaf) (.seq (.leaf) (.join false { env := [(3, (.d (.slice .form))), (9, (.d .str))], objs := [] } (.seq (.leaf) (.block (.loop { env := [(3, (.d (.slice .form))), (9, (.d .str)), (10, (.d (.int .i64)))], objs := [] } (.leaf)))) (.leaf))))))))))
def H_lawBack : Nat → RH := fun r => match r with
 | 7 => { H := { ty := [(28, .form)] } }
 | _ => {}
noncomputable def S_lawBack : Sig := .n [(.d (.slice .form))] (.d .bool) (fun x => G_lawBack x.1)
theorem S_lawBack_ok : SigOK CX 7 S_lawBack := sigN_of (l := [(34, S_rvalid), (36, S_size_l), (43, S_rWriteAll), (26, S_sane01), (20, S_readA), (24, S_allA), (32, S_rWrite)]) ⟨S_rvalid_ok, S_size_l_ok, S_rWriteAll_ok, S_sane01_ok, S_readA_ok, S_allA_ok, S_rWrite_ok, trivial⟩ (hint := H_lawBack) (an := A_lawBack) (fun x => by kernel_rfl)
end Go.Ab

set_option maxRecDepth 100000
namespace Go.Ab
open Go Go.RowKit Go.Proofs
def wrA : List Fm → List UInt8
 | [] => []
 | f :: l => wrV f ++ (10 :: wrA l)
theorem wrA_app : ∀ a b : List Fm, wrA (a ++ b) = wrA a ++ wrA b
 | [], b => rfl
 | f :: a, b => by simp [wrA, wrA_app a b]
theorem wrA_take {l : List Fm} {i : Nat} (h : i < l.length) : wrA (l.take (i + 1)) = wrA (l.take i) ++ (wrV l[i] ++ [10]) := by
 rw [List.take_add_one, List.getElem?_eq_getElem h, wrA_app]
 rfl
theorem wrA_len : ∀ l : List Fm, (wrA l).length ≤ l.length * 82020001
 | [] => by simp [wrA]
 | f :: l => by
  have := wrA_len l
  have := wrV_len f
  simp only [wrA, List.length_append, List.length_cons, Nat.add_mul]
  omega
theorem rWriteAll_val {l : List Fm} (hl : l.length ≤ 1100000) (hb : ∀ f ∈ l, f.big ≤ 4611686018427387000) : G_rWriteAll l = some (wrA l) := by
 refine Up.get ?_
 unfold G_rWriteAll
 refine loop_ix (N := False) (A := List UInt8) (fun i => (((), l, (l.length : Int), (i : Int), ()), ((decide (0 < i), (), ()), intsOf (wrA (l.take i)), ()))) (fun i => wrA l) l.length (fun i hi => ?_) ?_
 ·have e1 : decide ((i : Int) < (l.length : Int)) = true := by simp [hi]
  have e2 : ixOK (i : Int) l.length = true := ixOK_iff.2 (by omega)
  have hw := wrV_len l[i]
  have ht := wrA_len (l.take i)
  rw [List.length_take, Nat.min_eq_left (by omega)] at ht
  have h1 : i * 82020001 ≤ 1100000 * 82020001 := Nat.mul_le_mul_right _ (by omega)
  refine .inl ⟨?_, rfl⟩
  simp only [e1, e2, cond_true, Int.toNat_natCast, getD_in hi, Fm.eta_eq, rWrite_val (hb _ (List.getElem_mem hi)), Option.bind_some, List.length_cons, List.length_nil]
  rw [decide_eq_true (by omega), cond_true, bldStr_val (by rw [ints_len, List.length_append, List.length_cons, List.length_nil]; omega)]
  simp only [Option.bind_some]
  rw [wrapN (show i < 4611686018427387904 by omega), ints_append, wrA_take hi, decide_eq_true (show 0 < i + 1 by omega)]
 ·refine ⟨_, by simp only [show decide ((l.length : Int) < (l.length : Int)) = false by simp, cond_false]; rfl, .of ?_⟩
  simp only [bytes_ints, Option.map_some, Option.bind_some, List.take_length]
theorem wrV_of {f : Fm} (h : validF f = true) : wrV f = wr f := if_pos h
theorem pf_line : ∀ (l : List Fm) (top : List Fm), (∀ f ∈ l, validF f = true) → PF (wrA l) top [] = .inr (top ++ l)
 | [], top, _ => by rw [List.append_nil]; exact pf_end top
 | f :: l, top, h => by
  have hf := h f (by simp)
  rw [wrA, wrV_of hf, wr_back f (validF_of hf).1 _ _ _ (by simp [touchS, visS]; decide), pf_blank (by decide), pf_line l _ fun g hg => h g (by simp [hg])]
  simp
def wrC : List Fm → List UInt8
 | [] => []
 | f :: l => 9 :: (wrV f ++ (32 :: 59 :: 34 :: 10 :: 10 :: wrC l))
theorem wrC_app : ∀ a b : List Fm, wrC (a ++ b) = wrC a ++ wrC b
 | [], b => rfl
 | f :: a, b => by simp [wrC, wrC_app a b]
theorem wrC_take {l : List Fm} {i : Nat} (h : i < l.length) : wrC (l.take (i + 1)) = wrC (l.take i) ++ ([9] ++ (wrV l[i] ++ [32, 59, 34, 10, 10])) := by
 rw [List.take_add_one, List.getElem?_eq_getElem h, wrC_app]
 rfl
theorem wrC_len : ∀ l : List Fm, (wrC l).length = (wrA l).length + 5 * l.length
 | [] => rfl
 | f :: l => by
  have := wrC_len l
  simp only [wrC, wrA, List.length_append, List.length_cons]
  omega
theorem pf_lineC : ∀ (l : List Fm) (top : List Fm), (∀ f ∈ l, validF f = true) → PF (wrC l) top [] = .inr (top ++ l)
 | [], top, _ => by rw [List.append_nil]; exact pf_end top
 | f :: l, top, h => by
  have hf := h f (by simp)
  rw [wrC, pf_blank (by decide), wrV_of hf, wr_back f (validF_of hf).1 _ _ _ (touch_blank _)]
  have e : PF (32 :: 59 :: 34 :: 10 :: 10 :: wrC l) (top ++ [f]) [] = PF (wrC l) (top ++ [f]) [] := pf_skip (by simp [skipS, blankB]) _ _
  rw [e, pf_lineC l _ fun g hg => h g (by simp [hg])]
  simp
theorem pf_read {s : List UInt8} {l : List Fm} (h : PF s [] [] = .inr l) (hs : s.length ≤ 60000) (hv : ∀ f ∈ l, validF f = true) : readS s = (l, 0, ()) := by
 unfold readS
 unfold PF at h
 rw [if_neg (by omega), h]
 simp only
 rw [if_pos (List.all_eq_true.2 hv)]
theorem filter_take {l : List Fm} {i : Nat} (h : i < l.length) : (l.take (i + 1)).filter validF = (l.take i).filter validF ++ (if validF l[i] = true then [l[i]] else []) := by
 rw [List.take_add_one, List.getElem?_eq_getElem h, List.filter_append]
 congr 1
 by_cases hv : validF l[i] = true
 ·simp [hv]
 ·simp [hv]
def sizeS : List Fm → Nat
 | [] => 0
 | f :: l => f.size + sizeS l
theorem sizeS_app : ∀ a b : List Fm, sizeS (a ++ b) = sizeS a + sizeS b
 | [], b => by simp [sizeS]
 | f :: a, b => by simp [sizeS, sizeS_app a b]; omega
theorem sizeS_len : ∀ l : List Fm, l.length ≤ sizeS l
 | [] => Nat.le_refl _
 | f :: l => by
  have := sizeS_len l
  have h : 1 ≤ f.size := by rw [Fm.size_eq]; omega
  simp only [List.length_cons, sizeS]; omega
theorem sizeS_valid : ∀ l : List Fm, (∀ f ∈ l, validF f = true) → sizeS l ≤ 20000 * l.length
 | [], _ => by simp [sizeS]
 | f :: l, h => by
  have := sizeS_valid l fun g hg => h g (by simp [hg])
  have h2 := (validF_of (h f (by simp))).2
  simp only [sizeS, List.length_cons]; omega
theorem bigL_sub {l l' : List Fm} (h : l'.Sublist l) : Fm.bigL l' ≤ Fm.bigL l := by
 induction h with
 | slnil => exact Nat.le_refl _
 | cons a _ ih => simp only [Fm.bigL]; omega
 | cons_cons a _ ih => simp only [Fm.bigL]; omega
theorem allB_val {l : List Fm} (hb : Fm.bigL l ≤ 2000000) : G_allA l l = some true := by
 unfold G_allA G_refEqAll G_refList
 simp only [Option.bind_some, Fm.eta_eq]
 have : G_refEqual (Fm.mk 3 0 [] l) (Fm.mk 3 0 [] l) = some true := by
  unfold G_refEqual
  simp only [Fm.eta_eq, refCompare_val (show (Fm.mk 3 0 [] l).big ≤ 4611686018427387000 by simp only [Fm.big, List.length_nil]; omega), Option.bind_some, cmpF_self]
  rfl
 rw [this]
 simp
theorem lawBack_val {l : List Fm} (hb : Fm.bigL l ≤ 1100000) : G_lawBack l = some true := by
 have hln : l.length ≤ 1100000 := Nat.le_trans (big_len l) hb
 have hbm : ∀ f ∈ l, f.big ≤ 4611686018427387000 := fun f hf => by have := big_mem hf; omega
 refine Up.get ?_
 unfold G_lawBack
 refine loop_ix (N := False) (A := Bool) (fun i => ((l, (), (sizeS ((l.take i).filter validF) : Int), (i : Int), ()), ((l.take i).filter validF, ()))) (fun _ => true) l.length (fun i hi => ?_) ?_
 ·have e1 : decide ((i : Int) < (l.length : Int)) = true := by simp [hi]
  have e2 : ixOK (i : Int) l.length = true := ixOK_iff.2 (by omega)
  have hm := hbm _ (List.getElem_mem hi)
  have hv1 : ∀ f ∈ (l.take i).filter validF, validF f = true := fun f hf => (List.mem_filter.1 hf).2
  have hs1 := sizeS_valid _ hv1
  have hs2 : ((l.take i).filter validF).length ≤ i := Nat.le_trans (List.length_filter_le _ _) (by rw [List.length_take]; omega)
  refine .inl ⟨?_, rfl⟩
  simp only [e1, e2, cond_true, Int.toNat_natCast, getD_in hi, Fm.eta_eq, rvalid_val hm, size_val hm, Option.bind_some, List.length_cons, List.length_nil]
  rw [filter_take hi]
  by_cases hv : validF l[i] = true
  ·have hz := (validF_of hv).2
   rw [hv, cond_true, decide_eq_true (by omega), cond_true, if_pos rfl, sizeS_app]
   simp only [Option.bind_some, sizeS]
   rw [wrapN (show i < 4611686018427387904 by omega), show IntKind.wrap .i64 ((sizeS ((l.take i).filter validF) : Int) + (l[i].size : Int)) = ((sizeS ((l.take i).filter validF) + (l[i].size + 0) : Nat) : Int) by rw [w64 (by omega) (by omega)]; omega]
  ·rw [eq_false_of_ne_true hv, cond_false, if_neg (by simp), List.append_nil]
   simp only [Option.bind_some]
   rw [wrapN (show i < 4611686018427387904 by omega)]
 ·refine ⟨_, by simp only [show decide ((l.length : Int) < (l.length : Int)) = false by simp, cond_false]; rfl, ?_⟩
  simp only [List.take_length]
  have hv : ∀ f ∈ l.filter validF, validF f = true := fun f hf => (List.mem_filter.1 hf).2
  have hbl : Fm.bigL (l.filter validF) ≤ 1100000 := Nat.le_trans (bigL_sub (List.filter_sublist)) hb
  generalize l.filter validF = v at hv hbl
  have hvl : v.length ≤ 1100000 := Nat.le_trans (big_len v) hbl
  have hvb : ∀ f ∈ v, f.big ≤ 4611686018427387000 := fun f hf => by have := big_mem hf; omega
  rw [rWriteAll_val hvl hvb]
  simp only [Option.bind_some]
  by_cases hc : ((sizeS v : Int) > 4000 ∨ ((wrA v).length : Int) > 30000)
  ·have e3 : (cond (decide ((sizeS v : Int) > 4000)) true (decide (((wrA v).length : Int) > 30000))) = true := by
    rcases hc with h | h
    ·rw [decide_eq_true h]; rfl
    ·rw [decide_eq_true h]; cases decide ((sizeS v : Int) > 4000) <;> rfl
   rw [e3, cond_true, sane01_val]
   exact .of rfl
  ·simp only [not_or] at hc
   have e3 : (cond (decide ((sizeS v : Int) > 4000)) true (decide (((wrA v).length : Int) > 30000))) = false := by
    rw [decide_eq_false hc.1, decide_eq_false hc.2]; rfl
   have hsl := sizeS_len v
   rw [e3, cond_false, readA_val, pf_read (by have := pf_line v [] hv; simpa using this) (by omega) hv]
   simp only [Option.bind_some, show decide ((0 : Int) = 0) = true from rfl, Bool.not_true, Bool.not_false, cond_true, cond_false, allB_val (show Fm.bigL v ≤ 2000000 by omega)]
   refine loop_ix (N := False) (A := Bool) (fun i => ((v, [32, 59, 32, 40, 10] ++ wrC (v.take i), (i : Int), ()), ())) (fun _ => true) v.length (fun i hi => ?_) ?_
   ·have e1 : decide ((i : Int) < (v.length : Int)) = true := by simp [hi]
    have e2 : ixOK (i : Int) v.length = true := ixOK_iff.2 (by omega)
    have hm := hvb _ (List.getElem_mem hi)
    have hw := wrV_len v[i]
    have ht := wrC_len (v.take i)
    have ht2 := wrA_len (v.take i)
    rw [List.length_take, Nat.min_eq_left (by omega)] at ht ht2
    have h1 : i * 82020001 ≤ 1100000 * 82020001 := Nat.mul_le_mul_right _ (by omega)
    refine .inl ⟨?_, rfl⟩
    simp only [e1, e2, cond_true, Int.toNat_natCast, getD_in hi, Fm.eta_eq, rWrite_val hm, Option.bind_some, List.length_cons, List.length_nil, List.length_append]
    rw [decide_eq_true (by omega), cond_true, decide_eq_true (by omega), cond_true, decide_eq_true (by omega), cond_true, wrC_take hi, wrapN (show i < 4611686018427387904 by omega)]
    simp only [List.append_assoc]
   ·refine ⟨_, by simp only [show decide ((v.length : Int) < (v.length : Int)) = false by simp, cond_false]; rfl, .of ?_⟩
    simp only [List.take_length]
    have hlc := wrC_len v
    have hp : PF ([32, 59, 32, 40, 10] ++ wrC v) [] [] = .inr v := by
     have e : PF ([32, 59, 32, 40, 10] ++ wrC v) [] [] = PF (wrC v) [] [] := pf_skip (by simp [skipS, blankB]) _ _
     rw [e]
     have := pf_lineC v [] hv
     simpa using this
    rw [readA_val, pf_read hp (by simp only [List.length_append, List.length_cons, List.length_nil]; omega) hv]
    simp only [Option.bind_some, decide_true, cond_true, allB_val (show Fm.bigL v ≤ 2000000 by omega), sane01_val]
theorem back_call {l : List Fm} (hb : Fm.bigL l ≤ 1100000) : PCall CX 7 [.tvec .form l] (· = .ret (.bool true)) :=
 S_lawBack_ok (l, ()) true (lawBack_val hb)
end Go.Ab

set_option maxRecDepth 100000
namespace Go.Proofs.YtdagildojaagiaaGreatDoor.readerBack
open Go Go.ChangeShapes Go.WideShapes Go.ChangeAt Go.RowKit Go.Ab
theorem own : ownKnob Tryz.prog.godebug = none := by kernel_rfl
def flat {H : Type} : Nat → DataW H → List Value
 | 0, _ => []
 | n + 1, d => match d with
  | .lit (.int k x) => [.int k x]
  | .agg l => l.flatMap (flat n)
  | _ => []
noncomputable def lay (W : World) (name : String) (d : DataW Unit) : World :=
 match Tryz.prog.globalNamed name with
 | some g => match d with
  | .iface _ (.ptr (.agg [.lit (.string bs)])) => { W with heap := (W.heap.push (.cells #[.string ⟨bs.toArray⟩] 298 (0, 0))).modify g fun
   | .cells _ t fz => .cells #[.iface 296 (.pointer (some ⟨W.heap.size, 0, none⟩))] t fz
   | o => o }
  | d => { W with heap := W.heap.modify g fun
   | .cells _ t fz => .cells (flat 4 d).toArray t fz
   | o => o }
 | none => W
noncomputable def laidWorld (os : Os) : World :=
 lay (lay (lay (lay (lay (lay (lay (World.holding Tryz.prog os ⟨#[], #[], []⟩) "math/bits.deBruijn32tab" Rows.laid_math_bits_deBruijn32tab) "math/bits.deBruijn64tab" Rows.laid_math_bits_deBruijn64tab) "internal/strconv.uint64pow10" Rows.laid_internal_strconv_uint64pow10) "unicode/utf8.acceptRanges" Rows.laid_unicode_utf8_acceptRanges) "strconv.ErrRange" Rows.laid_strconv_ErrRange) "strconv.ErrSyntax" Rows.laid_strconv_ErrSyntax) "unicode/utf8.first" Rows.laid_unicode_utf8_first
theorem laid_met (os : Os) : laidMet Tryz.prog Rows.readerBackUptoRow.laid ((laidWorld os).forCall (fun _ _ => 0) ⟨#[], #[(.slice none 0 0)], []⟩).memory :=
 laidMet_of_run' 8 (by kernel_rfl) (by kernel_rfl)
theorem reads (os : Os) {H : Type} (enc : TypeId × Value → H) : ∃ places, DataW.whole enc Tryz.prog ((laidWorld os).forCall (fun _ _ => 0) ⟨#[], #[(.slice none 0 0)], []⟩).memory Tryz.f7.params.toList Rows.readerBackSpec.vars false (#[(.slice none 0 0)] : Array Value).toList 8 = some ([.nil], [], places) :=
 ⟨[], by kernel_rfl⟩
theorem spec_fn (H : Type) (ds : List (DataW H)) (h : ds.length = Tryz.f7.params.toList.length) : Rows.readerBackSpec.fn H ds = { results := [.lit (.bool true)], args := ds } := by
 rw [Tryz.params7] at h
 rcases ds with _ | ⟨d0, _ | ⟨e, ds⟩⟩
 all_goals first | (simp at h; done) | rfl
theorem contract (H : Type) (enc : TypeId × Value → H) (W : World) (base : Nat) (args : Array Value) (ds gs : List (DataW H)) (before : List MemPlace)
  (hval : ∀ (j : Nat) t v, Tryz.f7.params[j]? = some t → args[j]? = some v → Value.okWide Tryz.prog W .any base t v)
  (hW : DataW.Whole enc Tryz.prog Tryz.f7.params.toList Rows.readerBackSpec.vars false W args.toList ds gs before) (hb : Rows.uptoSmall H (ds ++ gs) = true) (hE : ErrW W) :
  Calls Tryz.prog 7 args W fun e W' => ∃ v, e = .returned v ∧ Rows.readerBackSpec.post enc Tryz.prog Tryz.f7 false true false false W args v W' :=
 contract_of (es := [(.slice .form)]) (n := 12) (tb := 4) rfl spec_fn (by kernel_rfl) (by kernel_rfl) (by kernel_rfl) (by kernel_rfl) (by kernel_rfl) (by kernel_rfl) (fun x hb _ => back_call (l := x.1) (Nat.le_trans (bigL_A (l := x.1) hb) (by omega))) H enc W base args ds gs before hval hW hb hE
theorem lifted (os : Os) (started : os.Started) (H : Type) (enc : TypeId × Value → H) (F : Stop.Interp) :
  ReturnsInHanded {} Tryz.checked os 7 .any ((Rows.OpenSpec.upto Rows.readerBackSpec).preRow enc Tryz.prog Tryz.f7 Rows.readerBackUptoRow.domain false Rows.readerBackUptoRow.laid) (((Rows.OpenSpec.upto Rows.readerBackSpec).at F).post enc Tryz.prog Tryz.f7 false true false false) := by
 obtain ⟨places, hx⟩ := reads os enc
 refine returnsInHanded_of_row (C := Tryz.checked) (s := Rows.OpenSpec.upto Rows.readerBackSpec) own started (by kernel_rfl) Tryz.func7
  (witness_row_at (enc := enc) (C := Tryz.checked) false (laidWorld os) #[(.slice none 0 0)] rfl (by kernel_rfl) (by kernel_rfl) (by kernel_rfl)
   (OpenSpec.preRow_of_cond 8 hx (by kernel_rfl) (fun k hk => by cases hk; kernel_rfl) (by kernel_rfl) (laid_met os))) ?_
 intro W base args ds gs before hval hW g1 g2 g3 hL g4 g5
 exact contract H enc W base args ds gs before hval hW (g2 _ rfl) (errW_of hL (show ("strconv.ErrRange", Rows.laid_strconv_ErrRange) ∈ Rows.readerBackUptoRow.laid from by simp [Rows.readerBackUptoRow]) (fun q hq => by rcases List.mem_singleton.1 hq with rfl; exact (show ("internal/strconv.uint64pow10", Rows.laid_internal_strconv_uint64pow10) ∈ Rows.readerBackUptoRow.laid from by simp [Rows.readerBackUptoRow])))
theorem band {a b : Bool} (h : a = true) (h' : b = true) : (a && b) = true := by rw [h, h']; rfl
theorem fact1 : (Rows.readerBackUptoRow.inPlace == Tryz.pinned.checked.prog.inPlace 7) = true := by kernel_rfl
theorem fact2 : (Rows.readerBackUptoRow.unfollowed == Tryz.pinned.checked.prog.unfollowed 7) = true := by kernel_rfl
theorem fact3 : (Rows.readerBackUptoRow.recurses == Tryz.pinned.checked.prog.recurses 7) = true := by kernel_rfl
theorem fact4 : (Rows.readerBackUptoRow.named == Tryz.pinned.checked.prog.varsNamed 7) = true := by kernel_rfl
theorem fact5 : Tryz.pinned.checked.prog.mayEnter = true := by kernel_rfl
theorem fact6 : Tryz.pinned.checked.prog.stopsHeard = true := by kernel_rfl
theorem closed : joinedFacts Tryz.pinned.checked.prog 7 Tryz.f7 (Rows.OpenSpec.upto Rows.readerBackSpec).bare Rows.readerBackUptoRow = true := by
 unfold joinedFacts
 repeat' with_reducible refine band ?_ ?_
 all_goals first | with_reducible exact fact1 | with_reducible exact fact2 | with_reducible exact fact3 | with_reducible exact fact4 | with_reducible exact fact5 | with_reducible exact fact6 | kernel_rfl
theorem said : Rows.ReaderBackUptoSaid :=
 OpenClaim.holds_of_cond 7 Tryz.f7 rfl rfl rfl rfl rfl rfl rfl ⟨rfl, rfl, rfl, rfl, rfl⟩ rfl rfl rfl rfl rfl (by as_aux_lemma => kernel_rfl) Tryz.func7 closed
  (of_decide_eq_true (by kernel_rfl)) (by unfold Func.isWrapper; first | (rw [if_pos (by decide +kernel)]; kernel_rfl) | (rw [if_neg (by decide +kernel)]; exact ⟨rfl, rfl⟩))
  (fun os started H enc _ F => by rw [OpenClaim.pre_eq_preRow]; exact lifted os started H enc F)
theorem plain (f : FuncId) (fn : Func) (hf : Tryz.pinned.checked.prog.funcNamed "plinth/plinthlaw01.ReaderBack" = some f) (hfn : Tryz.pinned.checked.prog.funcs[f]? = some fn) :
  true = Tryz.pinned.checked.prog.looks [] ∧ ∀ (j : Nat) t, fn.params[j]? = some t → Tryz.pinned.checked.prog.wantsStandIn t = false := by
 obtain rfl : f = 7 := Option.some.inj ((show Tryz.prog.funcNamed "plinth/plinthlaw01.ReaderBack" = some 7 by kernel_rfl).symm.trans hf) |>.symm
 obtain rfl : fn = Tryz.f7 := (Option.some.inj (Tryz.func7.symm.trans hfn)).symm
 refine ⟨by kernel_rfl, fun j t ht => ?_⟩
 rw [Tryz.params7] at ht
 have hm := Array.mem_of_getElem? ht
 simp only [List.mem_toArray, List.mem_cons, List.mem_nil_iff, or_false] at hm
 have w0 : Tryz.prog.wantsStandIn 24 = false := by kernel_rfl
 rw [hm]; exact w0
theorem proved : Rows.ReaderBackUptoCardSaid :=
 Claim7.holds_tied_plain_at .later _ _ _ _ _ said (fun _ h => by cases h) (by kernel_rfl) (fun _ h => by cases h) readerBackUpto_row_tie rfl ⟨rfl, rfl⟩ (by kernel_rfl) rfl plain (by kernel_rfl)
#print axioms proved
end Go.Proofs.YtdagildojaagiaaGreatDoor.readerBack
