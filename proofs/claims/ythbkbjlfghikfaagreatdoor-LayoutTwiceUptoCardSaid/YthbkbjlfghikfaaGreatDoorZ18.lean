/-
  LAYOUT: the reference's lines; both Formats.
-/
import Derived.Test.YthbkbjlfghikfaaGreatDoorZ17
import Derived.Test.YthbkbjlfghikfaaGreatDoorZ16
set_option linter.unusedVariables false
set_option linter.unusedSimpArgs false
set_option maxRecDepth 100000
namespace Go.Ab
open Go Go.RowKit Go.Proofs
def zF : Fm := .mk 0 0 [] []
def wsL : List UInt8 := [32, 9]
def wsB (c : UInt8) : Bool := decide (c ∈ wsL)
def trimR (s : List UInt8) : List UInt8 := trimRi wsB s s.length
def comS (r : List UInt8) : List UInt8 := trimR (r.takeWhile n10)
def pieceS : List (Bool × List UInt8) → List Fm → List (List UInt8 × Fm)
 | [], _ => []
 | (false, r) :: E, fs => (comS r, zF) :: pieceS E fs
 | (true, _) :: E, f :: fs => ([], f) :: pieceS E fs
 | (true, _) :: _, [] => []
def itS : Nat → Bool → List UInt8 → List Fm → List (List UInt8 × Fm)
 | 0, _, _, _ => []
 | _ + 1, _, [], _ => []
 | n + 1, bare, c :: r, fs =>
  if c = 10 then itS n true r fs
  else if blankB c = true then itS n bare r fs
  else if c = 59 then (if bare = true then [(comS (c :: r), zF)] else []) ++ itS n bare (lineE (c :: r)) fs
  else match fs with
   | [] => []
   | f :: fs' => ([], f) :: itS n false (PA 0 (c :: r)) fs'
theorem past_le : ∀ (n d : Nat) (r : List UInt8), (pastS n d r).length ≤ r.length
 | 0, d, r => Nat.le_refl _
 | n + 1, d, [] => by simp [pastS]
 | n + 1, d, c :: r => by
  have hq := qEnd_le r
  have ht := drop_len tokc (c :: r)
  have hl := lineE_le (c :: r)
  simp only [List.length_cons] at ht hl ⊢
  simp only [pastS]
  have i1 := past_le n d (qEnd r)
  have i2 := past_le n d (lineE (c :: r))
  have i3 := past_le n (d + 1) r
  have i4 := past_le n (d - 1) r
  have i5 := past_le n d r
  have i6 := past_le n d ((c :: r).dropWhile tokc)
  repeat' split
  all_goals first | omega | (have := lineE_le (c :: r); simp only [List.length_cons] at this; omega)
theorem PA_le (d : Nat) (r : List UInt8) : (PA d r).length ≤ r.length := past_le _ _ _
theorem PA0_lt {c : UInt8} {r : List UInt8} (h : blankB c = false) (h2 : c ≠ 59) : (PA 0 (c :: r)).length ≤ r.length := by
 rw [PA_cons]
 have hq := qEnd_le r
 by_cases c1 : c = 34
 ·rw [if_pos c1, if_pos rfl]; exact hq
 ·rw [if_neg c1, if_neg h2]
  by_cases c3 : c = 40
  ·rw [if_pos c3]; exact PA_le _ _
  ·rw [if_neg c3]
   by_cases c4 : c = 41
   ·rw [if_pos c4, if_neg (by decide)]; exact PA_le _ _
   ·rw [if_neg c4, if_neg (by simp [h]), if_pos rfl]
    exact tok_drop_lt (tok_of h2 c1 c3 c4 (by simp [h])) r
theorem it_fuel : ∀ (n m : Nat) (bare : Bool) (r : List UInt8) (fs : List Fm), r.length < n → r.length < m → itS n bare r fs = itS m bare r fs
 | 0, m, bare, r, fs, h, _ => by omega
 | n + 1, 0, bare, r, fs, _, h => by omega
 | n + 1, m + 1, bare, [], fs, _, _ => rfl
 | n + 1, m + 1, bare, c :: r, fs, h1, h2 => by
  simp only [List.length_cons] at h1 h2
  simp only [itS]
  by_cases c1 : c = 10
  ·rw [if_pos c1, if_pos c1, it_fuel n m _ r fs (by omega) (by omega)]
  ·have hl := lineE_lt c1 r
   rw [if_neg c1, if_neg c1]
   by_cases c2 : blankB c = true
   ·rw [if_pos c2, if_pos c2, it_fuel n m _ r fs (by omega) (by omega)]
   ·rw [if_neg c2, if_neg c2]
    by_cases c3 : c = 59
    ·rw [if_pos c3, if_pos c3, it_fuel n m _ (lineE (c :: r)) fs (by omega) (by omega)]
    ·rw [if_neg c3, if_neg c3]
     cases fs with
     | nil => rfl
     | cons f fs' =>
      have := PA0_lt (c := c) (r := r) (by simpa using c2) c3
      simp only
      rw [it_fuel n m _ (PA 0 (c :: r)) fs' (by omega) (by omega)]
def IT (bare : Bool) (r : List UInt8) (fs : List Fm) : List (List UInt8 × Fm) := itS (r.length + 1) bare r fs
theorem IT_nil (bare : Bool) (fs : List Fm) : IT bare [] fs = [] := rfl
theorem IT_cons (bare : Bool) (c : UInt8) (r : List UInt8) (fs : List Fm) : IT bare (c :: r) fs =
  (if c = 10 then IT true r fs
  else if blankB c = true then IT bare r fs
  else if c = 59 then (if bare = true then [(comS (c :: r), zF)] else []) ++ IT bare (lineE (c :: r)) fs
  else match fs with
   | [] => []
   | f :: fs' => ([], f) :: IT false (PA 0 (c :: r)) fs') := by
 unfold IT
 simp only [itS, List.length_cons]
 by_cases c1 : c = 10
 ·rw [if_pos c1, if_pos c1]
 ·have hl := lineE_lt c1 r
  rw [if_neg c1, if_neg c1]
  by_cases c2 : blankB c = true
  ·rw [if_pos c2, if_pos c2]
  ·rw [if_neg c2, if_neg c2]
   by_cases c3 : c = 59
   ·rw [if_pos c3, if_pos c3, it_fuel (r.length + 1) ((lineE (c :: r)).length + 1) _ (lineE (c :: r)) fs (by omega) (by omega)]
   ·rw [if_neg c3, if_neg c3]
    cases fs with
    | nil => rfl
    | cons f fs' =>
     have := PA0_lt (c := c) (r := r) (by simpa using c2) c3
     simp only
     rw [it_fuel (r.length + 1) ((PA 0 (c :: r)).length + 1) _ (PA 0 (c :: r)) fs' (by omega) (by omega)]
def formsE (E : List (Bool × List UInt8)) : Nat := (E.filter fun e => e.1).length
theorem lineE_cases (r : List UInt8) : lineE r = [] ∨ ∃ q, lineE r = 10 :: q := by
 induction r with
 | nil => exact .inl rfl
 | cons c r ih =>
  by_cases h : c = 10
  ·subst h; right; exact ⟨r, by unfold lineE; rw [List.dropWhile_cons_of_neg (by decide)]⟩
  ·have e : lineE (c :: r) = lineE r := by unfold lineE; rw [List.dropWhile_cons_of_pos (by simp [n10, h])]
   rw [e]; exact ih
theorem items_same : ∀ (N : Nat) (r : List UInt8), r.length ≤ N → ∀ (top l : List Fm) (bare : Bool), PF r top [] = .inr l →
  ∃ fs, l = top ++ fs ∧ pieceS (EV 0 false bare r) fs = IT bare r fs ∧ formsE (EV 0 false bare r) = fs.length
 | N, [], _, top, l, bare, h => by
  rw [pf_end] at h
  cases h
  exact ⟨[], by simp, rfl, rfl⟩
 | 0, c :: r, hN, _, _, _, _ => by simp at hN
 | N + 1, c :: r, hN, top, l, bare, h => by
  simp only [List.length_cons] at hN
  have ih := items_same N
  by_cases c5 : blankB c = true
  ·have hne : c ≠ 59 ∧ c ≠ 34 ∧ c ≠ 40 ∧ c ≠ 41 := by
    refine ⟨?_, ?_, ?_, ?_⟩ <;> (intro e; subst e; revert c5; decide)
   rw [pf_blank c5] at h
   rw [EV_cons, if_neg hne.1, if_neg hne.2.1, if_neg hne.2.2.1, if_neg hne.2.2.2, if_pos c5]
   by_cases c10 : c = 10
   ·have hI : ∀ fs, IT bare (c :: r) fs = IT true r fs := fun fs => by rw [IT_cons, if_pos c10]
    simp only [hI]
    rw [if_pos c10]; exact ih r (by omega) top l true h
   ·have hI : ∀ fs, IT bare (c :: r) fs = IT bare r fs := fun fs => by rw [IT_cons, if_neg c10, if_pos c5]
    simp only [hI]
    rw [if_neg c10]; exact ih r (by omega) top l bare h
  ·have c10 : c ≠ 10 := by intro e; subst e; exact c5 (by decide)
   by_cases c1 : c = 59
   ·subst c1
    have hl := lineE_lt (show (59 : UInt8) ≠ 10 by decide) r
    rw [pf_line59] at h
    have hI : ∀ fs, IT bare (59 :: r) fs = (if bare = true then [(comS (59 :: r), zF)] else []) ++ IT bare (lineE (59 :: r)) fs := fun fs => by rw [IT_cons, if_neg c10, if_neg c5, if_pos rfl]
    simp only [hI]
    rw [EV_cons, if_pos rfl]
    have key : ∃ fs, l = top ++ fs ∧ pieceS (EV 0 false false (lineE (59 :: r))) fs = IT bare (lineE (59 :: r)) fs ∧ formsE (EV 0 false false (lineE (59 :: r))) = fs.length := by
     rcases lineE_cases (59 :: r) with e | ⟨q, e⟩
     ·rw [e] at h ⊢
      rw [pf_end] at h
      cases h
      exact ⟨[], by simp, rfl, rfl⟩
     ·rw [e] at h hl ⊢
      simp only [List.length_cons] at hl
      rw [pf_blank (by decide)] at h
      have hI : ∀ fs, IT bare (10 :: q) fs = IT true q fs := fun fs => by rw [IT_cons, if_pos rfl]
      simp only [hI]
      rw [EV_cons, if_neg (by decide), if_neg (by decide), if_neg (by decide), if_neg (by decide), if_pos (by decide), if_pos rfl]
      exact ih q (by omega) top l true h
    obtain ⟨fs, h1, h2, h3⟩ := key
    refine ⟨fs, h1, ?_, ?_⟩
    ·cases bare with
     | true => rw [if_pos ⟨rfl, rfl⟩, if_pos rfl]; simp only [List.cons_append, List.nil_append, pieceS, h2]
     | false => rw [if_neg (by simp), if_neg (by simp)]; simp only [List.nil_append, h2]
    ·cases bare with
     | true => rw [if_pos ⟨rfl, rfl⟩, ← h3]; rfl
     | false => rw [if_neg (by simp), List.nil_append]; exact h3
   ·have hI : ∀ fs, IT bare (c :: r) fs = (match fs with
     | [] => []
     | f :: fs' => ([], f) :: IT false (PA 0 (c :: r)) fs') := fun fs => by rw [IT_cons, if_neg c10, if_neg c5, if_neg c1]
    simp only [hI]
    have fin : ∀ (g : Fm) (q : List UInt8) (E : List (Bool × List UInt8)), PA 0 (c :: r) = q → q.length ≤ r.length → PF q (top ++ [g]) [] = .inr l → E = EV 0 false false q →
      ∃ fs, l = top ++ fs ∧ pieceS ((true, c :: r) :: E) fs = (match fs with
       | [] => []
       | f :: fs' => ([], f) :: IT false (PA 0 (c :: r)) fs') ∧ formsE ((true, c :: r) :: E) = fs.length := by
     intro g q E hq hql hp hE
     obtain ⟨fs, h1, h2, h3⟩ := ih q (by omega) _ l false hp
     refine ⟨g :: fs, by rw [h1]; simp, ?_, ?_⟩
     ·simp only [pieceS, hE, h2, hq]
     ·rw [List.length_cons, ← h3, hE]; rfl
    by_cases c2 : c = 34
    ·subst c2
     rw [pf_quote] at h
     cases hx : textS r [] with
     | inl e => rw [hx] at h; cases h
     | inr p =>
      obtain ⟨b, q⟩ := p
      rw [hx] at h
      simp only at h
      obtain ⟨hq, p, hp, hp10⟩ := text_qEnd r [] b q hx
      cases ht : touchS visS q with
      | true => rw [ht] at h; cases h
      | false =>
       rw [ht, if_neg (by decide)] at h
       have e1 : PA 0 (34 :: r) = q := by rw [PA_cons, if_pos rfl, if_pos rfl, hq]
       have e2 : (34 :: r).take ((34 :: r).length - (qEnd r).length) = 34 :: p := by
        rw [hq, hp]
        have : (34 :: (p ++ q)).length - q.length = (34 :: p).length := by simp only [List.length_cons, List.length_append]; omega
        rw [this, show (34 :: (p ++ q) : List UInt8) = (34 :: p) ++ q from rfl, List.take_left]
       have e3 : bareF bare (34 :: p) = false := by
        rw [bareF, if_neg (by decide)]
        have : (bare && (decide ((34 : UInt8) = 32) || decide ((34 : UInt8) = 9))) = false := by cases bare <;> rfl
        rw [this]; exact bareF_false p hp10
       rw [EV_cons, if_neg (by decide), if_pos rfl, if_pos ⟨rfl, rfl⟩, e2, e3, hq]
       exact fin _ q _ e1 (by rw [hp]; simp) h rfl
    ·by_cases c3 : c = 40
     ·subst c3
      rw [pf_open] at h
      obtain ⟨f, h1, h2, h3⟩ := pop_list r.length r (Nat.le_refl _) [] top l [] false h
      have e1 : PA 0 (40 :: r) = PA (0 + 1) r := by rw [PA_cons, if_neg (by decide), if_neg (by decide), if_pos rfl]
      rw [EV_cons, if_neg (by decide), if_neg (by decide), if_pos rfl, if_pos rfl]
      exact fin f _ _ e1 (by have : (PA (0 + 1) r).length < r.length := h1; omega) h2 h3
     ·by_cases c4 : c = 41
      ·subst c4
       rw [pf_close0] at h; cases h
      ·have hc := tok_of c1 c2 c3 c4 c5
       obtain ⟨g, q, hq, hql, he, h'⟩ := tok_split hc h
       have e1 : PA 0 (c :: r) = q := by rw [PA_cons, if_neg c2, if_neg c1, if_neg c3, if_neg c4, if_neg c5, if_pos rfl, hq]
       rw [ev_tok hc hq he, if_pos rfl]
       exact fin g q _ e1 hql h' rfl
theorem drop_suf (p : UInt8 → Bool) (r : List UInt8) : r.dropWhile p <:+ r := List.dropWhile_suffix p
theorem qEnd_suf : ∀ r : List UInt8, qEnd r <:+ r
 | [] => List.suffix_refl _
 | [c] => by simp [qEnd]
 | c :: d :: r => by
  rw [qEnd]
  split
  ·exact (qEnd_suf r).trans ⟨[c, d], rfl⟩
  ·split
   ·exact ⟨[c], rfl⟩
   ·exact (qEnd_suf (d :: r)).trans ⟨[c], rfl⟩
theorem ev_suf : ∀ (n : Nat) (d : Int) (near bare : Bool) (r : List UInt8), r.length < n → ∀ e ∈ evS n d near bare r, e.2 <:+ r
 | 0, d, near, bare, r, h => by omega
 | n + 1, d, near, bare, [], h => by intro e he; simp [evS] at he
 | n + 1, d, near, bare, c :: r, h => by
  simp only [List.length_cons] at h
  have up : ∀ {q : List UInt8}, q <:+ r → q <:+ c :: r := fun hq => hq.trans ⟨[c], rfl⟩
  intro e he
  simp only [evS] at he
  have self : ∀ (P : Prop) [Decidable P] (b : Bool), e ∈ (if P then [(b, c :: r)] else []) → e.2 <:+ c :: r := fun P _ b hx => by
   by_cases hP : P
   ·rw [if_pos hP, List.mem_singleton] at hx; subst hx; exact List.suffix_refl _
   ·rw [if_neg hP] at hx; cases hx
  by_cases c1 : c = 59
  ·rw [if_pos c1] at he
   have hl := lineE_lt (show c ≠ 10 by rw [c1]; decide) r
   rcases List.mem_append.1 he with he | he
   ·exact self _ _ he
   ·exact (ev_suf n _ _ _ _ (by omega) e he).trans (drop_suf _ _)
  ·rw [if_neg c1] at he
   by_cases c2 : c = 34
   ·rw [if_pos c2] at he
    have hq := qEnd_le r
    rcases List.mem_append.1 he with he | he
    ·exact self _ _ he
    ·exact up ((ev_suf n _ _ _ _ (by omega) e he).trans (qEnd_suf r))
   ·rw [if_neg c2] at he
    by_cases c3 : c = 40
    ·rw [if_pos c3] at he
     rcases List.mem_append.1 he with he | he
     ·exact self _ _ he
     ·exact up (ev_suf n _ _ _ _ (by omega) e he)
    ·rw [if_neg c3] at he
     by_cases c4 : c = 41
     ·rw [if_pos c4] at he; exact up (ev_suf n _ _ _ _ (by omega) e he)
     ·rw [if_neg c4] at he
      by_cases c5 : blankB c = true
      ·rw [if_pos c5] at he; exact up (ev_suf n _ _ _ _ (by omega) e he)
      ·rw [if_neg c5] at he
       by_cases c6 : near = true
       ·rw [if_pos c6] at he; exact up (ev_suf n _ _ _ _ (by omega) e he)
       ·rw [if_neg c6] at he
        rcases List.mem_append.1 he with he | he
        ·exact self _ _ he
        ·exact up (ev_suf n _ _ _ _ (by omega) e he)
theorem ev_asc : ∀ (n : Nat) (d : Int) (near bare : Bool) (r : List UInt8), r.length < n → (evS n d near bare r).Pairwise fun a b => b.2.length < a.2.length
 | 0, d, near, bare, r, h => by omega
 | n + 1, d, near, bare, [], h => by simp [evS]
 | n + 1, d, near, bare, c :: r, h => by
  simp only [List.length_cons] at h
  have add : ∀ (P : Prop) [Decidable P] (b : Bool) (d' : Int) (near' bare' : Bool) (q : List UInt8), q.length ≤ r.length → ((if P then [(b, c :: r)] else []) ++ evS n d' near' bare' q).Pairwise fun a b => b.2.length < a.2.length := by
   intro P _ b d' near' bare' q hq
   have ih := ev_asc n d' near' bare' q (by omega)
   by_cases hP : P
   ·rw [if_pos hP, List.singleton_append, List.pairwise_cons]
    refine ⟨fun e he => ?_, ih⟩
    have := (ev_suf n d' near' bare' q (by omega) e he).length_le
    simp only [List.length_cons]; omega
   ·rw [if_neg hP, List.nil_append]; exact ih
  simp only [evS]
  by_cases c1 : c = 59
  ·rw [if_pos c1]; exact add _ _ _ _ _ _ (lineE_lt (show c ≠ 10 by rw [c1]; decide) r)
  ·rw [if_neg c1]
   by_cases c2 : c = 34
   ·rw [if_pos c2]; exact add _ _ _ _ _ _ (qEnd_le r)
   ·rw [if_neg c2]
    by_cases c3 : c = 40
    ·rw [if_pos c3]; exact add _ _ _ _ _ _ (Nat.le_refl _)
    ·rw [if_neg c3]
     by_cases c4 : c = 41
     ·rw [if_pos c4]; exact ev_asc n _ _ _ _ (by omega)
     ·rw [if_neg c4]
      by_cases c5 : blankB c = true
      ·rw [if_pos c5]; exact ev_asc n _ _ _ _ (by omega)
      ·rw [if_neg c5]
       by_cases c6 : near = true
       ·rw [if_pos c6]; exact ev_asc n _ _ _ _ (by omega)
       ·rw [if_neg c6]; exact add _ _ _ _ _ _ (Nat.le_refl _)
end Go.Ab

set_option maxRecDepth 100000
namespace Go.Ab
open Go Go.RowKit Go.Proofs
def okq (q : List UInt8) : Prop := ∀ c y, q = c :: y → tokc c = false ∧ c ≠ 34
theorem okq_cons {c : UInt8} (h : tokc c = false) (h2 : c ≠ 34) (q : List UInt8) : okq (c :: q) := fun x y e => by cases e; exact ⟨h, h2⟩
def Neu (X : List UInt8) : Prop := ∀ d q, okq q → PA d (X ++ q) = if d = 0 then q else PA d q
theorem PA_blank {c : UInt8} (h : blankB c = true) (d : Nat) (q : List UInt8) : PA (d + 1) (c :: q) = PA (d + 1) q := by
 have hne : c ≠ 59 ∧ c ≠ 34 ∧ c ≠ 40 ∧ c ≠ 41 := by
  refine ⟨?_, ?_, ?_, ?_⟩ <;> (intro e; subst e; revert h; decide)
 rw [PA_cons, if_neg hne.2.1, if_neg hne.1, if_neg hne.2.2.1, if_neg hne.2.2.2, if_pos h, if_neg (by omega)]
theorem PA_blanks (n : Nat) (d : Nat) (q : List UInt8) : PA (d + 1) (blanksS n ++ q) = PA (d + 1) q := by
 induction n with
 | zero => rfl
 | succ n ih =>
  have e : blanksS (n + 1) ++ q = 32 :: (blanksS n ++ q) := by simp [blanksS, List.replicate_succ]
  rw [e, PA_blank (by decide), ih]
theorem neu_run {w : List UInt8} (hne : w ≠ []) (hw : ∀ c ∈ w, visS c = true) : Neu w := fun d q hq => by
 cases w with
 | nil => exact absurd rfl hne
 | cons c w' =>
  have hc := vis_tok (hw c (by simp))
  obtain ⟨h1, h2, h3, h4, h5⟩ := tok_not hc
  have hd := take_tok (fun x hx => vis_tok (hw x hx)) hq
  rw [List.cons_append] at hd ⊢
  rw [PA_cons, if_neg h2, if_neg h1, if_neg h3, if_neg h4, if_neg (by simp [h5]), hd]
theorem neu_text {t : List UInt8} (ht : ∀ c ∈ t, badB c = false) (hl : t.length ≤ 2000) : Neu (34 :: (escS t ++ [34])) := fun d q hq => by
 have hb := text_back t [] q ht (by simpa using hl)
 have e : qEnd (escS t ++ (34 :: q)) = q := (text_qEnd _ _ _ _ hb).1
 have e2 : 34 :: (escS t ++ [34]) ++ q = 34 :: (escS t ++ (34 :: q)) := by simp
 rw [e2, PA_cons, if_pos rfl, e]
theorem neu_list {B : List UInt8} (h : ∀ d q, PA (d + 1) (B ++ (41 :: q)) = PA (d + 1) (41 :: q)) : Neu (40 :: (B ++ [41])) := fun d q hq => by
 have e : 40 :: (B ++ [41]) ++ q = 40 :: (B ++ (41 :: q)) := by simp
 rw [e, PA_cons, if_neg (by decide), if_neg (by decide), if_pos rfl, h, PA_cons, if_neg (by decide), if_neg (by decide), if_neg (by decide), if_pos rfl]
 by_cases hd : d = 0
 ·subst hd; rfl
 ·rw [if_neg (by omega), if_neg hd]; rfl
theorem okq_close (q : List UInt8) : okq (41 :: q) := okq_cons (by decide) (by decide) q
theorem okq_blank (q : List UInt8) : okq (32 :: q) := okq_cons (by decide) (by decide) q
theorem okq_nl (q : List UInt8) : okq (10 :: q) := okq_cons (by decide) (by decide) q
theorem wr_neu : ∀ f : Fm, fieldsF f = true → Neu (wr f) := Fm.ind fun k n t l ih hf => by
 rw [fieldsF_eq] at hf
 simp only [Bool.and_eq_true] at hf
 obtain ⟨h1, h2⟩ := hf
 simp only [Fm.k, Fm.n, Fm.t, Fm.l] at h1 h2
 rw [wr]
 unfold leafS at h1
 by_cases c0 : k = 0
 ·rw [if_pos c0]; exact neu_run (itoa_ne n) (itoa_vis n)
 ·rw [if_neg c0] at h1 ⊢
  by_cases c1 : k = 1
  ·rw [if_pos c1] at h1 ⊢
   simp only [wordS, Bool.and_eq_true, decide_eq_true_eq] at h1
   exact neu_run h1.1.1.1 fun c hc => List.all_eq_true.1 h1.1.2 c hc
  ·rw [if_neg c1] at h1 ⊢
   by_cases c2 : k = 2
   ·rw [if_pos c2] at h1 ⊢
    simp only [Bool.and_eq_true, decide_eq_true_eq] at h1
    exact neu_text (bad_all (by simpa using h1.2.1)) h1.1
   ·rw [if_neg c2] at h1 ⊢
    by_cases c3 : k = 3
    ·refine neu_list fun d q => ?_
     have key : ∀ (l : List Fm) (b : Bool), (∀ f ∈ l, fieldsF f = true → Neu (wr f)) → fieldsL l = true → PA (d + 1) (wrL b l ++ (41 :: q)) = PA (d + 1) (41 :: q) := by
      intro l
      induction l with
      | nil => intro b _ _; rw [wrL]; rfl
      | cons f r ihr =>
       intro b hi hl
       simp only [fieldsL, Bool.and_eq_true] at hl
       have hr := ihr false (fun g hg => hi g (List.mem_cons_of_mem _ hg)) hl.2
       have ho : okq (wrL false r ++ (41 :: q)) := by
        cases r with
        | nil => exact okq_close q
        | cons g r' => exact okq_blank _
       have main : PA (d + 1) (wr f ++ (wrL false r ++ (41 :: q))) = PA (d + 1) (41 :: q) := by
        rw [hi f (by simp) hl.1 (d + 1) _ ho, if_neg (by omega), hr]
       cases b with
       | true =>
        have e3 : wrL true (f :: r) ++ (41 :: q) = wr f ++ (wrL false r ++ (41 :: q)) := by simp [wrL]
        rw [e3]; exact main
       | false =>
        have e3 : wrL false (f :: r) ++ (41 :: q) = 32 :: (wr f ++ (wrL false r ++ (41 :: q))) := by simp [wrL]
        rw [e3, PA_blank (by decide)]; exact main
     exact key l true ih h2
    ·rw [if_neg c3] at h1; cases h1
theorem layL_neu {w : Nat} (d : Nat) (q : List UInt8) : ∀ (l : List Fm) (nl : Bool) (ind cl : Nat), (∀ f ∈ l, ∀ c cl, Neu (layF w f c cl)) → PA (d + 1) (layL w l 0 nl ind cl ++ (41 :: q)) = PA (d + 1) (41 :: q)
 | [], nl, ind, cl, _ => by rw [layL]; rfl
 | f :: r, nl, ind, cl, h => by
  have hr := layL_neu d q r true ind cl fun g hg => h g (List.mem_cons_of_mem _ hg)
  have ho : okq (layL w r 0 true ind cl ++ (41 :: q)) := by
   cases r with
   | nil => rw [layL]; exact okq_close q
   | cons g r' => rw [layL, if_pos rfl]; exact okq_nl _
  have main : PA (d + 1) (layF w f ind (if r = [] then cl + 1 else 0) ++ (layL w r 0 true ind cl ++ (41 :: q))) = PA (d + 1) (41 :: q) := by
   rw [h f (by simp) _ _ (d + 1) _ ho, if_neg (by omega), hr]
  rw [layL]
  cases nl with
  | true =>
   rw [if_pos rfl]
   have e3 : 10 :: blanksS ind ++ (layF w f ind (if r = [] then cl + 1 else 0) ++ layL w r 0 true ind cl) ++ 41 :: q = 10 :: (blanksS ind ++ (layF w f ind (if r = [] then cl + 1 else 0) ++ (layL w r 0 true ind cl ++ (41 :: q)))) := by simp
   rw [e3, PA_blank (by decide), PA_blanks]; exact main
  | false =>
   rw [if_neg (by decide)]
   have e3 : [] ++ (layF w f ind (if r = [] then cl + 1 else 0) ++ layL w r 0 true ind cl) ++ 41 :: q = layF w f ind (if r = [] then cl + 1 else 0) ++ (layL w r 0 true ind cl ++ (41 :: q)) := by simp
   rw [e3]; exact main
theorem lay_neu (w : Nat) : ∀ f : Fm, fieldsF f = true → ∀ c cl, Neu (layF w f c cl) := Fm.ind fun k n t l ih hf c cl => by
 rw [layF]
 split
 ·exact wr_neu _ hf
 ·rename_i hc
  simp only [not_or, Decidable.not_not] at hc
  obtain ⟨_, hk, hl⟩ := hc
  have hf' := hf
  rw [fieldsF_eq] at hf'
  simp only [Bool.and_eq_true] at hf'
  obtain ⟨h1, h2⟩ := hf'
  simp only [Fm.k, Fm.n, Fm.t, Fm.l] at h1 h2
  have hall : ∀ f ∈ l, ∀ c cl, Neu (layF w f c cl) := fun f hm => ih f hm (fieldsL_mem h2 f hm)
  rw [layL_skip]
  generalize hnl : (!decide (manyF l = 0)) = nl
  generalize (if manyF l = 0 then c + 1 else c + 2) = ind
  have e0 : frontB l ++ (layL w (l.drop (manyF l)) 0 nl ind cl ++ [41]) = (frontB l ++ layL w (l.drop (manyF l)) 0 nl ind cl) ++ [41] := by simp
  rw [e0]
  refine neu_list fun d q => ?_
  rw [List.append_assoc]
  cases l with
  | nil => exact absurd rfl hl
  | cons h r =>
   by_cases hk1 : h.k = 1
   ·have hfh := fieldsL_mem h2 h (by simp)
    have hwh := word_eta hk1 hfh
    cases r with
    | nil =>
     have e1 : manyF [h] = 1 := by simp [manyF, hk1]
     have e2 : frontB [h] = h.t := by simp [frontB, hk1]
     rw [e1, e2, ← hwh]
     simp only [List.drop_succ_cons, List.drop_nil, layL, List.nil_append]
     rw [wr_neu h hfh (d + 1) _ (okq_close q), if_neg (by omega)]
    | cons g r' =>
     have hfg := fieldsL_mem h2 g (by simp)
     by_cases hk3 : g.k = 3
     ·have e1 : manyF (h :: g :: r') = 1 := by simp [manyF, hk1, hk3]
      have e2 : frontB (h :: g :: r') = h.t := by simp [frontB, hk1, hk3]
      have hnl' : nl = true := by rw [← hnl, e1]; rfl
      rw [e1, e2, ← hwh, hnl', show List.drop 1 (h :: g :: r') = g :: r' from rfl]
      rw [wr_neu h hfh (d + 1) _ (by rw [layL, if_pos rfl]; exact okq_nl _), if_neg (by omega)]
      exact layL_neu d q _ _ _ _ fun f hm => hall f (by simp at hm ⊢; exact .inr hm)
     ·have e1 : manyF (h :: g :: r') = 2 := by simp [manyF, hk1, hk3]
      have e2 : frontB (h :: g :: r') = h.t ++ (32 :: wr g) := by simp [frontB, hk1, hk3]
      have hnl' : nl = true := by rw [← hnl, e1]; rfl
      rw [e1, e2, ← hwh, hnl', show List.drop 2 (h :: g :: r') = r' from rfl]
      have e3 : wr h ++ 32 :: wr g ++ (layL w r' 0 true ind cl ++ 41 :: q) = wr h ++ (32 :: (wr g ++ (layL w r' 0 true ind cl ++ 41 :: q))) := by simp
      have ho : okq (layL w r' 0 true ind cl ++ 41 :: q) := by
       cases r' with
       | nil => rw [layL]; exact okq_close q
       | cons x y => rw [layL, if_pos rfl]; exact okq_nl _
      rw [e3, wr_neu h hfh (d + 1) _ (okq_blank _), if_neg (by omega), PA_blank (by decide), wr_neu g hfg (d + 1) _ ho, if_neg (by omega)]
      exact layL_neu d q _ _ _ _ fun f hm => hall f (by simp [hm])
   ·have e1 : manyF (h :: r) = 0 := by simp [manyF, hk1]
    have e2 : frontB (h :: r) = [] := by simp [frontB, hk1]
    rw [e1, e2, List.nil_append, List.drop_zero]
    exact layL_neu d q _ _ _ _ hall
theorem wr_head (f : Fm) (hf : fieldsF f = true) : ∃ c r, wr f = c :: r ∧ blankB c = false ∧ c ≠ 59 ∧ c ≠ 10 := by
 have hf' := hf
 rw [fieldsF_eq] at hf'
 simp only [Bool.and_eq_true] at hf'
 obtain ⟨h1, h2⟩ := hf'
 rw [wr_eq]
 unfold leafS at h1
 have run : ∀ w : List UInt8, w ≠ [] → (∀ c ∈ w, visS c = true) → ∃ c r, w = c :: r ∧ blankB c = false ∧ c ≠ 59 ∧ c ≠ 10 := fun w hne hw => by
  cases w with
  | nil => exact absurd rfl hne
  | cons c r =>
   obtain ⟨a, b, _⟩ := vis_not c (hw c (by simp))
   exact ⟨c, r, rfl, a, b, by intro e; subst e; revert a; decide⟩
 by_cases c0 : f.k = 0
 ·rw [if_pos c0]; exact run _ (itoa_ne _) (itoa_vis _)
 ·rw [if_neg c0] at h1 ⊢
  by_cases c1 : f.k = 1
  ·rw [if_pos c1] at h1 ⊢
   simp only [wordS, Bool.and_eq_true, decide_eq_true_eq] at h1
   exact run _ h1.1.1.1 fun c hc => List.all_eq_true.1 h1.1.2 c hc
  ·rw [if_neg c1]
   by_cases c2 : f.k = 2
   ·rw [if_pos c2]; exact ⟨34, _, rfl, by decide, by decide, by decide⟩
   ·rw [if_neg c2]; exact ⟨40, _, rfl, by decide, by decide, by decide⟩
theorem lay_head (w : Nat) (f : Fm) (hf : fieldsF f = true) (c cl : Nat) : ∃ x r, layF w f c cl = x :: r ∧ blankB x = false ∧ x ≠ 59 ∧ x ≠ 10 := by
 rw [layF_eq]
 split
 ·exact wr_head f hf
 ·exact ⟨40, _, rfl, by decide, by decide, by decide⟩
def wideB (t : List UInt8) : Bool := t.any fun c => decide (c = 10)
def outS (w : Nat) : Bool → Bool → List (List UInt8 × Fm) → List UInt8
 | _, _, [] => []
 | pf, lw, (b, f) :: r =>
  if b = [] then (if pf = true ∧ lw = true ∧ wideB (layF w f 0 0) = true then [10] else []) ++ (layF w f 0 0 ++ (10 :: outS w true (wideB (layF w f 0 0)) r))
  else (if pf = true then [10] else []) ++ (b ++ (10 :: outS w false lw r))
def okI (p : List UInt8 × Fm) : Prop := (p.1 = [] ∧ fieldsF p.2 = true) ∨ (p.2 = zF ∧ ∃ b, p.1 = 59 :: b ∧ (∀ c ∈ p.1, c ≠ 10) ∧ trimR p.1 = p.1)
def formsI : List (List UInt8 × Fm) → List Fm
 | [] => []
 | (b, f) :: r => if b = [] then f :: formsI r else formsI r
theorem take_n10 {b : List UInt8} (h : ∀ c ∈ b, c ≠ 10) (r : List UInt8) : (b ++ (10 :: r)).takeWhile n10 = b ∧ lineE (b ++ (10 :: r)) = 10 :: r := by
 unfold lineE
 induction b with
 | nil => rw [List.nil_append, List.takeWhile_cons_of_neg (by decide), List.dropWhile_cons_of_neg (by decide)]; exact ⟨rfl, rfl⟩
 | cons c b ih =>
  have hc : n10 c = true := by simp [n10, h c (by simp)]
  obtain ⟨a, d⟩ := ih fun x hx => h x (by simp [hx])
  rw [List.cons_append, List.takeWhile_cons_of_pos hc, List.dropWhile_cons_of_pos hc, a, d]
  exact ⟨rfl, rfl⟩
theorem out_back (w : Nat) : ∀ (I : List (List UInt8 × Fm)) (pf lw : Bool) (top : List Fm), (∀ p ∈ I, okI p) → PF (outS w pf lw I) top [] = .inr (top ++ formsI I) ∧ IT true (outS w pf lw I) (formsI I) = I
 | [], pf, lw, top, _ => by
  rw [outS, formsI, List.append_nil]
  exact ⟨pf_end top, rfl⟩
 | (b, f) :: I, pf, lw, top, h => by
  have hp := h (b, f) (by simp)
  have ih := fun pf lw top => out_back w I pf lw top fun p hp => h p (List.mem_cons_of_mem _ hp)
  have nl : ∀ (P : Prop) [Decidable P] (X : List UInt8) (fs : List Fm), PF ((if P then [10] else []) ++ X) top [] = PF X top [] ∧ IT true ((if P then [10] else []) ++ X) fs = IT true X fs := fun P _ X fs => by
   by_cases hP : P
   ·rw [if_pos hP, List.singleton_append]
    exact ⟨pf_blank (by decide) _ _ _, by rw [IT_cons, if_pos rfl]⟩
   ·rw [if_neg hP, List.nil_append]; exact ⟨rfl, rfl⟩
  rw [outS, formsI]
  rcases hp with ⟨hb, hf⟩ | ⟨hf, b', hb, h10, htr⟩
  ·have hb : b = [] := hb
   have hf : fieldsF f = true := hf
   subst hb
   rw [if_pos rfl, if_pos rfl]
   obtain ⟨i1, i2⟩ := ih true (wideB (layF w f 0 0)) (top ++ [f])
   obtain ⟨n1, n2⟩ := nl (pf = true ∧ lw = true ∧ wideB (layF w f 0 0) = true) (layF w f 0 0 ++ (10 :: outS w true (wideB (layF w f 0 0)) I)) (f :: formsI I)
   rw [n1, n2]
   constructor
   ·rw [lay_back w f hf 0 0 _ _ _ (touch_nl _), pf_blank (by decide), i1]; simp
   ·have hneu := lay_neu w f hf 0 0 0 (10 :: outS w true (wideB (layF w f 0 0)) I) (okq_nl _)
    rw [if_pos rfl] at hneu
    obtain ⟨x, r, hx, x1, x2, x3⟩ := lay_head w f hf 0 0
    generalize outS w true (wideB (layF w f 0 0)) I = O at hneu i2
    rw [hx] at hneu ⊢
    rw [List.cons_append] at hneu ⊢
    rw [IT_cons, if_neg x3, if_neg (by simp [x1]), if_neg x2]
    simp only
    rw [hneu, IT_cons, if_pos rfl, i2]
  ·have hf : f = zF := hf
   have hb : b = 59 :: b' := hb
   have h10 : ∀ c ∈ b, c ≠ 10 := h10
   have htr : trimR b = b := htr
   have hne : b ≠ [] := by rw [hb]; simp
   rw [if_neg hne, if_neg hne]
   obtain ⟨i1, i2⟩ := ih false lw top
   obtain ⟨n1, n2⟩ := nl (pf = true) (b ++ (10 :: outS w false lw I)) (formsI I)
   rw [n1, n2]
   obtain ⟨t1, t2⟩ := take_n10 h10 (outS w false lw I)
   have e1 : b ++ (10 :: outS w false lw I) = 59 :: (b' ++ (10 :: outS w false lw I)) := by rw [hb]; rfl
   constructor
   ·rw [e1, pf_line59, ← e1, t2, pf_blank (by decide)]; exact i1
   ·have ec : comS (b ++ (10 :: outS w false lw I)) = b := by unfold comS; rw [t1]; exact htr
    rw [e1] at t2 ec ⊢
    rw [IT_cons, if_neg (by decide), if_neg (by decide), if_pos rfl, if_pos rfl, t2, ec, IT_cons, if_pos rfl, i2, hf]
    rfl
theorem trimRi_take (p : UInt8 → Bool) (s : List UInt8) : ∀ i, i ≤ s.length → ∃ j, j ≤ i ∧ trimRi p s i = s.take j ∧ (j = 0 ∨ p (s.getD (j - 1) 0) = false)
 | 0, _ => ⟨0, Nat.le_refl _, by simp [trimRi], .inl rfl⟩
 | i + 1, h => by
  rw [trimRi]
  cases hp : p (s.getD i 0) with
  | true =>
   rw [if_pos rfl]
   obtain ⟨j, a, b, c⟩ := trimRi_take p s i (by omega)
   exact ⟨j, by omega, b, c⟩
  | false =>
   rw [if_neg (by decide)]
   exact ⟨i + 1, Nat.le_refl _, rfl, .inr (by simpa using hp)⟩
theorem trimRi_stop (p : UInt8 → Bool) (s : List UInt8) {j : Nat} (h : j = 0 ∨ p (s.getD (j - 1) 0) = false) : trimRi p s j = s.take j := by
 cases j with
 | zero => simp [trimRi]
 | succ j =>
  rw [trimRi]
  have := h.resolve_left (by omega)
  rw [Nat.add_sub_cancel] at this
  rw [this, if_neg (by decide)]
theorem getD_take' {s : List UInt8} {j i : Nat} (h : i < j) : (s.take j).getD i 0 = s.getD i 0 := by
 simp [List.getD_eq_getElem?_getD, List.getElem?_take, h]
theorem trimR_idem (s : List UInt8) : trimR (trimR s) = trimR s := by
 unfold trimR
 obtain ⟨j, a, b, c⟩ := trimRi_take wsB s s.length (Nat.le_refl _)
 rw [b]
 have hl : (s.take j).length = j := by rw [List.length_take]; omega
 rw [hl, trimRi_stop]
 ·rw [List.take_of_length_le (by omega)]
 ·rcases c with c | c
  ·exact .inl c
  ·by_cases hj : j = 0
   ·exact .inl hj
   ·right; rw [getD_take' (by omega)]; exact c
theorem comS_ok (r : List UInt8) : ∃ b, comS (59 :: r) = 59 :: b ∧ (∀ c ∈ comS (59 :: r), c ≠ 10) ∧ trimR (comS (59 :: r)) = comS (59 :: r) := by
 have ht : (59 :: r).takeWhile n10 = 59 :: r.takeWhile n10 := List.takeWhile_cons_of_pos (by decide)
 have hall : ∀ c ∈ (59 :: r).takeWhile n10, c ≠ 10 := fun c hc => by
  have := takeWhile_all hc
  simpa [n10] using this
 unfold comS
 obtain ⟨j, a, b, c⟩ := trimRi_take wsB ((59 :: r).takeWhile n10) ((59 :: r).takeWhile n10).length (Nat.le_refl _)
 have e : trimR ((59 :: r).takeWhile n10) = ((59 :: r).takeWhile n10).take j := b
 have hj : j ≠ 0 := by
  intro hj
  have key : ∀ i, i ≤ ((59 :: r).takeWhile n10).length → 1 ≤ i → trimRi wsB ((59 :: r).takeWhile n10) i ≠ [] := by
   intro i
   induction i with
   | zero => intro _ h; omega
   | succ i ih =>
    intro h1 _
    rw [trimRi]
    by_cases hi : i = 0
    ·subst hi
     have : wsB (((59 :: r).takeWhile n10).getD 0 0) = false := by rw [ht]; rfl
     rw [this, if_neg (by decide), ht]; simp
    ·split
     ·exact ih (by omega) (by omega)
     ·rw [ht]; simp
  have h0 := key ((59 :: r).takeWhile n10).length (Nat.le_refl _) (by rw [ht]; simp)
  rw [b, hj] at h0
  exact h0 (by simp)
 refine ⟨(r.takeWhile n10).take (j - 1), ?_, fun c hc => ?_, trimR_idem _⟩
 ·rw [e, ht]
  cases j with
  | zero => exact absurd rfl hj
  | succ j => rfl
 ·rw [e] at hc
  exact hall c (List.mem_of_mem_take hc)
theorem it_ok : ∀ (n : Nat) (bare : Bool) (r : List UInt8) (fs : List Fm), (∀ f ∈ fs, fieldsF f = true) → ∀ p ∈ itS n bare r fs, okI p
 | 0, _, _, _, _ => by intro p hp; simp [itS] at hp
 | n + 1, _, [], _, _ => by intro p hp; simp [itS] at hp
 | n + 1, bare, c :: r, fs, h => by
  intro p hp
  simp only [itS] at hp
  by_cases c1 : c = 10
  ·rw [if_pos c1] at hp; exact it_ok n _ _ _ h p hp
  ·rw [if_neg c1] at hp
   by_cases c2 : blankB c = true
   ·rw [if_pos c2] at hp; exact it_ok n _ _ _ h p hp
   ·rw [if_neg c2] at hp
    by_cases c3 : c = 59
    ·rw [if_pos c3] at hp
     rcases List.mem_append.1 hp with hp | hp
     ·by_cases hb : bare = true
      ·rw [if_pos hb, List.mem_singleton] at hp
       subst hp; subst c3
       obtain ⟨b, h1, h2, h3⟩ := comS_ok r
       exact .inr ⟨rfl, b, h1, h2, h3⟩
      ·rw [if_neg hb] at hp; cases hp
     ·exact it_ok n _ _ _ h p hp
    ·rw [if_neg c3] at hp
     cases fs with
     | nil => cases hp
     | cons f fs' =>
      rcases List.mem_cons.1 hp with rfl | hp
      ·exact .inl ⟨rfl, h f (by simp)⟩
      ·exact it_ok n _ _ _ (fun g hg => h g (List.mem_cons_of_mem _ hg)) p hp
theorem forms_piece : ∀ (E : List (Bool × List UInt8)) (fs : List Fm), formsE E = fs.length → (∀ e ∈ E, e.1 = false → ∃ r, e.2 = 59 :: r) → formsI (pieceS E fs) = fs
 | [], fs, h, _ => by
  have : fs = [] := List.eq_nil_of_length_eq_zero (by rw [← h]; rfl)
  subst this; rfl
 | (false, r) :: E, fs, h, hc => by
  obtain ⟨r', hr⟩ := hc (false, r) (by simp) rfl
  have hr : r = 59 :: r' := hr
  obtain ⟨b, hb, _, _⟩ := comS_ok r'
  rw [pieceS, formsI, hr, hb, if_neg (by simp)]
  exact forms_piece E fs (by rw [← h]; rfl) fun e he => hc e (List.mem_cons_of_mem _ he)
 | (true, r) :: E, [], h, _ => by simp [formsE] at h
 | (true, r) :: E, f :: fs, h, hc => by
  rw [pieceS, formsI, if_pos rfl, forms_piece E fs (by simpa [formsE] using h) fun e he => hc e (List.mem_cons_of_mem _ he)]
end Go.Ab

set_option maxRecDepth 100000
namespace Go.Ab
open Go Go.RowKit Go.Proofs
theorem up_inv {L R A : Type} {N : Prop} {b : L → Option (Step L R)} {l0 : L} {F : R → Option A} {v : A} (I : L → Prop) (μ : L → Nat)
  (h : ∀ l, I l → (∃ l', b l = some (.next l') ∧ I l' ∧ μ l' < μ l) ∨ (∃ r, b l = some (.done r) ∧ Up N (F r) v) ∨ (b l = none ∧ N)) (h0 : I l0) : Up N (Option.bind (loopM b l0) F) v := by
 have key : ∀ (n : Nat) (l : L), μ l ≤ n → I l → Up N (Option.bind (loopM b l) F) v := by
  intro n
  induction n with
  | zero =>
   intro l hl hi
   rcases h l hi with ⟨l', h1, h2, h3⟩ | ⟨r, h1, h2⟩ | ⟨h1, h2⟩
   ·omega
   ·rw [loopM_done h1]; exact h2
   ·rw [loopM_none h1]; exact .inr ⟨rfl, h2⟩
  | succ n ih =>
   intro l hl hi
   rcases h l hi with ⟨l', h1, h2, h3⟩ | ⟨r, h1, h2⟩ | ⟨h1, h2⟩
   ·rw [loopM_next h1]; exact ih l' (by omega) h2
   ·rw [loopM_done h1]; exact h2
   ·rw [loopM_none h1]; exact .inr ⟨rfl, h2⟩
 exact key _ l0 (Nat.le_refl _) h0
theorem wrV_of {f : Fm} (h : validF f = true) : wrV f = wr f := if_pos h
theorem valid_kid {f g : Fm} (hv : validF f = true) (hg : g ∈ f.l) : validF g = true := by
 rw [validF_iff] at hv ⊢
 simp only [Bool.and_eq_true, decide_eq_true_eq] at hv ⊢
 obtain ⟨h1, h2, h3⟩ := hv
 have hf := h1
 rw [fieldsF_eq] at hf
 simp only [Bool.and_eq_true] at hf
 have hk : f.k = 3 := by
  by_cases c : f.k = 3
  ·exact c
  ·have := hf.1
   unfold leafS at this
   have hl : f.l = [] := by
    by_cases c0 : f.k = 0
    ·rw [if_pos c0] at this; simp only [Bool.and_eq_true, decide_eq_true_eq] at this; exact this.2.1
    ·rw [if_neg c0] at this
     by_cases c1 : f.k = 1
     ·rw [if_pos c1] at this; simp only [Bool.and_eq_true, decide_eq_true_eq] at this; exact this.2.2
     ·rw [if_neg c1] at this
      by_cases c2 : f.k = 2
      ·rw [if_pos c2] at this; simp only [Bool.and_eq_true, decide_eq_true_eq] at this; exact this.2.2.2
      ·rw [if_neg c2, if_neg c] at this; cases this
   rw [hl] at hg; cases hg
 have hs : f.size = 1 + Fm.sizeL f.l := by rw [Fm.size_eq, if_pos hk]
 have hd : f.depth = 1 + Fm.depthL f.l := by rw [Fm.depth_eq, if_pos hk]
 obtain ⟨i, hi, rfl⟩ := List.getElem_of_mem hg
 have a1 := sizeL_take f.l hi
 have a2 := sizeL_take_le f.l (i + 1)
 have b1 := depthL_take f.l hi
 have b2 := depthL_take_le f.l (i + 1)
 exact ⟨fieldsL_mem hf.2 _ hg, by omega, by omega⟩
theorem depth_kid {f g : Fm} (hk : f.k = 3) (hg : g ∈ f.l) : g.depth + 1 ≤ f.depth := by
 have hd : f.depth = 1 + Fm.depthL f.l := by rw [Fm.depth_eq, if_pos hk]
 obtain ⟨i, hi, rfl⟩ := List.getElem_of_mem hg
 have b1 := depthL_take f.l hi
 have b2 := depthL_take_le f.l (i + 1)
 omega
theorem valid_depth {f : Fm} (hv : validF f = true) : f.depth ≤ 100 := by
 rw [validF_iff] at hv
 simp only [Bool.and_eq_true, decide_eq_true_eq] at hv
 omega
theorem front_len {w A : Nat} (hA : 4101 ≤ A) : ∀ l : List Fm, (∀ f ∈ l, fieldsF f = true) → (frontB l).length ≤ A * Fm.sizeL (l.take (manyF l))
 | [], _ => by simp [frontB]
 | [h], hf => by
  by_cases hk : h.k = 1
  ·have e2 : frontB [h] = h.t := by simp [frontB, hk]
   have := wr_len h (hf h (by simp))
   rw [word_eta hk (hf h (by simp))] at this
   have e3 : [h].take (manyF [h]) = [h] := by simp [manyF, hk]
   rw [e2, e3]
   simp only [Fm.sizeL]
   have : 4101 * h.size ≤ A * h.size := Nat.mul_le_mul_right _ hA
   simp only [Nat.add_zero]; omega
  ·have e2 : frontB [h] = [] := by simp [frontB, hk]
   rw [e2]; simp
 | h :: g :: r, hf => by
  by_cases hk : h.k = 1
  ·have h1 := wr_len h (hf h (by simp))
   rw [word_eta hk (hf h (by simp))] at h1
   have m1 : 4101 * h.size ≤ A * h.size := Nat.mul_le_mul_right _ hA
   by_cases hg : g.k = 3
   ·have e2 : frontB (h :: g :: r) = h.t := by simp [frontB, hk, hg]
    have e3 : (h :: g :: r).take (manyF (h :: g :: r)) = [h] := by simp [manyF, hk, hg]
    rw [e2, e3]
    simp only [Fm.sizeL, Nat.add_zero]; omega
   ·have e2 : frontB (h :: g :: r) = h.t ++ (32 :: wr g) := by simp [frontB, hk, hg]
    have e3 : (h :: g :: r).take (manyF (h :: g :: r)) = [h, g] := by simp [manyF, hk, hg]
    have h2 := wr_len g (hf g (by simp))
    have m2 : 4101 * g.size ≤ A * g.size := Nat.mul_le_mul_right _ hA
    rw [e2, e3]
    simp only [Fm.sizeL, Nat.add_zero, List.length_append, List.length_cons, Nat.mul_add]; omega
  ·have e2 : frontB (h :: g :: r) = [] := by simp [frontB, hk]
   rw [e2]; simp
theorem sizeL_drop : ∀ (l : List Fm) (j : Nat), Fm.sizeL (l.take j) + Fm.sizeL (l.drop j) = Fm.sizeL l
 | [], j => by simp [Fm.sizeL]
 | f :: l, 0 => by simp [Fm.sizeL]
 | f :: l, j + 1 => by
  have := sizeL_drop l j
  simp only [List.take_succ_cons, List.drop_succ_cons, Fm.sizeL]; omega
theorem lay_len (w : Nat) : ∀ f : Fm, fieldsF f = true → ∀ c cl D, c + 2 * f.depth ≤ D → (layF w f c cl).length + 1 + c ≤ (4103 + D) * f.size := Fm.ind fun k n t l ih hf c cl D hD => by
 have hsz : 1 ≤ (Fm.mk k n t l).size := by rw [Fm.size_eq]; omega
 rw [layF]
 split
 ·have := wr_len _ hf
  have e : (4103 + D) * (Fm.mk k n t l).size = 4101 * (Fm.mk k n t l).size + (2 + D) * (Fm.mk k n t l).size := by rw [← Nat.add_mul]; congr 1; omega
  have : (2 + D) * 1 ≤ (2 + D) * (Fm.mk k n t l).size := Nat.mul_le_mul_left _ hsz
  omega
 ·rename_i hc
  simp only [not_or, Decidable.not_not] at hc
  obtain ⟨_, hk, hl⟩ := hc
  have hf' := hf
  rw [fieldsF_eq] at hf'
  simp only [Bool.and_eq_true] at hf'
  obtain ⟨_, h2⟩ := hf'
  simp only [Fm.l] at h2
  have hs : (Fm.mk k n t l).size = 1 + Fm.sizeL l := by rw [Fm.size_eq, if_pos (show (Fm.mk k n t l).k = 3 from hk)]; rfl
  have hdk : ∀ g ∈ l, g.depth + 1 ≤ (Fm.mk k n t l).depth := fun g hg => depth_kid (f := Fm.mk k n t l) hk hg
  rw [layL_skip]
  have hind : (if manyF l = 0 then c + 1 else c + 2) ≤ c + 2 := by split <;> omega
  generalize (if manyF l = 0 then c + 1 else c + 2) = ind at hind
  generalize (!decide (manyF l = 0)) = nl
  have key : ∀ (r : List Fm) (nl : Bool), (∀ g ∈ r, g ∈ l) → (layL w r 0 nl ind cl).length ≤ (4103 + D) * Fm.sizeL r := by
   intro r
   induction r with
   | nil => intro nl _; simp [layL]
   | cons g r ihr =>
    intro nl hr
    have hg := hr g (by simp)
    have h1 := ih g hg (fieldsL_mem h2 g hg) ind (if r = [] then cl + 1 else 0) D (by have := hdk g hg; omega)
    have h2' := ihr true fun x hx => hr x (List.mem_cons_of_mem _ hx)
    rw [layL]
    simp only [List.length_append, Fm.sizeL, Nat.mul_add]
    have : (if nl = true then 10 :: blanksS ind else []).length ≤ 1 + ind := by split <;> simp [blanksS] <;> omega
    omega
  have k1 := key (l.drop (manyF l)) nl fun g hg => List.mem_of_mem_drop hg
  have k2 := front_len (w := w) (A := 4103 + D) (by omega) l (fun f hm => fieldsL_mem h2 f hm)
  have k3 := sizeL_drop l (manyF l)
  rw [hs, Nat.mul_add, Nat.mul_one, ← k3, Nat.mul_add]
  simp only [List.length_cons, List.length_append, List.length_nil]
  omega
def segK (w : Nat) (l : List Fm) (ind cl i : Nat) : List UInt8 := (if i = 0 then [] else 10 :: blanksS ind) ++ layF w (l.getD i (Fm.mk 0 0 [] [])) ind (if i + 1 = l.length then cl + 1 else 0)
def sufK (w : Nat) (l : List Fm) (ind cl : Nat) : Nat → Nat → List UInt8
 | _, 0 => []
 | i, m + 1 => segK w l ind cl i ++ sufK w l ind cl (i + 1) m
theorem sufK_of (w : Nat) (l : List Fm) (ind cl : Nat) : ∀ (m i : Nat), i + m = l.length → sufK w l ind cl i m = layL w (l.drop i) 0 (!decide (i = 0)) ind cl
 | 0, i, h => by rw [List.drop_of_length_le (by omega), layL, sufK]
 | m + 1, i, h => by
  have hi : i < l.length := by omega
  rw [List.drop_eq_getElem_cons hi, layL, sufK, sufK_of w l ind cl m (i + 1) (by omega)]
  have e1 : (!decide (i + 1 = 0)) = true := by simp
  have e2 : l.getD i (Fm.mk 0 0 [] []) = l[i] := getD_in hi _
  have e3 : (l.drop (i + 1) = []) ↔ i + 1 = l.length := by rw [List.drop_eq_nil_iff]; omega
  unfold segK
  rw [e1, e2, List.append_assoc]
  congr 1
  ·by_cases c : i = 0
   ·subst c; rfl
   ·rw [if_neg c, if_pos (by simp [c])]
  ·congr 2
   by_cases c : i + 1 = l.length
   ·rw [if_pos c, if_pos (e3.2 c)]
   ·rw [if_neg c, if_neg (fun h => c (e3.1 h))]
theorem many_le : ∀ l : List Fm, manyF l ≤ l.length
 | [] => by simp [manyF]
 | [h] => by by_cases hk : h.k = 1 <;> simp [manyF, hk]
 | h :: g :: r => by
  by_cases hk : h.k = 1
  ·by_cases hg : g.k = 3
   ·simp [manyF, hk, hg]
   ·simp [manyF, hk, hg]
  ·simp [manyF, hk]
theorem lay_broken {w : Nat} {f : Fm} {c cl : Nat} (h : ¬ (c + (wr f).length + cl ≤ w ∨ f.k ≠ 3 ∨ f.l = [])) : layF w f c cl = 40 :: frontB f.l ++ (sufK w f.l (if manyF f.l = 0 then c + 1 else c + 2) cl (manyF f.l) (f.l.length - manyF f.l) ++ [41]) := by
 have hm := many_le f.l
 rw [layF_eq, if_neg h, layL_skip, sufK_of _ _ _ _ _ _ (by omega)]
 rfl
theorem headW_val (f : Fm) : G_head f = some (hdW f) := by rw [head_val]; rfl
theorem front_val {f : Fm} (hv : validF f = true) (hb : f.big ≤ 4611686018427387000) (hk : f.k = 3) (hl : f.l ≠ []) : G_front f = some (40 :: frontB f.l, (manyF f.l : Int), ()) := by
 have hkids := fun g hg => valid_kid (f := f) (g := g) hv hg
 have hbk := fun g hg => big_mem (l := f.l) (f := g) hg
 have hbl := big_kids f
 unfold G_front
 rw [Fm.eta_eq, headW_val]
 simp only [Option.bind_some]
 cases hfl : f.l with
 | nil => exact absurd hfl hl
 | cons h r =>
  rw [hfl] at hkids hbk hbl
  have hd : hdW f = if h.k = 1 then h.t else [] := by unfold hdW; rw [if_pos hk, hfl]
  by_cases hk1 : h.k = 1
  ·have hfh := (validF_of (hkids h (by simp))).1
   have htne : h.t ≠ [] := by
    have hf' := hfh
    rw [fieldsF_eq] at hf'
    simp only [Bool.and_eq_true] at hf'
    have := hf'.1
    unfold leafS at this
    rw [if_neg (by rw [hk1]; decide), if_pos hk1] at this
    simp only [wordS, Bool.and_eq_true, decide_eq_true_eq] at this
    exact this.1.1.1
   have hlen := wr_len h hfh
   rw [word_eta hk1 hfh] at hlen
   have hsz := (validF_of (hkids h (by simp))).2
   rw [hd, if_pos hk1, decide_eq_false htne, cond_false]
   cases r with
   | nil =>
    have e1 : manyF [h] = 1 := by simp [manyF, hk1]
    have e2 : frontB [h] = h.t := by simp [frontB, hk1]
    have x1 : (ixOK 1 [h].length || !decide ((([h] : List Fm).length : Int) > 1)) = true := by simp
    have x2 : decide ((([h] : List Fm).length : Int) > 1) = false := by simp
    rw [x1, x2, e1, e2]
    simp only [cond_true, cond_false, List.length_cons, List.length_nil]
    rw [decide_eq_true (by omega)]
    rfl
   | cons g r' =>
    have hfg := (validF_of (hkids g (by simp))).1
    have x0 : ixOK 1 (h :: g :: r').length = true := ixOK_iff.2 (by simp only [List.length_cons]; omega)
    have x2 : decide (((h :: g :: r').length : Int) > 1) = true := by apply decide_eq_true; simp only [List.length_cons]; omega
    have g1 : (h :: g :: r').getD (1 : Int).toNat (Fm.mk 0 0 [] []) = g := rfl
    rw [x0, x2, g1]
    simp only [Bool.true_or, cond_true]
    by_cases hg3 : g.k = 3
    ·have e1 : manyF (h :: g :: r') = 1 := by simp [manyF, hk1, hg3]
     have e2 : frontB (h :: g :: r') = h.t := by simp [frontB, hk1, hg3]
     rw [decide_eq_true hg3, e1, e2]
     simp only [Bool.not_true, cond_false, List.length_cons, List.length_nil]
     rw [decide_eq_true (by omega)]
     rfl
    ·have e1 : manyF (h :: g :: r') = 2 := by simp [manyF, hk1, hg3]
     have e2 : frontB (h :: g :: r') = h.t ++ (32 :: wr g) := by simp [frontB, hk1, hg3]
     have hlg := wr_len g hfg
     have hszg := (validF_of (hkids g (by simp))).2
     have hbg := hbk g (by simp)
     rw [decide_eq_false hg3, e1, e2]
     simp only [Bool.not_false, cond_true, List.length_cons, List.length_nil, List.length_append, Fm.eta_eq, rWrite_val (show g.big ≤ 4611686018427387000 by omega), wrV_of (hkids g (by simp)), Option.bind_some]
     rw [decide_eq_true (by omega), decide_eq_true (by omega), decide_eq_true (by omega)]
     simp
  ·have e1 : manyF (h :: r) = 0 := by simp [manyF, hk1]
   have e2 : frontB (h :: r) = [] := by simp [frontB, hk1]
   rw [hd, if_neg hk1, e1, e2]
   rfl
theorem prtByte_val {c : Int} {b : Bool} {w : Int} {l : List Int} (h : l.length + 1 ≤ 140737488355328) : G_prtByte c (b, (), w, ()) l = some (true, ((true, (), w, ()), l ++ [c], ())) := by
 unfold G_prtByte
 simp only [Option.bind_some, List.length_cons, List.length_nil, Nat.mul_one, Nat.zero_add]
 rw [decide_eq_true h]
 rfl
theorem prtStr_val {x : List UInt8} {b : Bool} {w : Int} {l : List Int} (h : l.length + x.length ≤ 140737488355328) : G_prtStr x (b, (), w, ()) l = some (((x.length : Int), true, ()), ((true, (), w, ()), l ++ intsOf x, ())) := by
 unfold G_prtStr
 simp only [Option.bind_some, List.length_map, Nat.mul_one]
 rw [decide_eq_true h]
 rfl
theorem rep_blanks : ∀ n : Nat, Lib.repeatL [32] n = blanksS n
 | 0 => rfl
 | n + 1 => by rw [Lib.repeatL, rep_blanks n]; rfl
theorem prtLine_val {n : Nat} {b : Bool} {w : Int} {l : List Int} (hn : n ≤ 1000000) (h : l.length + 1 + n ≤ 140737488355328) : G_prtLine (n : Int) (b, (), w, ()) l = some ((), ((true, (), w, ()), l ++ intsOf (10 :: blanksS n), ())) := by
 unfold G_prtLine repF
 rw [prtByte_val (by omega)]
 simp only [Option.bind_some]
 rw [if_pos ⟨rfl, by omega, by omega⟩, Int.toNat_natCast, rep_blanks]
 simp only [Option.bind_some]
 rw [prtStr_val (by simp only [List.length_append, List.length_cons, List.length_nil, blanksS, List.length_replicate]; omega)]
 simp only [Option.bind_some]
 rw [show (10 :: blanksS n : List UInt8) = [10] ++ blanksS n from rfl, ← ints_append, ← List.append_assoc]
 rfl
theorem lleaf_val (f : Fm) : G_lleaf f = some (decide (f.k ≠ 3 ∨ f.l = [])) := by
 unfold G_lleaf
 rw [len0]
 by_cases h : f.k = 3
 ·by_cases h2 : f.l = [] <;> simp [h, h2]
 ·simp [h]
theorem prtForm_up (w : Nat) : ∀ (k : Nat) (f : Fm) (c cl : Nat) (b : Bool) (l : List Int) (D : Nat), validF f = true → f.big ≤ 4611686018427387000 → c + 2 * f.depth ≤ D → D ≤ 1000 → cl + f.depth ≤ 1000 → l.length + (layF w f c cl).length ≤ 100000000000 →
  Up (k < f.big) (G_prtForm k f (c : Int) (cl : Int) (b, (), (w : Int), ()) l) ((), ((true, (), (w : Int), ()), l ++ intsOf (layF w f c cl), ()))
 | 0, f, c, cl, b, l, D, hv, hb, hD, hD2, hcl, hl => .inr ⟨by unfold G_prtForm; rfl, by have := big_pos f; omega⟩
 | k + 1, f, c, cl, b, l, D, hv, hb, hD, hD2, hcl, hl => by
  have hff := (validF_of hv).1
  have hfs := (validF_of hv).2
  have hwl := wr_len f hff
  have hll := lay_len w f hff c cl D hD
  unfold G_prtForm
  rw [Fm.eta_eq, rWrite_val hb, wrV_of hv]
  simp only [Option.bind_some, lleaf_val]
  rw [show IntKind.wrap .i64 ((c : Int) + ((wr f).length : Int)) = ((c + (wr f).length : Nat) : Int) by rw [w64 (by omega) (by omega)]; omega]
  rw [show IntKind.wrap .i64 (((c + (wr f).length : Nat) : Int) + (cl : Int)) = ((c + (wr f).length + cl : Nat) : Int) by rw [w64 (by omega) (by omega)]; omega]
  by_cases hc : c + (wr f).length + cl ≤ w ∨ f.k ≠ 3 ∨ f.l = []
  ·have e0 : cond (decide (f.k ≠ 3 ∨ f.l = [])) true (decide (((c + (wr f).length + cl : Nat) : Int) ≤ (w : Int))) = true := by
    rcases hc with h | h
    ·rw [decide_eq_true (show ((c + (wr f).length + cl : Nat) : Int) ≤ (w : Int) by omega)]; cases decide (f.k ≠ 3 ∨ f.l = []) <;> rfl
    ·rw [decide_eq_true h]; rfl
   have e1 : layF w f c cl = wr f := by rw [layF_eq, if_pos hc]
   rw [e0, cond_true, e1, prtStr_val (by rw [e1] at hll; omega)]
   exact .of rfl
  ·have hbr := lay_broken hc
   simp only [not_or, Decidable.not_not] at hc
   obtain ⟨hc1, hc2, hc3⟩ := hc
   have e0 : cond (decide (f.k ≠ 3 ∨ f.l = [])) true (decide (((c + (wr f).length + cl : Nat) : Int) ≤ (w : Int))) = false := by
    rw [decide_eq_false (show ¬ ((c + (wr f).length + cl : Nat) : Int) ≤ (w : Int) by omega), decide_eq_false (show ¬ (f.k ≠ 3 ∨ f.l = []) from fun h => h.elim (fun h => h hc2) hc3)]
    rfl
   rw [e0, cond_false, front_val hv hb hc2 hc3]
   simp only [Option.bind_some]
   have hm := many_le f.l
   have hbk := big_kids f
   have hlb := length_le_big f.l
   obtain ⟨ind, hind⟩ : ∃ ind, ind = (if manyF f.l = 0 then c + 1 else c + 2) := ⟨_, rfl⟩
   have hind2 : ind ≤ c + 2 := by rw [hind]; split <;> omega
   rw [← hind] at hbr
   have htot : (40 :: frontB f.l).length + (sufK w f.l ind cl (manyF f.l) (f.l.length - manyF f.l)).length + 1 = (layF w f c cl).length := by
    rw [hbr]; simp only [List.length_append, List.length_cons, List.length_nil]; omega
   rw [prtStr_val (by omega)]
   simp only [Option.bind_some]
   have w1 : IntKind.wrap .i64 ((c : Int) + 1) = ((c + 1 : Nat) : Int) := wrapN (by omega)
   have w2 : IntKind.wrap .i64 ((c : Int) + 2) = ((c + 2 : Nat) : Int) := by rw [w64 (by omega) (by omega)]; omega
   refine Up.bind (v := (((), (cl : Int), (f.k, f.n, f.t, f.l, ()), (manyF f.l : Int), (ind : Int), ()), ((true, (), (w : Int), ()), l ++ intsOf (40 :: frontB f.l), ()))) (.of ?_) ?_
   ·rw [w1, w2, hind]
    by_cases c0 : manyF f.l = 0
    ·rw [decide_eq_true (show (manyF f.l : Int) = 0 by omega), if_pos c0, cond_true]
    ·rw [decide_eq_false (show ¬ (manyF f.l : Int) = 0 by omega), if_neg c0, cond_false]
   ·dsimp only
    refine up_inv (fun d => ∃ (i : Nat) (o : List UInt8), d = (((), (cl : Int), (f.k, f.n, f.t, f.l, ()), (ind : Int), (i : Int), ()), ((true, (), (w : Int), ()), l ++ intsOf o, ())) ∧ i ≤ f.l.length ∧ o ++ (sufK w f.l ind cl i (f.l.length - i) ++ [41]) = layF w f c cl) (fun d => f.l.length - d.1.2.2.2.2.1.toNat) ?_
     ⟨manyF f.l, 40 :: frontB f.l, rfl, hm, hbr.symm⟩
    rintro d ⟨i, o, rfl, hi, ho⟩
    have hol : o.length + (sufK w f.l ind cl i (f.l.length - i)).length + 1 = (layF w f c cl).length := by
     rw [← ho]; simp only [List.length_append, List.length_cons, List.length_nil]; omega
    dsimp only
    by_cases hi' : i < f.l.length
    ·have e1 : decide ((i : Int) < (f.l.length : Int)) = true := by simp [hi']
     have e2 : ixOK (i : Int) f.l.length = true := ixOK_iff.2 (by omega)
     have hmem := List.getElem_mem hi'
     have hkv := valid_kid hv hmem
     have hkd := depth_kid hc2 hmem
     have hkb := big_mem hmem
     have hkf := (validF_of hkv).1
     have hkl := lay_len w f.l[i] hkf ind (if i + 1 = f.l.length then cl + 1 else 0) D (by omega)
     have hks : f.l[i].size ≤ f.size := by
      have hs : f.size = 1 + Fm.sizeL f.l := by rw [Fm.size_eq, if_pos hc2]
      have a1 := sizeL_take f.l hi'
      have a2 := sizeL_take_le f.l (i + 1)
      omega
     have esuf : sufK w f.l ind cl i (f.l.length - i) = segK w f.l ind cl i ++ sufK w f.l ind cl (i + 1) (f.l.length - (i + 1)) := by
      rw [show f.l.length - i = (f.l.length - (i + 1)) + 1 by omega]; rfl
     have eseg : segK w f.l ind cl i = (if i = 0 then [] else 10 :: blanksS ind) ++ layF w f.l[i] ind (if i + 1 = f.l.length then cl + 1 else 0) := by unfold segK; rw [getD_in hi']
     have hsegl : (segK w f.l ind cl i).length + (sufK w f.l ind cl (i + 1) (f.l.length - (i + 1))).length = (sufK w f.l ind cl i (f.l.length - i)).length := by rw [esuf, List.length_append]
     have hbl : ((if i = 0 then [] else 10 :: blanksS ind : List UInt8)).length + (layF w f.l[i] ind (if i + 1 = f.l.length then cl + 1 else 0)).length = (segK w f.l ind cl i).length := by rw [eseg, List.length_append]
     rw [e1, cond_true]
     have step1 : ∀ {A : Type} (F : (Unit × Int × (Int × Int × (List UInt8) × (List Fm) × Unit) × Int × Int × Unit) × ((Bool × Unit × Int × Unit) × (List Int) × Unit) → Option A),
       Option.bind (cond (decide ((i : Int) > 0)) (Option.bind (α := (Unit) × ((Bool × Unit × Int × Unit) × (List Int) × Unit)) (G_prtLine (ind : Int) (true, (), (w : Int), ()) (l ++ intsOf o)) fun r16 => (
        some (((), (cl : Int), (f.k, f.n, f.t, f.l, ()), (ind : Int), (i : Int), ()), ((r16.2.1.1, (), r16.2.1.2.2.1, ()), r16.2.2.1, ())))) (some (((), (cl : Int), (f.k, f.n, f.t, f.l, ()), (ind : Int), (i : Int), ()), ((true, (), (w : Int), ()), l ++ intsOf o, ())))) F =
       F (((), (cl : Int), (f.k, f.n, f.t, f.l, ()), (ind : Int), (i : Int), ()), ((true, (), (w : Int), ()), l ++ intsOf (o ++ (if i = 0 then [] else 10 :: blanksS ind)), ())) := by
      intro A F
      by_cases c0 : i = 0
      ·rw [decide_eq_false (show ¬ (i : Int) > 0 by omega), if_pos c0, List.append_nil]; rfl
      ·rw [decide_eq_true (show (i : Int) > 0 by omega), cond_true, if_neg c0, prtLine_val (by omega) (by
        rw [if_neg c0] at hbl
        simp only [List.length_cons, blanksS, List.length_replicate] at hbl
        rw [List.length_append, ints_len]; omega)]
       simp only [Option.bind_some]
       rw [← ints_append, List.append_assoc]
     rw [step1]
     dsimp only
     rw [show IntKind.wrap .i64 ((f.l.length : Int) - 1) = ((f.l.length - 1 : Nat) : Int) by rw [w64 (by omega) (by omega)]; omega]
     have step2 : ∀ {A : Type} (o' : List Int) (F : (Unit × Int × (Int × Int × (List UInt8) × (List Fm) × Unit) × Int × Int × Int × Unit) × ((Bool × Unit × Int × Unit) × (List Int) × Unit) → Option A),
       Option.bind (cond (decide ((i : Int) = ((f.l.length - 1 : Nat) : Int))) (some (((), (cl : Int), (f.k, f.n, f.t, f.l, ()), (ind : Int), (i : Int), IntKind.wrap .i64 ((cl : Int) + 1), ()), ((true, (), (w : Int), ()), o', ()))) (some (((), (cl : Int), (f.k, f.n, f.t, f.l, ()), (ind : Int), (i : Int), 0, ()), ((true, (), (w : Int), ()), o', ())))) F =
       F (((), (cl : Int), (f.k, f.n, f.t, f.l, ()), (ind : Int), (i : Int), (((if i + 1 = f.l.length then cl + 1 else 0 : Nat)) : Int), ()), ((true, (), (w : Int), ()), o', ())) := by
      intro A o' F
      by_cases c0 : i + 1 = f.l.length
      ·rw [decide_eq_true (show (i : Int) = ((f.l.length - 1 : Nat) : Int) by omega), if_pos c0, wrapN (by omega)]; rfl
      ·rw [decide_eq_false (show ¬ (i : Int) = ((f.l.length - 1 : Nat) : Int) by omega), if_neg c0]; rfl
     rw [step2]
     dsimp only
     rw [e2, cond_true, Fm.eta_eq, Int.toNat_natCast, getD_in hi']
     have hprod : (4103 + D) * f.l[i].size ≤ (4103 + D) * f.size := Nat.mul_le_mul_left _ hks
     have hfit : (o ++ (if i = 0 then [] else 10 :: blanksS ind)).length + (layF w f.l[i] ind (if i + 1 = f.l.length then cl + 1 else 0)).length ≤ (layF w f c cl).length := by rw [List.length_append]; omega
     rcases prtForm_up w k f.l[i] ind (if i + 1 = f.l.length then cl + 1 else 0) true (l ++ intsOf (o ++ (if i = 0 then [] else 10 :: blanksS ind))) D hkv (by omega) (by omega) hD2 (by split <;> omega) (by
       rw [List.length_append, ints_len]
       omega) with h | ⟨h, hn⟩
     ·left
      rw [h]
      refine ⟨_, rfl, ⟨i + 1, o ++ segK w f.l ind cl i, ?_, by omega, ?_⟩, ?_⟩
      ·rw [wrapN (show i < 4611686018427387904 by omega), eseg, ← ints_append, ← ints_append, ← ints_append]
       simp only [List.append_assoc]
      ·rw [← ho, esuf]; simp only [List.append_assoc]
      ·rw [wrapN (show i < 4611686018427387904 by omega)]; simp only [Int.toNat_natCast]; omega
     ·right; right
      rw [h]
      exact ⟨rfl, by omega⟩
    ·have hie : i = f.l.length := by omega
     subst hie
     have e1 : decide ((f.l.length : Int) < (f.l.length : Int)) = false := by simp
     right; left
     rw [e1, cond_false]
     refine ⟨_, rfl, .of ?_⟩
     have ez : sufK w f.l ind cl f.l.length (f.l.length - f.l.length) = [] := by rw [Nat.sub_self]; rfl
     rw [ez] at ho hol
     dsimp only
     rw [prtByte_val (by rw [List.length_append, ints_len]; omega), ← ho, List.nil_append, ← ints_append, ← List.append_assoc]
     rfl
theorem prtForm_val {w : Nat} {f : Fm} {b : Bool} {l : List Int} (hv : validF f = true) (hb : f.big ≤ 4611686018427387000) (hl : l.length ≤ 1000000000) : L_prtForm f 0 0 (b, (), (w : Int), ()) l = some ((), ((true, (), (w : Int), ()), l ++ intsOf (layF w f 0 0), ())) := by
 have hd := valid_depth hv
 have hs := (validF_of hv).2
 have h1 : (4103 + 200) * f.size ≤ (4103 + 200) * 20000 := Nat.mul_le_mul_left _ hs
 have h2 := lay_len w f (validF_of hv).1 0 0 200 (by omega)
 exact limF_up (b := f.big) fun k => prtForm_up w k f 0 0 b l 200 hv hb (by omega) (by omega) (by omega) (by omega)
end Go.Ab

set_option maxRecDepth 100000
namespace Go.Ab
open Go Go.RowKit Go.Proofs
def isW (n : Int) : Bool := decide (20 ≤ n ∧ n ≤ 200)
def fmtS (f : Fm) (n : Int) : List UInt8 × Int × Unit := if isW n = true ∧ validF f = true then (layF n.toNat f 0 0, 0, ()) else ([], 1, ())
theorem isWidth_val (n : Int) : G_isWidth n = some (isW n) := by
 unfold G_isWidth isW
 by_cases h1 : 20 ≤ n
 ·by_cases h2 : n ≤ 200
  ·simp [h1, h2]
  ·simp [h1, h2]
 ·simp [h1]
theorem isW_of {n : Int} (h : isW n = true) : ∃ m : Nat, n = m ∧ 20 ≤ m ∧ m ≤ 200 := by
 have := of_decide_eq_true h
 exact ⟨n.toNat, by omega, by omega, by omega⟩
theorem layFormat_val {f : Fm} (n : Int) (hb : f.big ≤ 4611686018427387000) : G_layFormat f n = some (fmtS f n) := by
 unfold G_layFormat fmtS
 rw [isWidth_val]
 simp only [Option.bind_some, Fm.eta_eq]
 cases hw : isW n with
 | false => simp
 | true =>
  obtain ⟨m, rfl, h1, h2⟩ := isW_of hw
  simp only [Bool.not_true, Bool.not_false, cond_true, rvalid_val hb, Option.bind_some]
  cases hv : validF f with
  | false => simp
  | true =>
   rw [if_pos (by simp), Int.toNat_natCast]
   simp only [Bool.not_true, cond_false]
   rw [prtForm_val hv hb (by simp)]
   simp only [Option.bind_some, List.nil_append, bytes_ints, Option.map_some]
end Go.Ab
