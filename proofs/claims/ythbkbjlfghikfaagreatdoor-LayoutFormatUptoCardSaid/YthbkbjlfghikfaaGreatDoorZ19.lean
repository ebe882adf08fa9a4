/-
  LayoutFormat: the card. For every argument of bulk at most 1048576, as the card says.
-/
import Derived.Test.YthbkbjlfghikfaaGreatDoorZ18
import Derived.Test.YthbkbjlfghikfaaGreatDoorZ17
import Derived.Test.YthbkbjlfghikfaaGreatDoorZ12
set_option linter.unusedVariables false
set_option linter.unusedSimpArgs false
set_option maxRecDepth 100000
set_option maxHeartbeats 1000000
namespace Go.Ab
open Go Go.RowKit Go.Proofs
theorem ev_com : ∀ (n : Nat) (d : Int) (near bare : Bool) (r : List UInt8), ∀ e ∈ evS n d near bare r, e.1 = false → ∃ q, e.2 = 59 :: q
 | 0, d, near, bare, r => by intro e he; simp [evS] at he
 | n + 1, d, near, bare, [] => by intro e he; simp [evS] at he
 | n + 1, d, near, bare, c :: r => by
  intro e he hf
  have tr : ∀ (P : Prop) [Decidable P], e ∈ (if P then [(true, c :: r)] else []) → ∃ q, e.2 = 59 :: q := fun P _ hx => by
   by_cases hP : P
   ·rw [if_pos hP, List.mem_singleton] at hx; subst hx; cases hf
   ·rw [if_neg hP] at hx; cases hx
  simp only [evS] at he
  by_cases c1 : c = 59
  ·rw [if_pos c1] at he
   rcases List.mem_append.1 he with he | he
   ·by_cases hP : d = 0 ∧ bare = true
    ·rw [if_pos hP, List.mem_singleton] at he; subst he; subst c1; exact ⟨r, rfl⟩
    ·rw [if_neg hP] at he; cases he
   ·exact ev_com n _ _ _ _ e he hf
  ·rw [if_neg c1] at he
   by_cases c2 : c = 34
   ·rw [if_pos c2] at he
    rcases List.mem_append.1 he with he | he
    ·exact tr _ he
    ·exact ev_com n _ _ _ _ e he hf
   ·rw [if_neg c2] at he
    by_cases c3 : c = 40
    ·rw [if_pos c3] at he
     rcases List.mem_append.1 he with he | he
     ·exact tr _ he
     ·exact ev_com n _ _ _ _ e he hf
    ·rw [if_neg c3] at he
     by_cases c4 : c = 41
     ·rw [if_pos c4] at he; exact ev_com n _ _ _ _ e he hf
     ·rw [if_neg c4] at he
      by_cases c5 : blankB c = true
      ·rw [if_pos c5] at he; exact ev_com n _ _ _ _ e he hf
      ·rw [if_neg c5] at he
       by_cases c6 : near = true
       ·rw [if_pos c6] at he; exact ev_com n _ _ _ _ e he hf
       ·rw [if_neg c6] at he
        rcases List.mem_append.1 he with he | he
        ·exact tr _ he
        ·exact ev_com n _ _ _ _ e he hf
theorem asc_len {E : List (Bool × List UInt8)} (h : E.Pairwise fun a b => b.2.length < a.2.length) : ∀ m : Nat, (∀ e ∈ E, e.2.length ≤ m) → E.length ≤ m + 1 := by
 induction E with
 | nil => intro m _; simp
 | cons e E ih =>
  intro m hm
  rw [List.pairwise_cons] at h
  have he := hm e (by simp)
  by_cases h0 : e.2.length = 0
  ·cases E with
   | nil => simp
   | cons x E => have := h.1 x (by simp); omega
  ·have := ih h.2 (e.2.length - 1) fun x hx => by have := h.1 x hx; omega
   simp only [List.length_cons]; omega
theorem suf_drop {q s : List UInt8} (h : q <:+ s) : s.drop (s.length - q.length) = q ∧ q.length ≤ s.length := by
 obtain ⟨p, rfl⟩ := h
 have : (p ++ q).length - q.length = p.length := by rw [List.length_append]; omega
 rw [this]
 exact ⟨List.drop_left, by rw [List.length_append]; omega⟩
theorem lcomment_val {s q : List UInt8} {r : List UInt8} (hq : q <:+ s) (h59 : q = 59 :: r) (hs : s.length ≤ 1000000) : G_lcomment s ((s.length : Int) - (q.length : Int)) = some (comS q) := by
 obtain ⟨h1, h2⟩ := suf_drop hq
 have e0 : (s.length : Int) - (q.length : Int) = ((s.length - q.length : Nat) : Int) := by omega
 rw [e0]
 unfold G_lcomment G_sCut G_slCut G_slIndex
 have x1 : slOK ((s.length - q.length : Nat) : Int) (s.length : Int) s.length = true := slOK_iff.2 (by omega)
 have t1 : (s.drop ((s.length - q.length : Nat) : Int).toNat).take ((s.length : Int).toNat - ((s.length - q.length : Nat) : Int).toNat) = q := by
  simp only [Int.toNat_natCast]
  rw [h1]; exact List.take_of_length_le (by omega)
 rw [x1, cond_true, t1]
 have y1 : decide ((([10] : List UInt8).length : Int) = 0) = false := by decide
 have y2 : decide (([10] : List UInt8) = q) = false := by apply decide_eq_false; rw [h59]; intro h; have := congrArg List.head? h; simp at this
 have y3 : decide ((([10] : List UInt8).length : Int) = 1) = true := by decide
 have y4 : ixOK 0 ([10] : List UInt8).length = true := by decide
 have y5 : byteAt ([10] : List UInt8) 0 = 10 := by decide
 have hix : indexByteF q 10 = some (Lib.indexByte q 10) := by unfold indexByteF; rw [if_pos (by decide)]; rfl
 rw [y1, y2, y3, y4, y5, hix]
 simp only [cond_true, cond_false, Option.bind_some]
 obtain ⟨z1, z2, z3, z4, z5⟩ := line_end q
 have hcut : ∀ {A : Type} (F : (List UInt8) × (List UInt8) × Bool × Unit → Option A), (∀ X b, F (q.takeWhile n10, X, b, ()) = F (q.takeWhile n10, [], false, ())) → Option.bind (Option.bind (cond (decide (Lib.indexByte q 10 ≥ 0)) (cond (slOK 0 (Lib.indexByte q 10) q.length) (cond (slOK (IntKind.wrap .i64 (Lib.indexByte q 10 + (([10] : List UInt8).length : Int))) (q.length : Int) q.length) (some ((q.drop (0 : Int).toNat).take ((Lib.indexByte q 10).toNat - (0 : Int).toNat), (q.drop (IntKind.wrap .i64 (Lib.indexByte q 10 + (([10] : List UInt8).length : Int))).toNat).take ((q.length : Int).toNat - (IntKind.wrap .i64 (Lib.indexByte q 10 + (([10] : List UInt8).length : Int))).toNat), true, ())) none) none) (some (q, ([] : List UInt8), false, ()))) fun r1 => some (r1.1, r1.2.1, r1.2.2.1, ())) F = F (q.takeWhile n10, [], false, ()) := by
  intro A F hF
  by_cases hn : Lib.indexByte q 10 < 0
  ·rw [decide_eq_false (show ¬ Lib.indexByte q 10 ≥ 0 by omega), cond_false]
   have : q.takeWhile n10 = q := by rw [← z4, z1 hn, List.take_length]
   simp only [Option.bind_some, this]
  ·have hp := z2 (by omega)
   obtain ⟨_, hlt⟩ := (line_drop q).2 (by omega)
   have x2 : slOK 0 (Lib.indexByte q 10) q.length = true := slOK_iff.2 (by omega)
   have w1 : IntKind.wrap .i64 (Lib.indexByte q 10 + (([10] : List UInt8).length : Int)) = Lib.indexByte q 10 + 1 := by
    show IntKind.wrap .i64 (Lib.indexByte q 10 + 1) = _
    rw [w64 (by omega) (by omega)]
   have x3 : slOK (Lib.indexByte q 10 + 1) (q.length : Int) q.length = true := slOK_iff.2 (by omega)
   rw [decide_eq_true (show Lib.indexByte q 10 ≥ 0 by omega), w1, x2, x3]
   simp only [cond_true, Option.bind_some]
   have t2 : (q.drop (0 : Int).toNat).take ((Lib.indexByte q 10).toNat - (0 : Int).toNat) = q.takeWhile n10 := by
    rw [← z4]; simp only [Int.toNat_zero, List.drop_zero, Nat.sub_zero]; congr 1; omega
   rw [t2]
   exact hF _ _
 rw [hcut _ fun X b => rfl]
 dsimp only
 unfold trimRBF
 rw [if_pos ⟨rfl, by omega⟩]
 rfl
theorem next_bind {A L R : Type} {X : Option A} {G : A → Option (Step L R)} {P : A → Prop} {Q : L → Prop} (h : ∃ v, X = some v ∧ P v) (k : ∀ v, P v → ∃ l', G v = some (.next l') ∧ Q l') : ∃ l', Option.bind X G = some (.next l') ∧ Q l' := by
 obtain ⟨v, hv, hp⟩ := h
 rw [hv]; exact k v hp
theorem piece_len : ∀ (E : List (Bool × List UInt8)) (fs : List Fm), (pieceS E fs).length ≤ E.length
 | [], fs => by simp [pieceS]
 | (false, r) :: E, fs => by have := piece_len E fs; simp only [pieceS, List.length_cons]; omega
 | (true, r) :: E, [] => by simp [pieceS]
 | (true, r) :: E, f :: fs => by have := piece_len E fs; simp only [pieceS, List.length_cons]; omega
theorem posC_cons (n : Nat) (b c : Bool) (q : List UInt8) (E : List (Bool × List UInt8)) : posC n b ((c, q) :: E) = (if c = b then [(n : Int) - (q.length : Int)] else []) ++ posC n b E := by
 unfold posC
 cases c <;> cases b <;> simp
theorem posC_head {n : Nat} {b : Bool} : ∀ {E : List (Bool × List UInt8)} {x : Int} {R : List Int}, posC n b E = x :: R → ∃ e ∈ E, x = (n : Int) - (e.2.length : Int)
 | [], x, R, h => by cases h
 | (c, q) :: E, x, R, h => by
  rw [posC_cons] at h
  by_cases hc : c = b
  ·rw [if_pos hc] at h
   cases h
   exact ⟨(c, q), by simp, rfl⟩
  ·rw [if_neg hc, List.nil_append] at h
   obtain ⟨e, he, hx⟩ := posC_head h
   exact ⟨e, by simp [he], hx⟩
theorem posC_forms (n : Nat) : ∀ E : List (Bool × List UInt8), (posC n true E).length = formsE E
 | [] => rfl
 | (c, q) :: E => by
  rw [posC_cons, List.length_append, posC_forms n E]
  cases c <;> simp [formsE]
  omega
theorem read_inv {s : List UInt8} {l : List Fm} (h : readS s = (l, 0, ())) : s.length ≤ 60000 ∧ PF s [] [] = .inr l ∧ ∀ f ∈ l, validF f = true := by
 unfold readS at h
 split at h
 ·cases h
 ·rename_i hl
  split at h
  ·rename_i e he
   have := parse_ne _ s [] [] (Nat.lt_succ_self _)
   cases h
   rw [he] at this
   exact absurd rfl this
  ·rename_i l' hl'
   split at h
   ·rename_i hv
    cases h
    exact ⟨by omega, hl', List.all_eq_true.1 hv⟩
   ·cases h
theorem lpieces_val {s : List UInt8} {l : List Fm} (h : readS s = (l, 0, ())) : G_lpieces s = some (IT true s l, 0, ()) := by
 obtain ⟨hs, hp, hv⟩ := read_inv h
 obtain ⟨fs, h1, h2, h3⟩ := items_same s.length s (Nat.le_refl _) [] l true hp
 rw [List.nil_append] at h1
 subst h1
 have hasc := ev_asc (s.length + 1) 0 false true s (Nat.lt_succ_self _)
 have hsuf := ev_suf (s.length + 1) 0 false true s (Nat.lt_succ_self _)
 have hcom := ev_com (s.length + 1) 0 false true s
 have hE : evS (s.length + 1) 0 false true s = EV 0 false true s := rfl
 rw [hE] at hasc hsuf hcom
 have hlenE : (EV 0 false true s).length ≤ s.length + 1 := asc_len hasc s.length fun e he => (hsuf e he).length_le
 have hpl := piece_len (EV 0 false true s) l
 have hlfs : l.length ≤ (EV 0 false true s).length := by rw [← h3]; exact List.length_filter_le _ _
 refine Up.get ?_
 unfold G_lpieces
 rw [readA_val, h]
 simp only [Option.bind_some]
 rw [lcomments_val (by omega)]
 simp only [decide_true, Bool.not_true, cond_false, Option.bind_some]
 rw [← h2]
 generalize EV 0 false true s = E at hasc hsuf hcom h3 hlenE hpl hlfs
 refine up_inv (N := False) (fun d => ∃ (i : Nat) (E2 : List (Bool × List UInt8)) (F1 : List Int) (out : List (List UInt8 × Fm)), d = ((s, posC s.length false E2, posC s.length true E, (), l, (l.length : Int), (i : Int), ()), (out, ())) ∧ i ≤ l.length ∧ out ++ pieceS E2 (l.drop i) = pieceS E l ∧ formsE E2 = l.length - i ∧ posC s.length true E = F1 ++ posC s.length true E2 ∧ F1.length = i ∧ E2 <:+ E) (fun d => l.length - d.1.2.2.2.2.2.2.1.toNat) ?_
  ⟨0, E, [], [], rfl, Nat.zero_le _, by simp, by omega, rfl, rfl, List.suffix_refl _⟩
 rintro d ⟨i, E2, F1, out, rfl, hi, ho, hf, hF, hF1, hsE⟩
 dsimp only
 by_cases hi' : i < l.length
 ·left
  have e1 : decide ((i : Int) < (l.length : Int)) = true := by simp [hi']
  have e2 : ixOK (i : Int) l.length = true := ixOK_iff.2 (by omega)
  rw [e1, e2]
  simp only [cond_true, Int.toNat_natCast, getD_in hi']
  have hdl : l.drop i = l[i] :: l.drop (i + 1) := List.drop_eq_getElem_cons hi'
  refine next_bind (P := fun v => ∃ (E3 : List (Bool × List UInt8)) (F1' : List Int) (out' : List (List UInt8 × Fm)), v = ((s, posC s.length false E3, posC s.length true E, (), l, (l.length : Int), (i : Int), ()), (out', ())) ∧ out' ++ pieceS E3 (l.drop (i + 1)) = pieceS E l ∧ formsE E3 = l.length - (i + 1) ∧ posC s.length true E = F1' ++ posC s.length true E3 ∧ F1'.length = i + 1 ∧ E3 <:+ E) ?_ ?_
  ·refine yloop (fun d => ∃ (E2 : List (Bool × List UInt8)) (out : List (List UInt8 × Fm)), d = ((s, posC s.length false E2, posC s.length true E, (), (i : Int), (), l, (l.length : Int), (i : Int), ()), (out, (l[i].k, l[i].n, l[i].t, l[i].l, ()), ())) ∧ out ++ pieceS E2 (l.drop i) = pieceS E l ∧ formsE E2 = l.length - i ∧ posC s.length true E = F1 ++ posC s.length true E2 ∧ E2 <:+ E) (fun d => d.1.2.1.length) _ ?_ ⟨E2, out, rfl, ho, hf, hF, hsE⟩
   rintro d ⟨E2, out, rfl, ho, hf, hF, hsE⟩
   dsimp only
   have holen := congrArg List.length ho
   rw [List.length_append] at holen
   have hfi : ((posC s.length true E).getD i 0) = (posC s.length true E2).getD 0 0 := by
    rw [hF, List.getD_eq_getElem?_getD, List.getElem?_append_right (by omega), hF1, Nat.sub_self, ← List.getD_eq_getElem?_getD]
   have hfl : i < (posC s.length true E).length := by rw [hF, List.length_append, posC_forms, hf]; omega
   have x2 : ixOK (i : Int) (posC s.length true E).length = true := ixOK_iff.2 (by omega)
   cases E2 with
   | nil => simp [formsE] at hf; omega
   | cons e E3 =>
    obtain ⟨b, q⟩ := e
    have hmem : (b, q) ∈ E := hsE.mem (by simp)
    have hascE : ((b, q) :: E3).Pairwise fun a b => b.2.length < a.2.length := hasc.sublist hsE.sublist
    rw [List.pairwise_cons] at hascE
    have hE3 : E3 <:+ E := (List.suffix_cons _ _).trans hsE
    simp only [Int.toNat_natCast, Int.toNat_zero, hfi, x2, Bool.true_or, cond_true]
    cases b with
    | false =>
     left
     have ea : posC s.length false ((false, q) :: E3) = ((s.length : Int) - (q.length : Int)) :: posC s.length false E3 := by rw [posC_cons]; rfl
     have ef : posC s.length true ((false, q) :: E3) = posC s.length true E3 := by rw [posC_cons]; rfl
     have hfe : formsE ((false, q) :: E3) = formsE E3 := rfl
     rw [ea, ef]
     have y1 : decide (((((s.length : Int) - (q.length : Int)) :: posC s.length false E3).length : Int) > 0) = true := by apply decide_eq_true; simp only [List.length_cons]; omega
     have y0 : ixOK 0 (((s.length : Int) - (q.length : Int)) :: posC s.length false E3).length = true := ixOK_iff.2 (by simp only [List.length_cons]; omega)
     have hlt : ((s.length : Int) - (q.length : Int)) < (posC s.length true E3).getD 0 0 := by
      cases hx : posC s.length true E3 with
      | nil => have := posC_forms s.length E3; rw [hx] at this; rw [hfe] at hf; simp at this; omega
      | cons x R =>
       obtain ⟨e', he', rfl⟩ := posC_head hx
       have : e'.2.length < q.length := hascE.1 e' he'
       show _ < (s.length : Int) - (e'.2.length : Int)
       omega
     obtain ⟨r', hr'⟩ := hcom (false, q) hmem rfl
     rw [y1, y0]
     simp only [Bool.true_or, cond_true, List.getD_cons_zero]
     rw [decide_eq_true hlt, lcomment_val (hsuf (false, q) hmem) hr' (by omega)]
     simp only [cond_true, Option.bind_some, List.length_cons, List.length_nil]
     rw [decide_eq_true (by omega)]
     have x3 : slOK 1 (((posC s.length false E3).length + 1 : Nat) : Int) ((posC s.length false E3).length + 1) = true := slOK_iff.2 (by omega)
     have t3 : (List.drop (1 : Int).toNat (((s.length : Int) - (q.length : Int)) :: posC s.length false E3)).take ((posC s.length false E3).length + 1 - (1 : Int).toNat) = posC s.length false E3 := by
      show (posC s.length false E3).take _ = _
      exact List.take_of_length_le (by simp)
     rw [x3, cond_true, cond_true, t3]
     refine ⟨_, rfl, ⟨E3, out ++ [(comS q, zF)], rfl, ?_, by rw [← hfe]; exact hf, by rw [hF, ef], hE3⟩, by simp⟩
     rw [← ho, pieceS]; simp
    | true =>
     right
     have ea : posC s.length false ((true, q) :: E3) = posC s.length false E3 := by rw [posC_cons]; rfl
     have ef : posC s.length true ((true, q) :: E3) = ((s.length : Int) - (q.length : Int)) :: posC s.length true E3 := by rw [posC_cons]; rfl
     have hfe : formsE ((true, q) :: E3) = formsE E3 + 1 := by simp [formsE]
     rw [ea, ef]
     simp only [List.getD_cons_zero]
     have hno : cond (decide (((posC s.length false E3).length : Int) > 0)) (decide ((posC s.length false E3).getD 0 0 < (s.length : Int) - (q.length : Int))) false = false := by
      cases hx : posC s.length false E3 with
      | nil => rfl
      | cons x R =>
       obtain ⟨e', he', rfl⟩ := posC_head hx
       have := hascE.1 e' he'
       rw [decide_eq_true (by simp only [List.length_cons]; omega), cond_true]
       apply decide_eq_false
       show ¬ ((s.length : Int) - (e'.2.length : Int) < _)
       have : e'.2.length < q.length := this
       omega
     have y0 : (ixOK 0 (posC s.length false E3).length || !decide (((posC s.length false E3).length : Int) > 0)) = true := by
      by_cases h0 : (posC s.length false E3).length = 0
      ·rw [h0]; rfl
      ·rw [ixOK_iff.2 (by omega)]; rfl
     rw [y0, hno]
     simp only [cond_true, cond_false]
     have hd2 : out ++ [(([] : List UInt8), l[i])] ++ pieceS E3 (l.drop (i + 1)) = pieceS E l := by rw [← ho, hdl, pieceS]; simp
     refine ⟨_, rfl, _, ?_, E3, F1 ++ [(s.length : Int) - (q.length : Int)], out ++ [([], l[i])], rfl, hd2, by omega, by rw [hF, ef]; simp, by simp [hF1], hE3⟩
     simp only [List.length_cons, List.length_nil]
     rw [decide_eq_true (by omega)]
     simp only [cond_true]
     rw [show Fm.mk l[i].k l[i].n l[i].t l[i].l = l[i] from Fm.eta_eq _]
  ·rintro v ⟨E3, F1', out', rfl, q1, q2, q3, q4, q5⟩
   dsimp only
   rw [wrapN (show i < 4611686018427387904 by omega)]
   exact ⟨_, rfl, ⟨i + 1, E3, F1', out', rfl, by omega, q1, q2, q3, q4, q5⟩, by simp only [Int.toNat_natCast]; omega⟩
 ·right; left
  have hie : i = l.length := by omega
  subst hie
  have e1 : decide ((l.length : Int) < (l.length : Int)) = false := by simp
  rw [e1, cond_false]
  refine ⟨_, rfl, ?_⟩
  dsimp only
  have hE2c : ∀ e ∈ E2, e.1 = false := fun e he => by
   cases hx : e.1 with
   | false => rfl
   | true =>
    have h0 : formsE E2 = 0 := by omega
    unfold formsE at h0
    have := List.eq_nil_of_length_eq_zero h0
    have hm : e ∈ E2.filter fun e => e.1 := List.mem_filter.2 ⟨he, hx⟩
    rw [this] at hm; cases hm
  have hpos : posC s.length false E2 = E2.map fun e => (s.length : Int) - (e.2.length : Int) := by
   unfold posC
   rw [List.filter_eq_self.2 fun e he => by rw [hE2c e he]; rfl]
  rw [List.drop_length] at ho
  have hl2 : E2.length ≤ E.length := hsE.length_le
  refine up_inv (N := False) (fun d => ∃ (j : Nat) (out : List (List UInt8 × Fm)), d = ((s, (), posC s.length false E2, ((posC s.length false E2).length : Int), (j : Int), ()), (out, ())) ∧ j ≤ E2.length ∧ out ++ pieceS (E2.drop j) [] = pieceS E l) (fun d => E2.length - d.1.2.2.2.2.1.toNat) ?_ ⟨0, out, rfl, Nat.zero_le _, ho⟩
  rintro d ⟨j, out, rfl, hj, ho⟩
  dsimp only
  have hpl2 : (posC s.length false E2).length = E2.length := by rw [hpos, List.length_map]
  have holen := congrArg List.length ho
  rw [List.length_append] at holen
  rw [hpl2]
  by_cases hj' : j < E2.length
  ·left
   have y1 : decide ((j : Int) < (E2.length : Int)) = true := by simp [hj']
   have y2 : ixOK (j : Int) E2.length = true := ixOK_iff.2 (by omega)
   have hmem : E2[j] ∈ E := hsE.mem (List.getElem_mem hj')
   have hb := hE2c _ (List.getElem_mem hj')
   obtain ⟨r', hr'⟩ := hcom _ hmem hb
   have g1 : (posC s.length false E2).getD j 0 = (s.length : Int) - (E2[j].2.length : Int) := by rw [hpos]; simp [hj']
   rw [y1, y2]
   simp only [cond_true, Int.toNat_natCast, g1]
   rw [lcomment_val (hsuf _ hmem) hr' (by omega)]
   simp only [Option.bind_some, List.length_cons, List.length_nil]
   rw [decide_eq_true (by omega), wrapN (show j < 4611686018427387904 by omega)]
   refine ⟨_, rfl, ⟨j + 1, out ++ [(comS E2[j].2, zF)], rfl, by omega, ?_⟩, by simp only [Int.toNat_natCast]; omega⟩
   rw [← ho, List.drop_eq_getElem_cons hj']
   generalize E2[j] = e at hb ⊢
   obtain ⟨b, q⟩ := e
   have hb : b = false := hb
   subst hb
   rw [pieceS]; simp
  ·right; left
   have y1 : decide ((j : Int) < (E2.length : Int)) = false := by apply decide_eq_false; omega
   rw [y1, cond_false]
   refine ⟨_, rfl, .of ?_⟩
   rw [List.drop_of_length_le (show E2.length ≤ j by omega)] at ho
   rw [← ho]
   simp [pieceS]
theorem lpieces_err {s : List UInt8} (h : (readS s).2.1 ≠ 0) : G_lpieces s = some ([], (readS s).2.1, ()) := by
 unfold G_lpieces
 rw [readA_val]
 simp only [Option.bind_some]
 rw [decide_eq_false h]
 rfl
end Go.Ab

set_option maxRecDepth 100000
set_option maxHeartbeats 1000000
namespace Go.Ab
open Go Go.RowKit Go.Proofs
theorem wrapM1 {i : Nat} (h : i < 4611686018427387904) (h0 : 0 < i) : IntKind.wrap .i64 ((i : Int) - 1) = ((i - 1 : Nat) : Int) := by
 rw [w64 (by omega) (by omega)]; omega
theorem wide_iff (t : List UInt8) : wideB t = decide (0 ≤ Lib.indexByte t 10) := by
 obtain ⟨z1, z2, z3, z4, z5⟩ := line_end t
 have hall : (t.takeWhile n10).all n10 = true := List.all_takeWhile
 by_cases hn : Lib.indexByte t 10 < 0
 ·have h1 : t.takeWhile n10 = t := by rw [← z4, z1 hn, List.take_length]
  rw [h1] at hall
  rw [decide_eq_false (show ¬ 0 ≤ Lib.indexByte t 10 by omega)]
  unfold wideB
  rw [List.any_eq_false]
  intro c hc
  have := List.all_eq_true.1 hall c hc
  simpa [n10] using this
 ·have hp := z2 (by omega)
  obtain ⟨_, hlt⟩ := (line_drop t).2 (by omega)
  rw [decide_eq_true (show 0 ≤ Lib.indexByte t 10 by omega)]
  rcases lineE_cases t with h | ⟨q, h⟩
  ·rw [h] at z3
   have := congrArg List.length z3
   rw [List.length_drop, List.length_nil] at this
   omega
  ·unfold wideB
   rw [List.any_eq_true]
   refine ⟨10, ?_, rfl⟩
   have : (10 : UInt8) ∈ lineE t := by rw [h]; simp
   exact (List.dropWhile_suffix n10).mem this
theorem sContains_val (t : List UInt8) : G_sContains t [10] = some (wideB t) := by
 unfold G_sContains G_sIndex G_slIndex
 have y1 : decide ((([10] : List UInt8).length : Int) = 0) = false := by decide
 have y3 : decide ((([10] : List UInt8).length : Int) = 1) = true := by decide
 have y4 : ixOK 0 ([10] : List UInt8).length = true := by decide
 have y5 : byteAt ([10] : List UInt8) 0 = 10 := by decide
 have hix : indexByteF t 10 = some (Lib.indexByte t 10) := by unfold indexByteF; rw [if_pos (by decide)]; rfl
 rw [y1, y3, y4, y5, hix]
 by_cases h : ([10] : List UInt8) = t
 ·subst h; rfl
 ·rw [decide_eq_false h]
  simp only [cond_true, cond_false, Option.bind_some]
  rw [wide_iff]
def pfAt (P : List (List UInt8 × Fm)) (i : Nat) : Bool := decide (0 < i) && decide ((P.getD (i - 1) (([] : List UInt8), Fm.mk 0 0 [] [])).1 = [])
theorem pfAt_succ {P : List (List UInt8 × Fm)} {i : Nat} (h : i < P.length) : pfAt P (i + 1) = decide (P[i].1 = []) := by
 unfold pfAt
 rw [Nat.add_sub_cancel, getD_in h]
 simp
def okJ (p : List UInt8 × Fm) : Prop := (p.1 = [] ∧ validF p.2 = true) ∨ (p.1 ≠ [] ∧ p.1.length ≤ 60000)
theorem comS_len (r : List UInt8) : (comS r).length ≤ r.length := by
 unfold comS trimR
 obtain ⟨j, a, b, c⟩ := trimRi_take wsB (r.takeWhile n10) (r.takeWhile n10).length (Nat.le_refl _)
 rw [b, List.length_take]
 have := (List.takeWhile_prefix n10 (l := r)).length_le
 omega
theorem it_okJ : ∀ (n : Nat) (bare : Bool) (r : List UInt8) (fs : List Fm), r.length ≤ 60000 → (∀ f ∈ fs, validF f = true) → ∀ p ∈ itS n bare r fs, okJ p
 | 0, _, _, _, _, _ => by intro p hp; simp [itS] at hp
 | n + 1, _, [], _, _, _ => by intro p hp; simp [itS] at hp
 | n + 1, bare, c :: r, fs, hr, h => by
  intro p hp
  simp only [List.length_cons] at hr
  simp only [itS] at hp
  by_cases c1 : c = 10
  ·rw [if_pos c1] at hp; exact it_okJ n _ _ _ (by omega) h p hp
  ·rw [if_neg c1] at hp
   by_cases c2 : blankB c = true
   ·rw [if_pos c2] at hp; exact it_okJ n _ _ _ (by omega) h p hp
   ·rw [if_neg c2] at hp
    by_cases c3 : c = 59
    ·rw [if_pos c3] at hp
     rcases List.mem_append.1 hp with hp | hp
     ·by_cases hb : bare = true
      ·rw [if_pos hb, List.mem_singleton] at hp
       subst hp; subst c3
       obtain ⟨b, h1, h2, h3⟩ := comS_ok r
       have := comS_len (59 :: r)
       simp only [List.length_cons] at this
       exact .inr ⟨by show comS (59 :: r) ≠ []; rw [h1]; simp, by show (comS (59 :: r)).length ≤ _; omega⟩
      ·rw [if_neg hb] at hp; cases hp
     ·have := lineE_lt c1 r
      exact it_okJ n _ _ _ (by omega) h p hp
    ·rw [if_neg c3] at hp
     cases fs with
     | nil => cases hp
     | cons f fs' =>
      have := PA0_lt (c := c) (r := r) (by simpa using c2) c3
      rcases List.mem_cons.1 hp with rfl | hp
      ·exact .inl ⟨rfl, h f (by simp)⟩
      ·exact it_okJ n _ _ _ (by omega) (fun g hg => h g (List.mem_cons_of_mem _ hg)) p hp
theorem lay_len0 (w : Nat) {f : Fm} (hv : validF f = true) : (layF w f 0 0).length ≤ 86060000 := by
 have hd := valid_depth hv
 have hs := (validF_of hv).2
 have h1 : (4103 + 200) * f.size ≤ (4103 + 200) * 20000 := Nat.mul_le_mul_left _ hs
 have h2 := lay_len w f (validF_of hv).1 0 0 200 (by omega)
 omega
theorem outS_len (w : Nat) : ∀ (I : List (List UInt8 × Fm)) (pf lw : Bool), (∀ p ∈ I, okJ p) → (outS w pf lw I).length ≤ I.length * 90000000
 | [], _, _, _ => by simp [outS]
 | (b, f) :: I, pf, lw, h => by
  have ih := fun pf lw => outS_len w I pf lw fun p hp => h p (List.mem_cons_of_mem _ hp)
  have hl : ∀ (P : Prop) [Decidable P], (if P then [10] else [] : List UInt8).length ≤ 1 := fun P _ => by split <;> simp
  rw [outS]
  rcases h (b, f) (by simp) with ⟨h1, h2⟩ | ⟨h1, h2⟩
  ·have h1 : b = [] := h1
   have := lay_len0 w (f := f) h2
   have i1 := ih true (wideB (layF w f 0 0))
   have := hl (pf = true ∧ lw = true ∧ wideB (layF w f 0 0) = true)
   rw [if_pos h1]
   simp only [List.length_append, List.length_cons, Nat.add_mul]
   omega
  ·have h1 : b ≠ [] := h1
   have h2 : b.length ≤ 60000 := h2
   have i1 := ih false lw
   have := hl (pf = true)
   rw [if_neg h1]
   simp only [List.length_append, List.length_cons, Nat.add_mul]
   omega
theorem it_len : ∀ (n : Nat) (bare : Bool) (r : List UInt8) (fs : List Fm), (itS n bare r fs).length ≤ r.length
 | 0, _, _, _ => by simp [itS]
 | n + 1, _, [], _ => by simp [itS]
 | n + 1, bare, c :: r, fs => by
  simp only [itS, List.length_cons]
  by_cases c1 : c = 10
  ·rw [if_pos c1]; have := it_len n true r fs; omega
  ·rw [if_neg c1]
   by_cases c2 : blankB c = true
   ·rw [if_pos c2]; have := it_len n bare r fs; omega
   ·rw [if_neg c2]
    by_cases c3 : c = 59
    ·rw [if_pos c3]
     have h1 := it_len n bare (lineE (c :: r)) fs
     have h2 := lineE_lt c1 r
     have h3 : (if bare = true then [(comS (c :: r), zF)] else []).length ≤ 1 := by split <;> simp
     rw [List.length_append]; omega
    ·rw [if_neg c3]
     cases fs with
     | nil => simp
     | cons f fs' =>
      have h1 := it_len n false (PA 0 (c :: r)) fs'
      have h2 := PA0_lt (c := c) (r := r) (by simpa using c2) c3
      simp only [List.length_cons]; omega
def textV (s : List UInt8) (n : Int) : List UInt8 × Int × Unit :=
 if isW n = true then (if (readS s).2.1 = 0 then (outS n.toNat false false (IT true s (readS s).1), 0, ()) else ([], (readS s).2.1, ())) else ([], 1, ())
theorem layText_val (s : List UInt8) (n : Int) : G_layText s n = some (textV s n) := by
 unfold G_layText textV
 rw [isWidth_val]
 simp only [Option.bind_some]
 cases hw : isW n with
 | false => rfl
 | true =>
  obtain ⟨w, rfl, hw1, hw2⟩ := isW_of hw
  rw [if_pos rfl]
  by_cases he : (readS s).2.1 = 0
  ·have hr : readS s = ((readS s).1, 0, ()) := by
    generalize readS s = x at he
    obtain ⟨a, b, c⟩ := x
    have he : b = 0 := he
    rw [he]
   obtain ⟨hs, hp, hv⟩ := read_inv hr
   rw [if_pos he, lpieces_val hr]
   have hJ := it_okJ (s.length + 1) true s (readS s).1 hs hv
   have hIl := it_len (s.length + 1) true s (readS s).1
   have hb : ∀ f ∈ (readS s).1, f.big ≤ 120000 := (parse_ok hs hp).2.1
   have hbI : ∀ p ∈ itS (s.length + 1) true s (readS s).1, p.2.big ≤ 120000 := by
    have key : ∀ (n : Nat) (bare : Bool) (r : List UInt8) (fs : List Fm), (∀ f ∈ fs, f.big ≤ 120000) → ∀ p ∈ itS n bare r fs, p.2.big ≤ 120000 := by
     intro n
     induction n with
     | zero => intro bare r fs _ p hp; simp [itS] at hp
     | succ n ih =>
      intro bare r fs hf p hp
      cases r with
      | nil => simp [itS] at hp
      | cons c r =>
       simp only [itS] at hp
       by_cases c1 : c = 10
       ·rw [if_pos c1] at hp; exact ih _ _ _ hf p hp
       ·rw [if_neg c1] at hp
        by_cases c2 : blankB c = true
        ·rw [if_pos c2] at hp; exact ih _ _ _ hf p hp
        ·rw [if_neg c2] at hp
         by_cases c3 : c = 59
         ·rw [if_pos c3] at hp
          rcases List.mem_append.1 hp with hp | hp
          ·by_cases hb : bare = true
           ·rw [if_pos hb, List.mem_singleton] at hp
            subst hp; simp [zF, Fm.big, Fm.bigL]
           ·rw [if_neg hb] at hp; cases hp
          ·exact ih _ _ _ hf p hp
         ·rw [if_neg c3] at hp
          cases fs with
          | nil => cases hp
          | cons f fs' =>
           rcases List.mem_cons.1 hp with rfl | hp
           ·exact hf f (by simp)
           ·exact ih _ _ _ (fun g hg => hf g (List.mem_cons_of_mem _ hg)) p hp
    exact key _ _ _ _ hb
   have hI : itS (s.length + 1) true s (readS s).1 = IT true s (readS s).1 := rfl
   rw [hI] at hJ hIl hbI
   generalize IT true s (readS s).1 = P at hJ hIl hbI
   simp only [Option.bind_some, decide_true, Bool.not_true, cond_false, Int.toNat_natCast]
   have htot := outS_len w P false false hJ
   have htot2 : P.length * 90000000 ≤ 60000 * 90000000 := Nat.mul_le_mul_right _ (by omega)
   refine Up.get ?_
   refine up_inv (N := False) (fun d => ∃ (i : Nat) (b lw : Bool) (o : List UInt8), d = (((w : Int), P, (), lw, P, (P.length : Int), (i : Int), ()), ((b, (), ()), intsOf o, ())) ∧ i ≤ P.length ∧ o ++ outS w (pfAt P i) lw (P.drop i) = outS w false false P) (fun d => P.length - d.1.2.2.2.2.2.2.1.toNat) ?_ ⟨0, false, false, [], rfl, Nat.zero_le _, rfl⟩
   rintro d ⟨i, b, lw, o, rfl, hi, ho⟩
   have holen := congrArg List.length ho
   rw [List.length_append] at holen
   dsimp only
   by_cases hi' : i < P.length
   ·left
    have e1 : decide ((i : Int) < (P.length : Int)) = true := by simp [hi']
    have e2 : ixOK (i : Int) P.length = true := ixOK_iff.2 (by omega)
    have e3 : (ixOK (IntKind.wrap .i64 ((i : Int) - 1)) P.length || !decide ((i : Int) > 0)) = true := by
     by_cases h0 : i = 0
     ·subst h0; simp
     ·rw [wrapM1 (by omega) (by omega), ixOK_iff.2 (by omega)]; rfl
    have hsp : cond (decide ((i : Int) > 0)) (!(cond (decide ((i : Int) > 0)) (!decide ((P.getD (IntKind.wrap .i64 ((i : Int) - 1)).toNat (([] : List UInt8), (Fm.mk 0 0 [] []))).1 = [])) false)) false = pfAt P i := by
     unfold pfAt
     by_cases h0 : i = 0
     ·subst h0; rfl
     ·rw [decide_eq_true (show (i : Int) > 0 by omega), decide_eq_true (show 0 < i by omega), wrapM1 (by omega) (by omega), Int.toNat_natCast]
      simp
    have hdr : P.drop i = P[i] :: P.drop (i + 1) := List.drop_eq_getElem_cons hi'
    have hmem := List.getElem_mem hi'
    have hJi := hJ _ hmem
    have hbi := hbI _ hmem
    rw [e1, e2, e3]
    simp only [cond_true, Int.toNat_natCast, getD_in hi']
    have hpf := pfAt_succ hi'
    generalize P[i] = p at hdr hJi hbi hpf
    obtain ⟨pb, pf_⟩ := p
    rw [hdr, outS] at ho holen
    have fin : ∀ (o' : List UInt8) (lw' : Bool) (X : Option ((Int × (List ((List UInt8) × Fm)) × Unit × Bool × (List ((List UInt8) × Fm)) × Int × Int × Unit) × ((Bool × Unit × Unit) × (List Int) × Unit))), X = some (((w : Int), P, (), lw', P, (P.length : Int), (i : Int), ()), ((true, (), ()), intsOf o', ())) → o' ++ outS w (pfAt P (i + 1)) lw' (P.drop (i + 1)) = outS w false false P →
      ∃ l', Option.bind X (fun d39 : (Int × (List ((List UInt8) × Fm)) × Unit × Bool × (List ((List UInt8) × Fm)) × Int × Int × Unit) × ((Bool × Unit × Unit) × (List Int) × Unit) => some (Step.next (R := (Unit × Unit) × ((Bool × Unit × Unit) × (List Int) × Unit)) ((d39.1.1, d39.1.2.1, (), d39.1.2.2.2.1, d39.1.2.2.2.2.1, d39.1.2.2.2.2.2.1, IntKind.wrap .i64 (d39.1.2.2.2.2.2.2.1 + 1), ()), ((d39.2.1.1, (), ()), d39.2.2.1, ())))) = some (.next l') ∧
       (∃ (i : Nat) (b lw : Bool) (o : List UInt8), l' = (((w : Int), P, (), lw, P, (P.length : Int), (i : Int), ()), ((b, (), ()), intsOf o, ())) ∧ i ≤ P.length ∧ o ++ outS w (pfAt P i) lw (P.drop i) = outS w false false P) ∧ P.length - l'.1.2.2.2.2.2.2.1.toNat < P.length - (i : Int).toNat := by
     intro o' lw' X hX ho'
     rw [hX]
     refine ⟨_, rfl, ⟨i + 1, true, lw', o', ?_, by omega, ho'⟩, ?_⟩
     ·dsimp only; rw [wrapN (show i < 4611686018427387904 by omega)]
     ·dsimp only; rw [wrapN (show i < 4611686018427387904 by omega)]; simp only [Int.toNat_natCast]; omega
    by_cases hpb : pb = []
    ·
     subst hpb
     have hvf : validF pf_ = true := by
      rcases hJi with h | h
      ·exact h.2
      ·exact absurd rfl h.1
     rw [if_pos rfl] at ho holen
     have hfmt : G_layFormat pf_ (w : Int) = some (layF w pf_ 0 0, 0, ()) := by
      rw [layFormat_val _ (by have : pf_.big ≤ 120000 := hbi; omega)]
      unfold fmtS
      rw [if_pos ⟨hw, hvf⟩, Int.toNat_natCast]
     rw [decide_eq_true rfl] at hpf
     refine fin (o ++ ((if pfAt P i = true ∧ lw = true ∧ wideB (layF w pf_ 0 0) = true then [10] else []) ++ (layF w pf_ 0 0 ++ [10]))) (wideB (layF w pf_ 0 0)) _ ?_ ?_
     ·simp only [decide_true, Bool.not_true, cond_false, Fm.eta_eq, hfmt, Option.bind_some, sContains_val, hsp]
      simp only [List.length_append, List.length_cons] at holen
      have step : ∀ (o' : List UInt8) (b' : Bool), o'.length + (layF w pf_ 0 0).length + 1 ≤ 60000 * 90000000 →
        cond (decide ((layF w pf_ 0 0).length + ([10] : List Nat).length ≤ 9223372036854775807)) (Option.bind (α := (Int × Bool × Unit) × ((Bool × Unit × Unit) × (List Int) × Unit)) (G_bldStr (layF w pf_ 0 0 ++ ([10])) (b', (), ()) (intsOf o')) fun r38 => (
         some ((((w : Int), P, (), wideB (layF w pf_ 0 0), P, (P.length : Int), (i : Int), ()), ((r38.2.1.1, (), ()), r38.2.2.1, ())) : (Int × (List ((List UInt8) × Fm)) × Unit × Bool × (List ((List UInt8) × Fm)) × Int × Int × Unit) × ((Bool × Unit × Unit) × (List Int) × Unit)))) none =
        some (((w : Int), P, (), wideB (layF w pf_ 0 0), P, (P.length : Int), (i : Int), ()), ((true, (), ()), intsOf (o' ++ (layF w pf_ 0 0 ++ [10])), ())) := by
       intro o' b' hl
       simp only [List.length_cons, List.length_nil]
       rw [decide_eq_true (by omega), cond_true, bldStr_val (by rw [ints_len, List.length_append, List.length_cons, List.length_nil]; omega)]
       simp only [Option.bind_some]
       rw [ints_append]
      by_cases hnl : pfAt P i = true ∧ lw = true ∧ wideB (layF w pf_ 0 0) = true
      ·obtain ⟨n1, n2, n3⟩ := hnl
       rw [if_pos ⟨n1, n2, n3⟩] at holen ⊢
       simp only [List.length_cons, List.length_nil] at holen
       rw [n1, n2]
       rw [n3] at step ⊢
       simp only [cond_true]
       rw [bldByte_val (by rw [ints_len]; omega)]
       simp only [Option.bind_some]
       have e10 : intsOf o ++ [10] = intsOf (o ++ [10]) := by rw [← ints_append]; rfl
       rw [e10, step (o ++ [10]) true (by simp only [List.length_append, List.length_cons, List.length_nil]; omega)]
       simp
      ·rw [if_neg hnl] at holen ⊢
       have hcn : cond (cond (pfAt P i) lw false) (wideB (layF w pf_ 0 0)) false = false := by
        cases h1 : pfAt P i with
        | false => rfl
        | true =>
         cases h2 : lw with
         | false => rfl
         | true =>
          cases h3 : wideB (layF w pf_ 0 0) with
          | false => rfl
          | true => exact absurd ⟨h1, h2, h3⟩ hnl
       rw [hcn]
       simp only [cond_false, Option.bind_some]
       rw [step o b (by simp only [List.length_nil] at holen; omega), List.nil_append]
     ·rw [← ho, hpf]; simp
    ·
     rw [if_neg hpb] at ho holen
     rw [decide_eq_false hpb] at hpf
     refine fin (o ++ ((if pfAt P i = true then [10] else []) ++ (pb ++ [10]))) lw _ ?_ ?_
     ·have hpl : pb.length ≤ 60000 := by
       rcases hJi with h | h
       ·exact absurd h.1 hpb
       ·exact h.2
      simp only [decide_eq_false hpb, Bool.not_false, cond_true, hsp]
      have step : ∀ (o' : List UInt8) (b' : Bool), o'.length + pb.length + 1 ≤ 60000 * 90000000 →
        cond (decide (pb.length + ([10] : List Nat).length ≤ 9223372036854775807)) (Option.bind (α := (Int × Bool × Unit) × ((Bool × Unit × Unit) × (List Int) × Unit)) (G_bldStr (pb ++ ([10])) (b', (), ()) (intsOf o')) fun r38 => (
         some ((((w : Int), P, (), lw, P, (P.length : Int), (i : Int), ()), ((r38.2.1.1, (), ()), r38.2.2.1, ())) : (Int × (List ((List UInt8) × Fm)) × Unit × Bool × (List ((List UInt8) × Fm)) × Int × Int × Unit) × ((Bool × Unit × Unit) × (List Int) × Unit)))) none =
        some (((w : Int), P, (), lw, P, (P.length : Int), (i : Int), ()), ((true, (), ()), intsOf (o' ++ (pb ++ [10])), ())) := by
       intro o' b' hl
       simp only [List.length_cons, List.length_nil]
       rw [decide_eq_true (by omega), cond_true, bldStr_val (by rw [ints_len, List.length_append, List.length_cons, List.length_nil]; omega)]
       simp only [Option.bind_some]
       rw [ints_append]
      simp only [List.length_append, List.length_cons] at holen
      cases hpfi : pfAt P i with
      | true =>
       rw [hpfi, if_pos rfl] at holen
       simp only [List.length_cons, List.length_nil] at holen
       simp only [cond_true]
       rw [bldByte_val (by rw [ints_len]; omega)]
       simp only [Option.bind_some]
       have e10 : intsOf o ++ [10] = intsOf (o ++ [10]) := by rw [← ints_append]; rfl
       rw [e10, step (o ++ [10]) true (by simp only [List.length_append, List.length_cons, List.length_nil]; omega)]
       simp
      | false =>
       rw [hpfi, if_neg (by decide)] at holen
       simp only [List.length_nil] at holen
       simp only [cond_false, Option.bind_some]
       rw [step o b (by omega)]
       simp
     ·rw [← ho, hpf]; simp
   ·right; left
    have e1 : decide ((i : Int) < (P.length : Int)) = false := by apply decide_eq_false; omega
    rw [e1, cond_false]
    refine ⟨_, rfl, .of ?_⟩
    rw [List.drop_of_length_le (show P.length ≤ i by omega), outS, List.append_nil] at ho
    simp only [bytes_ints, Option.map_some, Option.bind_some]
    rw [ho]
  ·rw [if_neg he, lpieces_err he]
   simp only [Option.bind_some, decide_eq_false he, Bool.not_true, Bool.not_false, cond_true, cond_false]
end Go.Ab

set_option maxRecDepth 100000
namespace Go.Ab
open Go Go.RowKit Go.Proofs
end Go.Ab

set_option maxRecDepth 100000
set_option maxHeartbeats 1000000
namespace Go.Ab
open Go Go.RowKit Go.Proofs
theorem ex_read : readS [40, 102, 32, 32, 32, 49, 41] = ([.mk 3 0 [] [.mk 1 0 [102] [], .mk 0 1 [] []]], 0, ()) := by kernel_rfl
theorem ex_items (fs : List Fm) (f : Fm) : IT true [40, 102, 32, 32, 32, 49, 41] [f] = [([], f)] := by
 rw [IT_cons, if_neg (by decide), if_neg (by decide), if_neg (by decide)]
 have : PA 0 [40, 102, 32, 32, 32, 49, 41] = [] := by decide +kernel
 simp only [this, IT_nil]
theorem ex_wr : wr (.mk 3 0 [] [.mk 1 0 [102] [], .mk 0 1 [] []]) = [40, 102, 32, 49, 41] := by
 have : Lib.itoa 1 = [49] := by rw [Lib.itoa, if_neg (by decide)]; exact Lib.decDigits_one (by decide)
 simp [wr, wrL, this]
theorem sane02_val : G_sane02 = some true := by
 unfold G_sane02
 rw [layText_val]
 have e : textV [40, 102, 32, 32, 32, 49, 41] 40 = ([40, 102, 32, 49, 41, 10], 0, ()) := by
  unfold textV
  rw [if_pos (by decide), ex_read]
  simp only [if_true, ex_items []]
  have hl : layF (40 : Int).toNat (.mk 3 0 [] [.mk 1 0 [102] [], .mk 0 1 [] []]) 0 0 = [40, 102, 32, 49, 41] := by
   rw [layF_eq, ex_wr, if_pos (by left; decide)]
  rw [outS, if_pos rfl, outS, hl]
  rfl
 rw [e]
 simp
theorem lawFormat_val {f : Fm} (n : Int) (hb : f.big ≤ 4611686018427387000) : G_lawFormat f n = some true := by
 unfold G_lawFormat
 simp only [Fm.eta_eq, layFormat_val n hb, rFormat_val n hb, Option.bind_some, decide_true, cond_true, sane02_val]
theorem format_call {f : Fm} {n : Int} (hb : f.big ≤ 4611686018427387000) : PCall CX 3 [.agg (E.cells .form f), .int .i64 n] (· = .ret (.bool true)) :=
 S_lawFormat_ok (f, n, ()) true (lawFormat_val n hb)
end Go.Ab

set_option maxRecDepth 100000
namespace Go.Proofs.YthbkbjlfghikfaaGreatDoor.layoutFormat
open Go Go.ChangeShapes Go.WideShapes Go.ChangeAt Go.RowKit Go.Ab
theorem own : ownKnob Tryz.prog.godebug = none := by kernel_rfl
def flat {H : Type} : Nat → DataW H → List Value
 | 0, _ => []
 | n + 1, d => match d with
  | .lit (.int k x) => [.int k x]
  | .agg l => l.flatMap (flat n)
  | _ => []
noncomputable def lay (W : World) (name : String) (d : DataW Unit) : World :=
 match Tryz.prog.globalNamed name with
 | some g => match d with
  | .iface _ (.ptr (.agg [.lit (.string bs)])) => { W with heap := (W.heap.push (.cells #[.string ⟨bs.toArray⟩] 241 (0, 0))).modify g fun
   | .cells _ t fz => .cells #[.iface 239 (.pointer (some ⟨W.heap.size, 0, none⟩))] t fz
   | o => o }
  | d => { W with heap := W.heap.modify g fun
   | .cells _ t fz => .cells (flat 4 d).toArray t fz
   | o => o }
 | none => W
noncomputable def laidWorld (os : Os) : World :=
 lay (lay (lay (lay (lay (lay (lay (World.holding Tryz.prog os ⟨#[], #[], []⟩) "math/bits.deBruijn32tab" Rows.laid_math_bits_deBruijn32tab) "math/bits.deBruijn64tab" Rows.laid_math_bits_deBruijn64tab) "internal/strconv.uint64pow10" Rows.laid_internal_strconv_uint64pow10) "unicode/utf8.acceptRanges" Rows.laid_unicode_utf8_acceptRanges) "strconv.ErrRange" Rows.laid_strconv_ErrRange) "strconv.ErrSyntax" Rows.laid_strconv_ErrSyntax) "unicode/utf8.first" Rows.laid_unicode_utf8_first
theorem laid_met (os : Os) : laidMet Tryz.prog Rows.layoutFormatUptoRow.laid ((laidWorld os).forCall (fun _ _ => 0) ⟨#[], #[(.agg #[.int .i64 0, .int .i64 0, .string ⟨#[]⟩, .slice none 0 0]), (.int .i64 0)], []⟩).memory :=
 laidMet_of_run' 8 (by kernel_rfl) (by kernel_rfl)
theorem reads (os : Os) {H : Type} (enc : TypeId × Value → H) : ∃ places, DataW.whole enc Tryz.prog ((laidWorld os).forCall (fun _ _ => 0) ⟨#[], #[(.agg #[.int .i64 0, .int .i64 0, .string ⟨#[]⟩, .slice none 0 0]), (.int .i64 0)], []⟩).memory Tryz.f3.params.toList Rows.layoutFormatSpec.vars false (#[(.agg #[.int .i64 0, .int .i64 0, .string ⟨#[]⟩, .slice none 0 0]), (.int .i64 0)] : Array Value).toList 8 = some ([(.agg [.lit (.int .i64 0), .lit (.int .i64 0), .lit (.string []), .nil]), (.lit (.int .i64 0))], [], places) :=
 ⟨[], by kernel_rfl⟩
theorem spec_fn (H : Type) (ds : List (DataW H)) (h : ds.length = Tryz.f3.params.toList.length) : Rows.layoutFormatSpec.fn H ds = { results := [.lit (.bool true)], args := ds } := by
 rw [Tryz.params3] at h
 rcases ds with _ | ⟨d0, _ | ⟨d1, _ | ⟨e, ds⟩⟩⟩
 all_goals first | (simp at h; done) | rfl
theorem contract (H : Type) (enc : TypeId × Value → H) (W : World) (base : Nat) (args : Array Value) (ds gs : List (DataW H)) (before : List MemPlace)
  (hval : ∀ (j : Nat) t v, Tryz.f3.params[j]? = some t → args[j]? = some v → Value.okWide Tryz.prog W .any base t v)
  (hW : DataW.Whole enc Tryz.prog Tryz.f3.params.toList Rows.layoutFormatSpec.vars false W args.toList ds gs before) (hb : Rows.uptoSmall H (ds ++ gs) = true) (hE : ErrW W) :
  Calls Tryz.prog 3 args W fun e W' => ∃ v, e = .returned v ∧ Rows.layoutFormatSpec.post enc Tryz.prog Tryz.f3 false true false false W args v W' :=
 contract_of (es := [.form, (.int .i64)]) (n := 12) (tb := 4) rfl spec_fn (by kernel_rfl) (by kernel_rfl) (by kernel_rfl) (by kernel_rfl) (by kernel_rfl) (by kernel_rfl) (fun x hb _ => format_call (f := x.1) (n := x.2.1) (by simp only [bigA, bigE] at hb; omega)) H enc W base args ds gs before hval hW hb hE
theorem lifted (os : Os) (started : os.Started) (H : Type) (enc : TypeId × Value → H) (F : Stop.Interp) :
  ReturnsInHanded {} Tryz.checked os 3 .any ((Rows.OpenSpec.upto Rows.layoutFormatSpec).preRow enc Tryz.prog Tryz.f3 Rows.layoutFormatUptoRow.domain false Rows.layoutFormatUptoRow.laid) (((Rows.OpenSpec.upto Rows.layoutFormatSpec).at F).post enc Tryz.prog Tryz.f3 false true false false) := by
 obtain ⟨places, hx⟩ := reads os enc
 refine returnsInHanded_of_row (C := Tryz.checked) (s := Rows.OpenSpec.upto Rows.layoutFormatSpec) own started (by kernel_rfl) Tryz.func3
  (witness_row_at (enc := enc) (C := Tryz.checked) false (laidWorld os) #[(.agg #[.int .i64 0, .int .i64 0, .string ⟨#[]⟩, .slice none 0 0]), (.int .i64 0)] rfl (by kernel_rfl) (by kernel_rfl) (by kernel_rfl)
   (OpenSpec.preRow_of_cond 8 hx (by kernel_rfl) (fun k hk => by cases hk; kernel_rfl) (by kernel_rfl) (laid_met os))) ?_
 intro W base args ds gs before hval hW g1 g2 g3 hL g4 g5
 exact contract H enc W base args ds gs before hval hW (g2 _ rfl) (errW_of hL (show ("strconv.ErrRange", Rows.laid_strconv_ErrRange) ∈ Rows.layoutFormatUptoRow.laid from by simp [Rows.layoutFormatUptoRow]) (fun q hq => by rcases List.mem_singleton.1 hq with rfl; exact (show ("internal/strconv.uint64pow10", Rows.laid_internal_strconv_uint64pow10) ∈ Rows.layoutFormatUptoRow.laid from by simp [Rows.layoutFormatUptoRow])))
theorem band {a b : Bool} (h : a = true) (h' : b = true) : (a && b) = true := by rw [h, h']; rfl
theorem fact1 : (Rows.layoutFormatUptoRow.inPlace == Tryz.pinned.checked.prog.inPlace 3) = true := by kernel_rfl
theorem fact2 : (Rows.layoutFormatUptoRow.unfollowed == Tryz.pinned.checked.prog.unfollowed 3) = true := by kernel_rfl
theorem fact3 : (Rows.layoutFormatUptoRow.recurses == Tryz.pinned.checked.prog.recurses 3) = true := by kernel_rfl
theorem fact4 : (Rows.layoutFormatUptoRow.named == Tryz.pinned.checked.prog.varsNamed 3) = true := by kernel_rfl
theorem fact5 : Tryz.pinned.checked.prog.mayEnter = true := by kernel_rfl
theorem fact6 : Tryz.pinned.checked.prog.stopsHeard = true := by kernel_rfl
theorem closed : joinedFacts Tryz.pinned.checked.prog 3 Tryz.f3 (Rows.OpenSpec.upto Rows.layoutFormatSpec).bare Rows.layoutFormatUptoRow = true := by
 unfold joinedFacts
 repeat' with_reducible refine band ?_ ?_
 all_goals first | with_reducible exact fact1 | with_reducible exact fact2 | with_reducible exact fact3 | with_reducible exact fact4 | with_reducible exact fact5 | with_reducible exact fact6 | kernel_rfl
theorem said : Rows.LayoutFormatUptoSaid :=
 OpenClaim.holds_of_cond 3 Tryz.f3 rfl rfl rfl rfl rfl rfl rfl ⟨rfl, rfl, rfl, rfl, rfl⟩ rfl rfl rfl rfl rfl (by as_aux_lemma => kernel_rfl) Tryz.func3 closed
  (of_decide_eq_true (by kernel_rfl)) (by unfold Func.isWrapper; first | (rw [if_pos (by decide +kernel)]; kernel_rfl) | (rw [if_neg (by decide +kernel)]; exact ⟨rfl, rfl⟩))
  (fun os started H enc _ F => by rw [OpenClaim.pre_eq_preRow]; exact lifted os started H enc F)
theorem plain (f : FuncId) (fn : Func) (hf : Tryz.pinned.checked.prog.funcNamed "plinth/plinthlaw02.LayoutFormat" = some f) (hfn : Tryz.pinned.checked.prog.funcs[f]? = some fn) :
  true = Tryz.pinned.checked.prog.looks [] ∧ ∀ (j : Nat) t, fn.params[j]? = some t → Tryz.pinned.checked.prog.wantsStandIn t = false := by
 obtain rfl : f = 3 := Option.some.inj ((show Tryz.prog.funcNamed "plinth/plinthlaw02.LayoutFormat" = some 3 by kernel_rfl).symm.trans hf) |>.symm
 obtain rfl : fn = Tryz.f3 := (Option.some.inj (Tryz.func3.symm.trans hfn)).symm
 refine ⟨by kernel_rfl, fun j t ht => ?_⟩
 rw [Tryz.params3] at ht
 have hm := Array.mem_of_getElem? ht
 simp only [List.mem_toArray, List.mem_cons, List.mem_nil_iff, or_false] at hm
 have w0 : Tryz.prog.wantsStandIn 24 = false := by kernel_rfl
 have w1 : Tryz.prog.wantsStandIn 3 = false := by kernel_rfl
 rcases hm with h | h <;> rw [h] <;> first | exact w0 | exact w1
theorem proved : Rows.LayoutFormatUptoCardSaid :=
 Claim7.holds_tied_plain_at .later _ _ _ _ _ said (fun _ h => by cases h) (by kernel_rfl) (fun _ h => by cases h) layoutFormatUpto_row_tie rfl ⟨rfl, rfl⟩ (by kernel_rfl) rfl plain (by kernel_rfl)
#print axioms proved
end Go.Proofs.YthbkbjlfghikfaaGreatDoor.layoutFormat
