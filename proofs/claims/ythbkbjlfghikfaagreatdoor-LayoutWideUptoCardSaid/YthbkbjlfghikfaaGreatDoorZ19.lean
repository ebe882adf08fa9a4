/-
  LayoutWide: the card. For every argument of bulk at most 1048576, as the card says.
-/
import Derived.Test.YthbkbjlfghikfaaGreatDoorZ18
import Derived.Test.YthbkbjlfghikfaaGreatDoorZ17
import Derived.Test.YthbkbjlfghikfaaGreatDoorZ12
set_option linter.unusedVariables false
set_option linter.unusedSimpArgs false
set_option maxRecDepth 100000
set_option maxHeartbeats 1000000
namespace Go.Ab
open Go Go.RowKit Go.Proofs
theorem wrapM1 {i : Nat} (h : i < 4611686018427387904) (h0 : 0 < i) : IntKind.wrap .i64 ((i : Int) - 1) = ((i - 1 : Nat) : Int) := by
 rw [w64 (by omega) (by omega)]; omega
theorem wide_iff (t : List UInt8) : wideB t = decide (0 ≤ Lib.indexByte t 10) := by
 obtain ⟨z1, z2, z3, z4, z5⟩ := line_end t
 have hall : (t.takeWhile n10).all n10 = true := List.all_takeWhile
 by_cases hn : Lib.indexByte t 10 < 0
 ·have h1 : t.takeWhile n10 = t := by rw [← z4, z1 hn, List.take_length]
  rw [h1] at hall
  rw [decide_eq_false (show ¬ 0 ≤ Lib.indexByte t 10 by omega)]
  unfold wideB
  rw [List.any_eq_false]
  intro c hc
  have := List.all_eq_true.1 hall c hc
  simpa [n10] using this
 ·have hp := z2 (by omega)
  obtain ⟨_, hlt⟩ := (line_drop t).2 (by omega)
  rw [decide_eq_true (show 0 ≤ Lib.indexByte t 10 by omega)]
  rcases lineE_cases t with h | ⟨q, h⟩
  ·rw [h] at z3
   have := congrArg List.length z3
   rw [List.length_drop, List.length_nil] at this
   omega
  ·unfold wideB
   rw [List.any_eq_true]
   refine ⟨10, ?_, rfl⟩
   have : (10 : UInt8) ∈ lineE t := by rw [h]; simp
   exact (List.dropWhile_suffix n10).mem this
theorem sContains_val (t : List UInt8) : G_sContains t [10] = some (wideB t) := by
 unfold G_sContains G_sIndex G_slIndex
 have y1 : decide ((([10] : List UInt8).length : Int) = 0) = false := by decide
 have y3 : decide ((([10] : List UInt8).length : Int) = 1) = true := by decide
 have y4 : ixOK 0 ([10] : List UInt8).length = true := by decide
 have y5 : byteAt ([10] : List UInt8) 0 = 10 := by decide
 have hix : indexByteF t 10 = some (Lib.indexByte t 10) := by unfold indexByteF; rw [if_pos (by decide)]; rfl
 rw [y1, y3, y4, y5, hix]
 by_cases h : ([10] : List UInt8) = t
 ·subst h; rfl
 ·rw [decide_eq_false h]
  simp only [cond_true, cond_false, Option.bind_some]
  rw [wide_iff]
def pfAt (P : List (List UInt8 × Fm)) (i : Nat) : Bool := decide (0 < i) && decide ((P.getD (i - 1) (([] : List UInt8), Fm.mk 0 0 [] [])).1 = [])
theorem pfAt_succ {P : List (List UInt8 × Fm)} {i : Nat} (h : i < P.length) : pfAt P (i + 1) = decide (P[i].1 = []) := by
 unfold pfAt
 rw [Nat.add_sub_cancel, getD_in h]
 simp
def okJ (p : List UInt8 × Fm) : Prop := (p.1 = [] ∧ validF p.2 = true) ∨ (p.1 ≠ [] ∧ p.1.length ≤ 60000)
theorem comS_len (r : List UInt8) : (comS r).length ≤ r.length := by
 unfold comS trimR
 obtain ⟨j, a, b, c⟩ := trimRi_take wsB (r.takeWhile n10) (r.takeWhile n10).length (Nat.le_refl _)
 rw [b, List.length_take]
 have := (List.takeWhile_prefix n10 (l := r)).length_le
 omega
theorem it_okJ : ∀ (n : Nat) (bare : Bool) (r : List UInt8) (fs : List Fm), r.length ≤ 60000 → (∀ f ∈ fs, validF f = true) → ∀ p ∈ itS n bare r fs, okJ p
 | 0, _, _, _, _, _ => by intro p hp; simp [itS] at hp
 | n + 1, _, [], _, _, _ => by intro p hp; simp [itS] at hp
 | n + 1, bare, c :: r, fs, hr, h => by
  intro p hp
  simp only [List.length_cons] at hr
  simp only [itS] at hp
  by_cases c1 : c = 10
  ·rw [if_pos c1] at hp; exact it_okJ n _ _ _ (by omega) h p hp
  ·rw [if_neg c1] at hp
   by_cases c2 : blankB c = true
   ·rw [if_pos c2] at hp; exact it_okJ n _ _ _ (by omega) h p hp
   ·rw [if_neg c2] at hp
    by_cases c3 : c = 59
    ·rw [if_pos c3] at hp
     rcases List.mem_append.1 hp with hp | hp
     ·by_cases hb : bare = true
      ·rw [if_pos hb, List.mem_singleton] at hp
       subst hp; subst c3
       obtain ⟨b, h1, h2, h3⟩ := comS_ok r
       have := comS_len (59 :: r)
       simp only [List.length_cons] at this
       exact .inr ⟨by show comS (59 :: r) ≠ []; rw [h1]; simp, by show (comS (59 :: r)).length ≤ _; omega⟩
      ·rw [if_neg hb] at hp; cases hp
     ·have := lineE_lt c1 r
      exact it_okJ n _ _ _ (by omega) h p hp
    ·rw [if_neg c3] at hp
     cases fs with
     | nil => cases hp
     | cons f fs' =>
      have := PA0_lt (c := c) (r := r) (by simpa using c2) c3
      rcases List.mem_cons.1 hp with rfl | hp
      ·exact .inl ⟨rfl, h f (by simp)⟩
      ·exact it_okJ n _ _ _ (by omega) (fun g hg => h g (List.mem_cons_of_mem _ hg)) p hp
theorem lay_len0 (w : Nat) {f : Fm} (hv : validF f = true) : (layF w f 0 0).length ≤ 86060000 := by
 have hd := valid_depth hv
 have hs := (validF_of hv).2
 have h1 : (4103 + 200) * f.size ≤ (4103 + 200) * 20000 := Nat.mul_le_mul_left _ hs
 have h2 := lay_len w f (validF_of hv).1 0 0 200 (by omega)
 omega
theorem outS_len (w : Nat) : ∀ (I : List (List UInt8 × Fm)) (pf lw : Bool), (∀ p ∈ I, okJ p) → (outS w pf lw I).length ≤ I.length * 90000000
 | [], _, _, _ => by simp [outS]
 | (b, f) :: I, pf, lw, h => by
  have ih := fun pf lw => outS_len w I pf lw fun p hp => h p (List.mem_cons_of_mem _ hp)
  have hl : ∀ (P : Prop) [Decidable P], (if P then [10] else [] : List UInt8).length ≤ 1 := fun P _ => by split <;> simp
  rw [outS]
  rcases h (b, f) (by simp) with ⟨h1, h2⟩ | ⟨h1, h2⟩
  ·have h1 : b = [] := h1
   have := lay_len0 w (f := f) h2
   have i1 := ih true (wideB (layF w f 0 0))
   have := hl (pf = true ∧ lw = true ∧ wideB (layF w f 0 0) = true)
   rw [if_pos h1]
   simp only [List.length_append, List.length_cons, Nat.add_mul]
   omega
  ·have h1 : b ≠ [] := h1
   have h2 : b.length ≤ 60000 := h2
   have i1 := ih false lw
   have := hl (pf = true)
   rw [if_neg h1]
   simp only [List.length_append, List.length_cons, Nat.add_mul]
   omega
theorem it_len : ∀ (n : Nat) (bare : Bool) (r : List UInt8) (fs : List Fm), (itS n bare r fs).length ≤ r.length
 | 0, _, _, _ => by simp [itS]
 | n + 1, _, [], _ => by simp [itS]
 | n + 1, bare, c :: r, fs => by
  simp only [itS, List.length_cons]
  by_cases c1 : c = 10
  ·rw [if_pos c1]; have := it_len n true r fs; omega
  ·rw [if_neg c1]
   by_cases c2 : blankB c = true
   ·rw [if_pos c2]; have := it_len n bare r fs; omega
   ·rw [if_neg c2]
    by_cases c3 : c = 59
    ·rw [if_pos c3]
     have h1 := it_len n bare (lineE (c :: r)) fs
     have h2 := lineE_lt c1 r
     have h3 : (if bare = true then [(comS (c :: r), zF)] else []).length ≤ 1 := by split <;> simp
     rw [List.length_append]; omega
    ·rw [if_neg c3]
     cases fs with
     | nil => simp
     | cons f fs' =>
      have h1 := it_len n false (PA 0 (c :: r)) fs'
      have h2 := PA0_lt (c := c) (r := r) (by simpa using c2) c3
      simp only [List.length_cons]; omega
def textV (s : List UInt8) (n : Int) : List UInt8 × Int × Unit :=
 if isW n = true then (if (readS s).2.1 = 0 then (outS n.toNat false false (IT true s (readS s).1), 0, ()) else ([], (readS s).2.1, ())) else ([], 1, ())
theorem layText_val (s : List UInt8) (n : Int) : G_layText s n = some (textV s n) := by
 unfold G_layText textV
 rw [isWidth_val]
 simp only [Option.bind_some]
 cases hw : isW n with
 | false => rfl
 | true =>
  obtain ⟨w, rfl, hw1, hw2⟩ := isW_of hw
  rw [if_pos rfl]
  by_cases he : (readS s).2.1 = 0
  ·have hr : readS s = ((readS s).1, 0, ()) := by
    generalize readS s = x at he
    obtain ⟨a, b, c⟩ := x
    have he : b = 0 := he
    rw [he]
   obtain ⟨hs, hp, hv⟩ := read_inv hr
   rw [if_pos he, lpieces_val hr]
   have hJ := it_okJ (s.length + 1) true s (readS s).1 hs hv
   have hIl := it_len (s.length + 1) true s (readS s).1
   have hb : ∀ f ∈ (readS s).1, f.big ≤ 120000 := (parse_ok hs hp).2.1
   have hbI : ∀ p ∈ itS (s.length + 1) true s (readS s).1, p.2.big ≤ 120000 := by
    have key : ∀ (n : Nat) (bare : Bool) (r : List UInt8) (fs : List Fm), (∀ f ∈ fs, f.big ≤ 120000) → ∀ p ∈ itS n bare r fs, p.2.big ≤ 120000 := by
     intro n
     induction n with
     | zero => intro bare r fs _ p hp; simp [itS] at hp
     | succ n ih =>
      intro bare r fs hf p hp
      cases r with
      | nil => simp [itS] at hp
      | cons c r =>
       simp only [itS] at hp
       by_cases c1 : c = 10
       ·rw [if_pos c1] at hp; exact ih _ _ _ hf p hp
       ·rw [if_neg c1] at hp
        by_cases c2 : blankB c = true
        ·rw [if_pos c2] at hp; exact ih _ _ _ hf p hp
        ·rw [if_neg c2] at hp
         by_cases c3 : c = 59
         ·rw [if_pos c3] at hp
          rcases List.mem_append.1 hp with hp | hp
          ·by_cases hb : bare = true
           ·rw [if_pos hb, List.mem_singleton] at hp
            subst hp; simp [zF, Fm.big, Fm.bigL]
           ·rw [if_neg hb] at hp; cases hp
          ·exact ih _ _ _ hf p hp
         ·rw [if_neg c3] at hp
          cases fs with
          | nil => cases hp
          | cons f fs' =>
           rcases List.mem_cons.1 hp with rfl | hp
           ·exact hf f (by simp)
           ·exact ih _ _ _ (fun g hg => hf g (List.mem_cons_of_mem _ hg)) p hp
    exact key _ _ _ _ hb
   have hI : itS (s.length + 1) true s (readS s).1 = IT true s (readS s).1 := rfl
   rw [hI] at hJ hIl hbI
   generalize IT true s (readS s).1 = P at hJ hIl hbI
   simp only [Option.bind_some, decide_true, Bool.not_true, cond_false, Int.toNat_natCast]
   have htot := outS_len w P false false hJ
   have htot2 : P.length * 90000000 ≤ 60000 * 90000000 := Nat.mul_le_mul_right _ (by omega)
   refine Up.get ?_
   refine up_inv (N := False) (fun d => ∃ (i : Nat) (b lw : Bool) (o : List UInt8), d = (((w : Int), P, (), lw, P, (P.length : Int), (i : Int), ()), ((b, (), ()), intsOf o, ())) ∧ i ≤ P.length ∧ o ++ outS w (pfAt P i) lw (P.drop i) = outS w false false P) (fun d => P.length - d.1.2.2.2.2.2.2.1.toNat) ?_ ⟨0, false, false, [], rfl, Nat.zero_le _, rfl⟩
   rintro d ⟨i, b, lw, o, rfl, hi, ho⟩
   have holen := congrArg List.length ho
   rw [List.length_append] at holen
   dsimp only
   by_cases hi' : i < P.length
   ·left
    have e1 : decide ((i : Int) < (P.length : Int)) = true := by simp [hi']
    have e2 : ixOK (i : Int) P.length = true := ixOK_iff.2 (by omega)
    have e3 : (ixOK (IntKind.wrap .i64 ((i : Int) - 1)) P.length || !decide ((i : Int) > 0)) = true := by
     by_cases h0 : i = 0
     ·subst h0; simp
     ·rw [wrapM1 (by omega) (by omega), ixOK_iff.2 (by omega)]; rfl
    have hsp : cond (decide ((i : Int) > 0)) (!(cond (decide ((i : Int) > 0)) (!decide ((P.getD (IntKind.wrap .i64 ((i : Int) - 1)).toNat (([] : List UInt8), (Fm.mk 0 0 [] []))).1 = [])) false)) false = pfAt P i := by
     unfold pfAt
     by_cases h0 : i = 0
     ·subst h0; rfl
     ·rw [decide_eq_true (show (i : Int) > 0 by omega), decide_eq_true (show 0 < i by omega), wrapM1 (by omega) (by omega), Int.toNat_natCast]
      simp
    have hdr : P.drop i = P[i] :: P.drop (i + 1) := List.drop_eq_getElem_cons hi'
    have hmem := List.getElem_mem hi'
    have hJi := hJ _ hmem
    have hbi := hbI _ hmem
    rw [e1, e2, e3]
    simp only [cond_true, Int.toNat_natCast, getD_in hi']
    have hpf := pfAt_succ hi'
    generalize P[i] = p at hdr hJi hbi hpf
    obtain ⟨pb, pf_⟩ := p
    rw [hdr, outS] at ho holen
    have fin : ∀ (o' : List UInt8) (lw' : Bool) (X : Option ((Int × (List ((List UInt8) × Fm)) × Unit × Bool × (List ((List UInt8) × Fm)) × Int × Int × Unit) × ((Bool × Unit × Unit) × (List Int) × Unit))), X = some (((w : Int), P, (), lw', P, (P.length : Int), (i : Int), ()), ((true, (), ()), intsOf o', ())) → o' ++ outS w (pfAt P (i + 1)) lw' (P.drop (i + 1)) = outS w false false P →
      ∃ l', Option.bind X (fun d39 : (Int × (List ((List UInt8) × Fm)) × Unit × Bool × (List ((List UInt8) × Fm)) × Int × Int × Unit) × ((Bool × Unit × Unit) × (List Int) × Unit) => some (Step.next (R := (Unit × Unit) × ((Bool × Unit × Unit) × (List Int) × Unit)) ((d39.1.1, d39.1.2.1, (), d39.1.2.2.2.1, d39.1.2.2.2.2.1, d39.1.2.2.2.2.2.1, IntKind.wrap .i64 (d39.1.2.2.2.2.2.2.1 + 1), ()), ((d39.2.1.1, (), ()), d39.2.2.1, ())))) = some (.next l') ∧
       (∃ (i : Nat) (b lw : Bool) (o : List UInt8), l' = (((w : Int), P, (), lw, P, (P.length : Int), (i : Int), ()), ((b, (), ()), intsOf o, ())) ∧ i ≤ P.length ∧ o ++ outS w (pfAt P i) lw (P.drop i) = outS w false false P) ∧ P.length - l'.1.2.2.2.2.2.2.1.toNat < P.length - (i : Int).toNat := by
     intro o' lw' X hX ho'
     rw [hX]
     refine ⟨_, rfl, ⟨i + 1, true, lw', o', ?_, by omega, ho'⟩, ?_⟩
     ·dsimp only; rw [wrapN (show i < 4611686018427387904 by omega)]
     ·dsimp only; rw [wrapN (show i < 4611686018427387904 by omega)]; simp only [Int.toNat_natCast]; omega
    by_cases hpb : pb = []
    ·
     subst hpb
     have hvf : validF pf_ = true := by
      rcases hJi with h | h
      ·exact h.2
      ·exact absurd rfl h.1
     rw [if_pos rfl] at ho holen
     have hfmt : G_layFormat pf_ (w : Int) = some (layF w pf_ 0 0, 0, ()) := by
      rw [layFormat_val _ (by have : pf_.big ≤ 120000 := hbi; omega)]
      unfold fmtS
      rw [if_pos ⟨hw, hvf⟩, Int.toNat_natCast]
     rw [decide_eq_true rfl] at hpf
     refine fin (o ++ ((if pfAt P i = true ∧ lw = true ∧ wideB (layF w pf_ 0 0) = true then [10] else []) ++ (layF w pf_ 0 0 ++ [10]))) (wideB (layF w pf_ 0 0)) _ ?_ ?_
     ·simp only [decide_true, Bool.not_true, cond_false, Fm.eta_eq, hfmt, Option.bind_some, sContains_val, hsp]
      simp only [List.length_append, List.length_cons] at holen
      have step : ∀ (o' : List UInt8) (b' : Bool), o'.length + (layF w pf_ 0 0).length + 1 ≤ 60000 * 90000000 →
        cond (decide ((layF w pf_ 0 0).length + ([10] : List Nat).length ≤ 9223372036854775807)) (Option.bind (α := (Int × Bool × Unit) × ((Bool × Unit × Unit) × (List Int) × Unit)) (G_bldStr (layF w pf_ 0 0 ++ ([10])) (b', (), ()) (intsOf o')) fun r38 => (
         some ((((w : Int), P, (), wideB (layF w pf_ 0 0), P, (P.length : Int), (i : Int), ()), ((r38.2.1.1, (), ()), r38.2.2.1, ())) : (Int × (List ((List UInt8) × Fm)) × Unit × Bool × (List ((List UInt8) × Fm)) × Int × Int × Unit) × ((Bool × Unit × Unit) × (List Int) × Unit)))) none =
        some (((w : Int), P, (), wideB (layF w pf_ 0 0), P, (P.length : Int), (i : Int), ()), ((true, (), ()), intsOf (o' ++ (layF w pf_ 0 0 ++ [10])), ())) := by
       intro o' b' hl
       simp only [List.length_cons, List.length_nil]
       rw [decide_eq_true (by omega), cond_true, bldStr_val (by rw [ints_len, List.length_append, List.length_cons, List.length_nil]; omega)]
       simp only [Option.bind_some]
       rw [ints_append]
      by_cases hnl : pfAt P i = true ∧ lw = true ∧ wideB (layF w pf_ 0 0) = true
      ·obtain ⟨n1, n2, n3⟩ := hnl
       rw [if_pos ⟨n1, n2, n3⟩] at holen ⊢
       simp only [List.length_cons, List.length_nil] at holen
       rw [n1, n2]
       rw [n3] at step ⊢
       simp only [cond_true]
       rw [bldByte_val (by rw [ints_len]; omega)]
       simp only [Option.bind_some]
       have e10 : intsOf o ++ [10] = intsOf (o ++ [10]) := by rw [← ints_append]; rfl
       rw [e10, step (o ++ [10]) true (by simp only [List.length_append, List.length_cons, List.length_nil]; omega)]
       simp
      ·rw [if_neg hnl] at holen ⊢
       have hcn : cond (cond (pfAt P i) lw false) (wideB (layF w pf_ 0 0)) false = false := by
        cases h1 : pfAt P i with
        | false => rfl
        | true =>
         cases h2 : lw with
         | false => rfl
         | true =>
          cases h3 : wideB (layF w pf_ 0 0) with
          | false => rfl
          | true => exact absurd ⟨h1, h2, h3⟩ hnl
       rw [hcn]
       simp only [cond_false, Option.bind_some]
       rw [step o b (by simp only [List.length_nil] at holen; omega), List.nil_append]
     ·rw [← ho, hpf]; simp
    ·
     rw [if_neg hpb] at ho holen
     rw [decide_eq_false hpb] at hpf
     refine fin (o ++ ((if pfAt P i = true then [10] else []) ++ (pb ++ [10]))) lw _ ?_ ?_
     ·have hpl : pb.length ≤ 60000 := by
       rcases hJi with h | h
       ·exact absurd h.1 hpb
       ·exact h.2
      simp only [decide_eq_false hpb, Bool.not_false, cond_true, hsp]
      have step : ∀ (o' : List UInt8) (b' : Bool), o'.length + pb.length + 1 ≤ 60000 * 90000000 →
        cond (decide (pb.length + ([10] : List Nat).length ≤ 9223372036854775807)) (Option.bind (α := (Int × Bool × Unit) × ((Bool × Unit × Unit) × (List Int) × Unit)) (G_bldStr (pb ++ ([10])) (b', (), ()) (intsOf o')) fun r38 => (
         some ((((w : Int), P, (), lw, P, (P.length : Int), (i : Int), ()), ((r38.2.1.1, (), ()), r38.2.2.1, ())) : (Int × (List ((List UInt8) × Fm)) × Unit × Bool × (List ((List UInt8) × Fm)) × Int × Int × Unit) × ((Bool × Unit × Unit) × (List Int) × Unit)))) none =
        some (((w : Int), P, (), lw, P, (P.length : Int), (i : Int), ()), ((true, (), ()), intsOf (o' ++ (pb ++ [10])), ())) := by
       intro o' b' hl
       simp only [List.length_cons, List.length_nil]
       rw [decide_eq_true (by omega), cond_true, bldStr_val (by rw [ints_len, List.length_append, List.length_cons, List.length_nil]; omega)]
       simp only [Option.bind_some]
       rw [ints_append]
      simp only [List.length_append, List.length_cons] at holen
      cases hpfi : pfAt P i with
      | true =>
       rw [hpfi, if_pos rfl] at holen
       simp only [List.length_cons, List.length_nil] at holen
       simp only [cond_true]
       rw [bldByte_val (by rw [ints_len]; omega)]
       simp only [Option.bind_some]
       have e10 : intsOf o ++ [10] = intsOf (o ++ [10]) := by rw [← ints_append]; rfl
       rw [e10, step (o ++ [10]) true (by simp only [List.length_append, List.length_cons, List.length_nil]; omega)]
       simp
      | false =>
       rw [hpfi, if_neg (by decide)] at holen
       simp only [List.length_nil] at holen
       simp only [cond_false, Option.bind_some]
       rw [step o b (by omega)]
       simp
     ·rw [← ho, hpf]; simp
   ·right; left
    have e1 : decide ((i : Int) < (P.length : Int)) = false := by apply decide_eq_false; omega
    rw [e1, cond_false]
    refine ⟨_, rfl, .of ?_⟩
    rw [List.drop_of_length_le (show P.length ≤ i by omega), outS, List.append_nil] at ho
    simp only [bytes_ints, Option.map_some, Option.bind_some]
    rw [ho]
  ·rw [if_neg he, lpieces_err he]
   simp only [Option.bind_some, decide_eq_false he, Bool.not_true, Bool.not_false, cond_true, cond_false]
end Go.Ab

set_option maxRecDepth 100000
namespace Go.Ab
open Go Go.RowKit Go.Proofs
theorem vis_ne10 {c : UInt8} (h : visS c = true) : c ≠ 10 := by
 intro e; subst e; revert h; decide
theorem esc_ne10 : ∀ t : List UInt8, (∀ c ∈ t, badB c = false) → ∀ x ∈ escS t, x ≠ 10
 | [], _, x, hx => by cases hx
 | c :: t, h, x, hx => by
  rw [esc_cons, List.mem_append] at hx
  rcases hx with hx | hx
  ·rcases rep_cases c (h c (by simp)) with ⟨_, hr⟩ | ⟨_, hr⟩ | ⟨_, hr⟩ | ⟨_, _, h3, hr⟩
   ·rw [hr] at hx; simp at hx; subst hx; decide
   ·rw [hr] at hx; simp at hx; rcases hx with rfl | rfl <;> decide
   ·rw [hr] at hx; simp at hx; rcases hx with rfl | rfl <;> decide
   ·rw [hr] at hx
    simp at hx
    subst hx
    intro e; subst e; exact h3 (.inl (by decide))
  ·exact esc_ne10 t (fun d hd => h d (by simp [hd])) x hx
theorem wr_ne10 : ∀ f : Fm, fieldsF f = true → ∀ c ∈ wr f, c ≠ 10 := Fm.ind fun k n t l ih hf => by
 rw [fieldsF_eq] at hf
 simp only [Bool.and_eq_true] at hf
 obtain ⟨h1, h2⟩ := hf
 simp only [Fm.k, Fm.n, Fm.t, Fm.l] at h1 h2
 rw [wr]
 unfold leafS at h1
 by_cases c0 : k = 0
 ·rw [if_pos c0]; exact fun c hc => vis_ne10 (itoa_vis n c hc)
 ·rw [if_neg c0] at h1 ⊢
  by_cases c1 : k = 1
  ·rw [if_pos c1] at h1 ⊢
   simp only [wordS, Bool.and_eq_true, decide_eq_true_eq] at h1
   exact fun c hc => vis_ne10 (List.all_eq_true.1 h1.1.2 c hc)
  ·rw [if_neg c1] at h1 ⊢
   by_cases c2 : k = 2
   ·rw [if_pos c2] at h1 ⊢
    simp only [Bool.and_eq_true, decide_eq_true_eq] at h1
    intro c hc
    rcases List.mem_cons.1 hc with rfl | hc
    ·decide
    ·rcases List.mem_append.1 hc with hc | hc
     ·exact esc_ne10 t (bad_all (by simpa using h1.2.1)) c hc
     ·simp at hc; subst hc; decide
   ·rw [if_neg c2] at h1 ⊢
    by_cases c3 : k = 3
    ·have key : ∀ (l : List Fm) (b : Bool), (∀ f ∈ l, fieldsF f = true → ∀ c ∈ wr f, c ≠ 10) → fieldsL l = true → ∀ c ∈ wrL b l, c ≠ 10 := by
      intro l
      induction l with
      | nil => intro b _ _ c hc; simp [wrL] at hc
      | cons f r ihr =>
       intro b hi hl c hc
       simp only [fieldsL, Bool.and_eq_true] at hl
       simp only [wrL, List.mem_append] at hc
       rcases hc with hc | hc | hc
       ·cases b <;> simp at hc
        subst hc; decide
       ·exact hi f (by simp) hl.1 c hc
       ·exact ihr false (fun g hg => hi g (List.mem_cons_of_mem _ hg)) hl.2 c hc
     intro c hc
     rcases List.mem_cons.1 hc with rfl | hc
     ·decide
     ·rcases List.mem_append.1 hc with hc | hc
      ·exact key l true ih h2 c hc
      ·simp at hc; subst hc; decide
    ·rw [if_neg c3] at h1; cases h1
def partsS : Bool → Bool → List UInt8 → Nat
 | _, _, [] => 0
 | i, true, [c] => 0
 | i, true, c :: d :: r => if c = 92 then partsS i true r else if c = 34 then partsS false false (d :: r) else partsS i true (d :: r)
 | i, false, c :: r => if c = 34 then 1 + partsS i true r else if c = 32 ∨ c = 40 ∨ c = 41 then partsS false false r else if i = true then partsS true false r else 1 + partsS true false r
theorem parts_gap {a : List UInt8} (h : ∀ c ∈ a, c = 32 ∨ c = 40 ∨ c = 41) (r : List UInt8) : partsS false false (a ++ r) = partsS false false r := by
 induction a with
 | nil => rfl
 | cons c a ih =>
  have hc := h c (by simp)
  have h34 : c ≠ 34 := by rcases hc with rfl | rfl | rfl <;> decide
  rw [List.cons_append, partsS, if_neg h34, if_pos hc, ih fun x hx => h x (by simp [hx])]
theorem parts_gap' {a : List UInt8} (h : ∀ c ∈ a, c = 32 ∨ c = 40 ∨ c = 41) (ha : a ≠ []) (i : Bool) (r : List UInt8) : partsS i false (a ++ r) = partsS false false r := by
 cases a with
 | nil => exact absurd rfl ha
 | cons c a =>
  have hc := h c (by simp)
  have h34 : c ≠ 34 := by rcases hc with rfl | rfl | rfl <;> decide
  rw [List.cons_append, partsS, if_neg h34, if_pos hc, parts_gap fun x hx => h x (by simp [hx])]
theorem parts_none {a : List UInt8} (h : ∀ c ∈ a, c = 32 ∨ c = 40 ∨ c = 41) (i : Bool) : partsS i false a = 0 := by
 by_cases ha : a = []
 ·subst ha; rfl
 ·have := parts_gap' h ha i []
  rw [List.append_nil] at this
  rw [this]; rfl
theorem vis_gap {c : UInt8} (h : visS c = true) : c ≠ 34 ∧ ¬ (c = 32 ∨ c = 40 ∨ c = 41) := by
 have : ∀ n : Fin 256, visS (UInt8.ofFin n) = true → UInt8.ofFin n ≠ 34 ∧ ¬ (UInt8.ofFin n = 32 ∨ UInt8.ofFin n = 40 ∨ UInt8.ofFin n = 41) := by decide +kernel
 exact this c.toFin h
theorem parts_run {a : List UInt8} (h : ∀ c ∈ a, visS c = true) (r : List UInt8) : partsS true false (a ++ r) = partsS true false r := by
 induction a with
 | nil => rfl
 | cons c a ih =>
  obtain ⟨h1, h2⟩ := vis_gap (h c (by simp))
  rw [List.cons_append, partsS, if_neg h1, if_neg h2, if_pos rfl, ih fun x hx => h x (by simp [hx])]
theorem parts_word {a : List UInt8} (h : ∀ c ∈ a, visS c = true) (r : List UInt8) : partsS false false (a ++ r) ≤ 1 + partsS true false r ∨ a = [] := by
 cases a with
 | nil => exact .inr rfl
 | cons c a =>
  obtain ⟨h1, h2⟩ := vis_gap (h c (by simp))
  left
  rw [List.cons_append, partsS, if_neg h1, if_neg h2, if_neg (by decide), parts_run fun x hx => h x (by simp [hx])]
  exact Nat.le_refl _
theorem parts_tx_plain {c : UInt8} (h1 : c ≠ 92) (h2 : c ≠ 34) (i : Bool) (d : UInt8) (r : List UInt8) : partsS i true (c :: d :: r) = partsS i true (d :: r) := by rw [partsS, if_neg h1, if_neg h2]
theorem parts_esc : ∀ (t r : List UInt8) (i : Bool), (∀ c ∈ t, badB c = false) → partsS i true (escS t ++ (34 :: r)) = partsS false false r
 | [], r, i, _ => by
  have e : escS [] = [] := rfl
  rw [e, List.nil_append]
  cases r with
  | nil => rfl
  | cons d r => rw [partsS, if_neg (by decide), if_pos rfl]
 | c :: t, r, i, h => by
  have ih := parts_esc t r i fun x hx => h x (by simp [hx])
  rw [esc_cons]
  rcases rep_cases c (h c (by simp)) with ⟨_, hr⟩ | ⟨_, hr⟩ | ⟨_, hr⟩ | ⟨h1, h2, h3, hr⟩
  ·rw [hr]
   show partsS i true (92 :: 92 :: (escS t ++ (34 :: r))) = _
   rw [partsS, if_pos rfl, ih]
  ·rw [hr]
   show partsS i true (92 :: 34 :: (escS t ++ (34 :: r))) = _
   rw [partsS, if_pos rfl, ih]
  ·rw [hr]
   show partsS i true (92 :: 110 :: (escS t ++ (34 :: r))) = _
   rw [partsS, if_pos rfl, ih]
  ·rw [hr]
   show partsS i true (c :: (escS t ++ (34 :: r))) = _
   cases hx : escS t ++ (34 :: r) with
   | nil => simp at hx
   | cons d y => rw [parts_tx_plain h2 h1, ← hx, ih]
theorem parts_atom {f : Fm} (hf : fieldsF f = true) (ha : f.k ≠ 3 ∨ f.l = []) (r : List UInt8) : ∃ i, partsS false false (wr f ++ r) ≤ 1 + partsS i false r := by
 have hf' := hf
 rw [fieldsF_eq] at hf'
 simp only [Bool.and_eq_true] at hf'
 obtain ⟨h1, h2⟩ := hf'
 rw [wr_eq]
 unfold leafS at h1
 by_cases c0 : f.k = 0
 ·rw [if_pos c0]
  rcases parts_word (itoa_vis f.n) r with h | h
  ·exact ⟨true, h⟩
  ·exact absurd h (itoa_ne _)
 ·rw [if_neg c0] at h1 ⊢
  by_cases c1 : f.k = 1
  ·rw [if_pos c1] at h1 ⊢
   simp only [wordS, Bool.and_eq_true, decide_eq_true_eq] at h1
   rcases parts_word (fun c hc => List.all_eq_true.1 h1.1.2 c hc) r with h | h
   ·exact ⟨true, h⟩
   ·exact absurd h h1.1.1.1
  ·rw [if_neg c1] at h1 ⊢
   by_cases c2 : f.k = 2
   ·rw [if_pos c2] at h1 ⊢
    simp only [Bool.and_eq_true, decide_eq_true_eq] at h1
    have e : 34 :: (escS f.t ++ [34]) ++ r = 34 :: (escS f.t ++ (34 :: r)) := by simp
    refine ⟨false, ?_⟩
    rw [e, partsS, if_pos rfl, parts_esc _ _ _ (bad_all (by simpa using h1.2.1))]
    exact Nat.le_refl _
   ·rw [if_neg c2] at h1 ⊢
    by_cases c3 : f.k = 3
    ·have hl : f.l = [] := ha.resolve_left fun h => h c3
     rw [hl]
     refine ⟨false, ?_⟩
     have e : 40 :: (wrL true [] ++ [41]) ++ r = [40, 41] ++ r := by simp [wrL]
     rw [e, parts_gap (by simp)]
     omega
    ·rw [if_neg c3] at h1; cases h1
def okLine (w : Nat) (s : List UInt8) : Prop := s.length ≤ w ∨ partsS false false s ≤ 3
def okR (w : Nat) : List UInt8 → List UInt8 → Prop
 | cur, [] => okLine w cur
 | cur, c :: r => if c = 10 then okLine w cur ∧ okR w [] r else okR w (cur ++ [c]) r
theorem okR_app {w : Nat} : ∀ (a cur r : List UInt8), (∀ c ∈ a, c ≠ 10) → (okR w cur (a ++ r) ↔ okR w (cur ++ a) r)
 | [], cur, r, _ => by simp
 | c :: a, cur, r, h => by
  rw [List.cons_append, okR, if_neg (h c (by simp)), okR_app a (cur ++ [c]) r fun x hx => h x (by simp [hx])]
  simp
def okT (w : Nat) (T : List UInt8) : Prop := T = [] ∨ ∃ T', T = 10 :: T' ∧ okR w [] T'
theorem okR_end {w : Nat} {cur T : List UInt8} (h : okLine w cur) (hT : okT w T) : okR w cur T := by
 rcases hT with rfl | ⟨T', rfl, h'⟩
 ·exact h
 ·rw [okR, if_pos rfl]; exact ⟨h, h'⟩
def gapA (P : List UInt8) : Prop := ∀ c ∈ P, c = 32 ∨ c = 40 ∨ c = 41
theorem gap_ne10 {P : List UInt8} (h : gapA P) : ∀ c ∈ P, c ≠ 10 := fun c hc => by rcases h c hc with rfl | rfl | rfl <;> decide
theorem gap_app {P Q : List UInt8} (h : gapA P) (h' : gapA Q) : gapA (P ++ Q) := fun c hc => (List.mem_append.1 hc).elim (h c) (h' c)
theorem gap_cl (n : Nat) : gapA (List.replicate n 41) := fun c hc => .inr (.inr (List.eq_of_mem_replicate hc))
theorem gap_bl (n : Nat) : gapA (blanksS n) := fun c hc => .inl (List.eq_of_mem_replicate hc)
theorem parts_after {g : List UInt8} (h : gapA g) (i : Bool) : partsS i false g = 0 := parts_none h i
theorem ok_atom {w : Nat} {P Q : List UInt8} {f : Fm} (hf : fieldsF f = true) (ha : f.k ≠ 3 ∨ f.l = []) (hP : gapA P) (hQ : gapA Q) : okLine w (P ++ (wr f ++ Q)) := by
 right
 rw [parts_gap hP]
 obtain ⟨i, h⟩ := parts_atom hf ha Q
 rw [parts_after hQ] at h
 omega
theorem ok_two {w : Nat} {P Q : List UInt8} {f g : Fm} (hf : fieldsF f = true) (ha : f.k ≠ 3 ∨ f.l = []) (hg : fieldsF g = true) (hga : g.k ≠ 3 ∨ g.l = []) (hP : gapA P) (hQ : gapA Q) : okLine w (P ++ (wr f ++ (32 :: (wr g ++ Q)))) := by
 right
 rw [parts_gap hP]
 obtain ⟨i, h⟩ := parts_atom hf ha (32 :: (wr g ++ Q))
 have e : partsS i false (32 :: (wr g ++ Q)) = partsS false false (wr g ++ Q) := parts_gap' (a := [32]) (by simp) (by simp) i _
 rw [e] at h
 obtain ⟨j, h'⟩ := parts_atom hg hga Q
 rw [parts_after hQ] at h'
 omega
def LayOK (w : Nat) (f : Fm) : Prop := ∀ c cl P T, P.length = c → gapA P → okT w T → okR w P (layF w f c cl ++ (List.replicate cl 41 ++ T))
theorem layL_ok {w : Nat} : ∀ (l : List Fm) (ind cl : Nat) (cur T : List UInt8), (∀ f ∈ l, LayOK w f) → okLine w cur → okLine w (cur ++ List.replicate (cl + 1) 41) → okT w T → okR w cur (layL w l 0 true ind cl ++ (List.replicate (cl + 1) 41 ++ T))
 | [], ind, cl, cur, T, _, h1, h2, hT => by
  rw [layL, List.nil_append, okR_app _ _ _ (gap_ne10 (gap_cl _))]
  exact okR_end h2 hT
 | f :: r, ind, cl, cur, T, h, h1, h2, hT => by
  rw [layL, if_pos rfl]
  have e : 10 :: blanksS ind ++ (layF w f ind (if r = [] then cl + 1 else 0) ++ layL w r 0 true ind cl) ++ (List.replicate (cl + 1) 41 ++ T) = 10 :: (blanksS ind ++ (layF w f ind (if r = [] then cl + 1 else 0) ++ (layL w r 0 true ind cl ++ (List.replicate (cl + 1) 41 ++ T)))) := by simp
  rw [e, okR, if_pos rfl]
  refine ⟨h1, ?_⟩
  rw [okR_app _ _ _ (gap_ne10 (gap_bl _)), List.nil_append]
  cases r with
  | nil =>
   rw [if_pos rfl]
   have := h f (by simp) ind (cl + 1) (blanksS ind) T (by simp [blanksS]) (gap_bl _) hT
   simpa [layL] using this
  | cons g r' =>
   rw [if_neg (by simp)]
   have hr := layL_ok (g :: r') ind cl [] T (fun x hx => h x (List.mem_cons_of_mem _ hx)) (.inr (by simp [partsS])) (.inr (by rw [List.nil_append, parts_none (gap_cl _)]; omega)) hT
   have hT2 : okT w (layL w (g :: r') 0 true ind cl ++ (List.replicate (cl + 1) 41 ++ T)) := by
    rw [layL, if_pos rfl] at hr ⊢
    simp only [List.cons_append, okR, if_pos] at hr ⊢
    exact .inr ⟨_, rfl, hr.2⟩
   have := h f (by simp) ind 0 (blanksS ind) _ (by simp [blanksS]) (gap_bl _) hT2
   simpa using this
theorem lay_ok (w : Nat) : ∀ f : Fm, fieldsF f = true → LayOK w f := Fm.ind fun k n t l ih hf c cl P T hPc hP hT => by
 rw [layF]
 split
 ·rename_i hc
  have hno := wr_ne10 _ hf
  rw [okR_app _ _ _ hno, okR_app _ _ _ (gap_ne10 (gap_cl _))]
  refine okR_end ?_ hT
  rcases hc with hc | hc
  ·left
   simp only [List.length_append, List.length_replicate]
   omega
  ·rw [List.append_assoc]
   exact ok_atom hf hc hP (gap_cl _)
 ·rename_i hc
  simp only [not_or, Decidable.not_not] at hc
  obtain ⟨_, hk, hl⟩ := hc
  have hf' := hf
  rw [fieldsF_eq] at hf'
  simp only [Bool.and_eq_true] at hf'
  obtain ⟨h1, h2⟩ := hf'
  simp only [Fm.k, Fm.n, Fm.t, Fm.l] at h1 h2
  have hall : ∀ f ∈ l, LayOK w f := fun f hm => ih f hm (fieldsL_mem h2 f hm)
  rw [layL_skip]
  have hP1 : gapA (P ++ [40]) := gap_app hP (by intro c hc; simp at hc; exact .inr (.inl hc))
  have e0 : ∀ X : List UInt8, 40 :: (frontB l ++ (X ++ [41])) ++ (List.replicate cl 41 ++ T) = 40 :: (frontB l ++ (X ++ (List.replicate (cl + 1) 41 ++ T))) := by intro X; simp [List.replicate_succ]
  rw [e0, okR, if_neg (by decide)]
  cases l with
  | nil => exact absurd rfl hl
  | cons h r =>
   by_cases hk1 : h.k = 1
   ·have hfh := fieldsL_mem h2 h (by simp)
    have hwh := word_eta hk1 hfh
    have hah : h.k ≠ 3 ∨ h.l = [] := .inl (by rw [hk1]; decide)
    have hnh := wr_ne10 h hfh
    have one1 : okLine w (P ++ [40] ++ wr h) := by have := ok_atom (w := w) (Q := []) hfh hah hP1 (by intro c hc; cases hc); simpa using this
    have one2 : okLine w (P ++ [40] ++ wr h ++ List.replicate (cl + 1) 41) := by have := ok_atom (w := w) hfh hah hP1 (gap_cl (cl + 1)); simpa using this
    cases r with
    | nil =>
     have e1 : manyF [h] = 1 := by simp [manyF, hk1]
     have e2 : frontB [h] = h.t := by simp [frontB, hk1]
     rw [e1, e2, ← hwh]
     simp only [List.drop_succ_cons, List.drop_nil]
     rw [okR_app _ _ _ hnh]
     exact layL_ok [] _ _ _ _ (fun f hm => by cases hm) one1 one2 hT
    | cons g r' =>
     have hfg := fieldsL_mem h2 g (by simp)
     by_cases hk3 : g.k = 3
     ·have e1 : manyF (h :: g :: r') = 1 := by simp [manyF, hk1, hk3]
      have e2 : frontB (h :: g :: r') = h.t := by simp [frontB, hk1, hk3]
      rw [e1, e2, ← hwh]
      rw [show List.drop 1 (h :: g :: r') = g :: r' from rfl, okR_app _ _ _ hnh]
      exact layL_ok _ _ _ _ _ (fun f hm => hall f (by simp at hm ⊢; exact .inr hm)) one1 one2 hT
     ·have e1 : manyF (h :: g :: r') = 2 := by simp [manyF, hk1, hk3]
      have e2 : frontB (h :: g :: r') = h.t ++ (32 :: wr g) := by simp [frontB, hk1, hk3]
      rw [e1, e2, ← hwh]
      have hng := wr_ne10 g hfg
      rw [show List.drop 2 (h :: g :: r') = r' from rfl, okR_app (wr h ++ (32 :: wr g)) _ _ (fun c hc => by
       rcases List.mem_append.1 hc with hc | hc
       ·exact hnh c hc
       ·rcases List.mem_cons.1 hc with rfl | hc
        ·decide
        ·exact hng c hc)]
      refine layL_ok _ _ _ _ _ (fun f hm => hall f (by simp [hm])) ?_ ?_ hT
      ·have := ok_two (w := w) (Q := []) hfh hah hfg (.inl hk3) hP1 (by intro c hc; cases hc); simpa using this
      ·have := ok_two (w := w) hfh hah hfg (.inl hk3) hP1 (gap_cl (cl + 1)); simpa using this
   ·have e1 : manyF (h :: r) = 0 := by simp [manyF, hk1]
    have e2 : frontB (h :: r) = [] := by simp [frontB, hk1]
    rw [e1, e2, List.nil_append, List.drop_zero, if_pos rfl]
    rw [show (!decide (0 = 0)) = false from rfl, layL, if_neg (by decide), List.nil_append, List.append_assoc]
    cases r with
    | nil =>
     rw [if_pos rfl]
     have := hall h (by simp) (c + 1) (cl + 1) (P ++ [40]) T (by simp [hPc]) hP1 hT
     simpa [layL] using this
    | cons g r' =>
     rw [if_neg (by simp)]
     have hr := layL_ok (g :: r') (c + 1) cl [] T (fun x hx => hall x (List.mem_cons_of_mem _ hx)) (.inr (by simp [partsS])) (.inr (by rw [List.nil_append, parts_none (gap_cl _)]; omega)) hT
     have hT2 : okT w (layL w (g :: r') 0 true (c + 1) cl ++ (List.replicate (cl + 1) 41 ++ T)) := by
      rw [layL, if_pos rfl] at hr ⊢
      simp only [List.cons_append, okR, if_pos] at hr ⊢
      exact .inr ⟨_, rfl, hr.2⟩
     have := hall h (by simp) (c + 1) 0 (P ++ [40]) _ (by simp [hPc]) hP1 hT2
     simpa using this
end Go.Ab

set_option maxRecDepth 100000
set_option maxHeartbeats 1000000
namespace Go.Ab
open Go Go.RowKit Go.Proofs
theorem ex_read : readS [40, 102, 32, 32, 32, 49, 41] = ([.mk 3 0 [] [.mk 1 0 [102] [], .mk 0 1 [] []]], 0, ()) := by kernel_rfl
theorem ex_items (fs : List Fm) (f : Fm) : IT true [40, 102, 32, 32, 32, 49, 41] [f] = [([], f)] := by
 rw [IT_cons, if_neg (by decide), if_neg (by decide), if_neg (by decide)]
 have : PA 0 [40, 102, 32, 32, 32, 49, 41] = [] := by decide +kernel
 simp only [this, IT_nil]
theorem ex_wr : wr (.mk 3 0 [] [.mk 1 0 [102] [], .mk 0 1 [] []]) = [40, 102, 32, 49, 41] := by
 have : Lib.itoa 1 = [49] := by rw [Lib.itoa, if_neg (by decide)]; exact Lib.decDigits_one (by decide)
 simp [wr, wrL, this]
theorem sane02_val : G_sane02 = some true := by
 unfold G_sane02
 rw [layText_val]
 have e : textV [40, 102, 32, 32, 32, 49, 41] 40 = ([40, 102, 32, 49, 41, 10], 0, ()) := by
  unfold textV
  rw [if_pos (by decide), ex_read]
  simp only [if_true, ex_items []]
  have hl : layF (40 : Int).toNat (.mk 3 0 [] [.mk 1 0 [102] [], .mk 0 1 [] []]) 0 0 = [40, 102, 32, 49, 41] := by
   rw [layF_eq, ex_wr, if_pos (by left; decide)]
  rw [outS, if_pos rfl, outS, hl]
  rfl
 rw [e]
 simp
theorem lparts_val {s : List UInt8} (hs : s.length ≤ 1000000000) : ∃ v : Int, G_lparts s = some v ∧ v = (partsS false false s : Int) := by
 unfold G_lparts
 refine yloop (fun d => ∃ (m i : Nat) (a b : Bool), d = ((s, (m : Int), a, b, (i : Int), ()), ()) ∧ i ≤ s.length + 1 ∧ m ≤ i ∧ m + partsS a b (s.drop i) = partsS false false s) (fun d => s.length + 1 - d.1.2.2.2.2.1.toNat) _ ?_ ⟨0, 0, false, false, rfl, by omega, Nat.le_refl _, by simp⟩
 rintro d ⟨m, i, a, b, rfl, hi, hm, hp⟩
 dsimp only
 by_cases hi' : i < s.length
 ·left
  have e1 : decide ((i : Int) < (s.length : Int)) = true := by simp [hi']
  have e2 : ixOK (i : Int) s.length = true := ixOK_iff.2 (by omega)
  have hd := ydrop hi'
  rw [e1, e2, ybyte hi']
  obtain ⟨c, hc⟩ : ∃ c, c = s[i] := ⟨_, rfl⟩
  rw [← hc] at hd ⊢
  have b92 : decide (((c.toNat : Nat) : Int) = 92) = decide (c = 92) := ybyteD c 92 (by decide)
  have b34 : decide (((c.toNat : Nat) : Int) = 34) = decide (c = 34) := ybyteD c 34 (by decide)
  have b32 : decide (((c.toNat : Nat) : Int) = 32) = decide (c = 32) := ybyteD c 32 (by decide)
  have b40 : decide (((c.toNat : Nat) : Int) = 40) = decide (c = 40) := ybyteD c 40 (by decide)
  have b41 : decide (((c.toNat : Nat) : Int) = 41) = decide (c = 41) := ybyteD c 41 (by decide)
  rw [b92, b34, b32, b40, b41]
  simp only [Bool.true_or, cond_true]
  rw [hd] at hp
  have go : ∀ (m' i' : Nat) (a' b' : Bool), i < i' → i' ≤ s.length + 1 → m' ≤ i' → m' + partsS a' b' (s.drop i') = partsS false false s → ∀ X : Option (((List UInt8) × Int × Bool × Bool × Int × Unit) × (Unit)), X = some ((s, (m' : Int), a', b', (i' : Int) - 1, ()), ()) →
    ∃ l', Option.bind X (fun d7 : ((List UInt8) × Int × Bool × Bool × Int × Unit) × (Unit) => some (Step.next (R := (Int × Unit) × (Unit)) ((d7.1.1, d7.1.2.1, d7.1.2.2.1, d7.1.2.2.2.1, IntKind.wrap .i64 (d7.1.2.2.2.2.1 + 1), ()), ()))) = some (.next l') ∧
     (∃ (m i : Nat) (a b : Bool), l' = ((s, (m : Int), a, b, (i : Int), ()), ()) ∧ i ≤ s.length + 1 ∧ m ≤ i ∧ m + partsS a b (s.drop i) = partsS false false s) ∧ s.length + 1 - l'.1.2.2.2.2.1.toNat < s.length + 1 - (i : Int).toNat := by
   intro m' i' a' b' h1 h2 h3 h4 X hX
   have ew : IntKind.wrap .i64 ((i' : Int) - 1 + 1) = (i' : Int) := by rw [w64 (by omega) (by omega)]; omega
   rw [hX]
   refine ⟨_, rfl, ⟨m', i', a', b', by dsimp only; rw [ew], h2, h3, h4⟩, by dsimp only; rw [ew]; simp only [Int.toNat_natCast]; omega⟩
  have ej : (((i + 1 : Nat) : Int) - 1) = (i : Int) := by omega
  have ej2 : (((i + 2 : Nat) : Int) - 1) = ((i + 1 : Nat) : Int) := by omega
  have wm : IntKind.wrap .i64 ((m : Int) + 1) = ((m + 1 : Nat) : Int) := wrapN (by omega)
  cases b with
  | true =>
   simp only [cond_true]
   by_cases h92 : c = 92
   ·rw [decide_eq_true h92, cond_true]
    refine go m (i + 2) a true (by omega) (by omega) (by omega) ?_ _ (by rw [ej2, wrapN (by omega)])
    rw [← hp, h92]
    by_cases h2 : i + 1 < s.length
    ·rw [ydrop h2, partsS, if_pos rfl]
    ·rw [List.drop_of_length_le (show s.length ≤ i + 1 by omega), List.drop_of_length_le (show s.length ≤ i + 2 by omega)]; simp [partsS]
   ·rw [decide_eq_false h92, cond_false]
    by_cases h34 : c = 34
    ·rw [decide_eq_true h34, cond_true]
     refine go m (i + 1) false false (by omega) (by omega) (by omega) ?_ _ (by rw [ej])
     rw [← hp, h34]
     cases hx : s.drop (i + 1) with
     | nil => simp [partsS]
     | cons x y => rw [partsS, if_neg (by decide), if_pos rfl]
    ·rw [decide_eq_false h34, cond_false]
     refine go m (i + 1) a true (by omega) (by omega) (by omega) ?_ _ (by rw [ej])
     rw [← hp]
     cases hx : s.drop (i + 1) with
     | nil => simp [partsS]
     | cons x y => rw [partsS, if_neg h92, if_neg h34]
  | false =>
   simp only [cond_false]
   rw [partsS] at hp
   by_cases h34 : c = 34
   ·rw [decide_eq_true h34, cond_true]
    rw [if_pos h34] at hp
    exact go (m + 1) (i + 1) a true (by omega) (by omega) (by omega) (by omega) _ (by rw [ej, wm])
   ·rw [decide_eq_false h34, cond_false]
    rw [if_neg h34] at hp
    by_cases hg : c = 32 ∨ c = 40 ∨ c = 41
    ·have eg : cond (cond (decide (c = 32)) true (decide (c = 40))) true (decide (c = 41)) = true := by
      rcases hg with h | h | h
      ·rw [decide_eq_true h]; rfl
      ·rw [decide_eq_true h]; cases decide (c = 32) <;> rfl
      ·rw [decide_eq_true h]; cases decide (c = 32) <;> cases decide (c = 40) <;> rfl
     rw [if_pos hg] at hp
     rw [eg, cond_true]
     exact go m (i + 1) false false (by omega) (by omega) (by omega) hp _ (by rw [ej])
    ·have eg : cond (cond (decide (c = 32)) true (decide (c = 40))) true (decide (c = 41)) = false := by
      simp only [not_or] at hg
      rw [decide_eq_false hg.1, decide_eq_false hg.2.1, decide_eq_false hg.2.2]; rfl
     rw [if_neg hg] at hp
     rw [eg, cond_false]
     cases a with
     | true =>
      rw [if_pos rfl] at hp
      exact go m (i + 1) true false (by omega) (by omega) (by omega) hp _ (by rw [ej]; rfl)
     | false =>
      rw [if_neg (by decide)] at hp
      exact go (m + 1) (i + 1) true false (by omega) (by omega) (by omega) (by omega) _ (by rw [ej]; simp only [Bool.not_false, cond_true, wm])
 ·right
  have e1 : decide ((i : Int) < (s.length : Int)) = false := by apply decide_eq_false; omega
  rw [e1, cond_false]
  refine ⟨_, rfl, _, rfl, ?_⟩
  rw [List.drop_of_length_le (show s.length ≤ i by omega)] at hp
  have : partsS a b [] = 0 := by cases b <;> rfl
  dsimp only
  omega
theorem lawWide_val {f : Fm} (n : Int) (hb : f.big ≤ 4611686018427387000) : G_lawWide f n = some true := by
 unfold G_lawWide
 simp only [Fm.eta_eq, layFormat_val n hb, Option.bind_some]
 unfold fmtS
 by_cases hc : isW n = true ∧ validF f = true
 ·rw [if_pos hc]
  obtain ⟨w, rfl, hw1, hw2⟩ := isW_of hc.1
  simp only [decide_true, Bool.not_true, cond_false, Int.toNat_natCast]
  have hok : okR w [] (layF w f 0 0) := by
   have := lay_ok w f (validF_of hc.2).1 0 0 [] [] rfl (by intro c hc; cases hc) (.inl rfl)
   simpa using this
  have hlen := lay_len0 w hc.2
  generalize layF w f 0 0 = s at hok hlen
  refine Up.get ?_
  refine up_inv (N := False) (fun d => ∃ a i : Nat, d = (((w : Int), s, (a : Int), (i : Int), ()), ()) ∧ a ≤ i ∧ i ≤ s.length + 1 ∧ (i ≤ s.length → okR w ((s.drop a).take (i - a)) (s.drop i))) (fun d => s.length + 2 - d.1.2.2.2.1.toNat) ?_ ⟨0, 0, rfl, Nat.le_refl _, by omega, fun _ => by simpa using hok⟩
  rintro d ⟨a, i, rfl, ha, hi, hk⟩
  dsimp only
  by_cases hi' : i ≤ s.length
  ·left
   have e1 : decide ((i : Int) ≤ (s.length : Int)) = true := by apply decide_eq_true; omega
   have hk := hk hi'
   rw [e1, cond_true]
   have next : ∀ a' : Nat, a' ≤ i + 1 → (i + 1 ≤ s.length → okR w ((s.drop a').take (i + 1 - a')) (s.drop (i + 1))) →
     (∃ l', (some (Step.next (R := Step ((Unit) × (Unit)) (Bool)) (((w : Int), s, (a' : Int), IntKind.wrap .i64 ((i : Int) + 1), ()), ()))) = some (.next l') ∧ (∃ a i : Nat, l' = (((w : Int), s, (a : Int), (i : Int), ()), ()) ∧ a ≤ i ∧ i ≤ s.length + 1 ∧ (i ≤ s.length → okR w ((s.drop a).take (i - a)) (s.drop i))) ∧ s.length + 2 - l'.1.2.2.2.1.toNat < s.length + 2 - (i : Int).toNat) := by
    intro a' h1 h2
    rw [wrapN (show i < 4611686018427387904 by omega)]
    exact ⟨_, rfl, ⟨a', i + 1, rfl, h1, by omega, h2⟩, by simp only [Int.toNat_natCast]; omega⟩
   have x1 : slOK (a : Int) (i : Int) s.length = true := slOK_iff.2 (by omega)
   have w1 : IntKind.wrap .i64 ((i : Int) - (a : Int)) = ((i - a : Nat) : Int) := by rw [w64 (by omega) (by omega)]; omega
   have lineEnd : okLine w ((s.drop a).take (i - a)) → (i + 1 ≤ s.length → okR w [] (s.drop (i + 1))) → ∀ (G : Step ((Int × (List UInt8) × Int × Int × Unit) × (Unit)) (Step ((Int × (List UInt8) × Int × Int × Unit) × (Unit)) (Step ((Unit) × (Unit)) (Bool))) → Option (Step ((Int × (List UInt8) × Int × Int × Unit) × (Unit)) (Step ((Unit) × (Unit)) (Bool)))),
     (∀ q, G (.next q) = some (Step.next ((q.1.1, q.1.2.1, q.1.2.2.1, IntKind.wrap .i64 (q.1.2.2.2.1 + 1), ()), ()))) →
     (∃ l', Option.bind (cond ((slOK (a : Int) (i : Int) s.length) || !(decide (IntKind.wrap .i64 ((i : Int) - (a : Int)) > (w : Int)))) (Option.bind (α := Int) (cond (decide (IntKind.wrap .i64 ((i : Int) - (a : Int)) > (w : Int))) (G_lparts ((s.drop (a : Int).toNat).take ((i : Int).toNat - (a : Int).toNat))) (some (0 : Int))) fun r8 => (
      cond (cond (decide (IntKind.wrap .i64 ((i : Int) - (a : Int)) > (w : Int))) (decide (r8 > 3)) false) (some (Step.done (Step.done (Step.done false)))) (some (Step.next (((w : Int), s, IntKind.wrap .i64 ((i : Int) + 1), (i : Int), ()), ()))))) none) G = some (.next l') ∧ (∃ a i : Nat, l' = (((w : Int), s, (a : Int), (i : Int), ()), ()) ∧ a ≤ i ∧ i ≤ s.length + 1 ∧ (i ≤ s.length → okR w ((s.drop a).take (i - a)) (s.drop i))) ∧ s.length + 2 - l'.1.2.2.2.1.toNat < s.length + 2 - (i : Int).toNat) := by
    intro hl hn G hG
    have hll : ((s.drop a).take (i - a)).length = i - a := by rw [List.length_take, List.length_drop]; omega
    rw [x1, w1]
    simp only [Bool.true_or, cond_true, Int.toNat_natCast]
    have fin := next (i + 1) (Nat.le_refl _) fun h => by rw [Nat.sub_self, List.take_zero]; exact hn h
    have hG' := hG (((w : Int), s, ((i + 1 : Nat) : Int), (i : Int), ()), ())
    by_cases hgt : i - a > w
    ·rw [decide_eq_true (show ((i - a : Nat) : Int) > (w : Int) by omega)]
     obtain ⟨v, hv, hv2⟩ := lparts_val (s := (s.drop a).take (i - a)) (by rw [hll]; omega)
     have hp : partsS false false ((s.drop a).take (i - a)) ≤ 3 := by
      rcases hl with h | h
      ·rw [hll] at h; omega
      ·exact h
     simp only [cond_true, hv, Option.bind_some]
     rw [decide_eq_false (show ¬ v > 3 by omega), cond_false, wrapN (show i < 4611686018427387904 by omega)]
     simp only [Option.bind_some, hG']
     exact fin
    ·rw [decide_eq_false (show ¬ ((i - a : Nat) : Int) > (w : Int) by omega)]
     simp only [cond_false, Option.bind_some]
     rw [wrapN (show i < 4611686018427387904 by omega)]
     simp only [hG']
     exact fin
   by_cases hil : i < s.length
   ·have e2 : ixOK (i : Int) s.length = true := ixOK_iff.2 (by omega)
    have e3 : decide ((i : Int) < (s.length : Int)) = true := by simp [hil]
    have hd := ydrop hil
    have b10 : decide (((s[i].toNat : Nat) : Int) = 10) = decide (s[i] = 10) := ybyteD s[i] 10 (by decide)
    rw [hd, okR] at hk
    rw [e2, e3, ybyte hil, b10]
    simp only [Bool.true_or, cond_true]
    by_cases h10 : s[i] = 10
    ·rw [if_pos h10] at hk
     rw [decide_eq_true h10]
     simp only [Bool.not_true, cond_false]
     exact lineEnd hk.1 (fun _ => hk.2) _ fun q => rfl
    ·rw [if_neg h10] at hk
     rw [decide_eq_false h10]
     simp only [Bool.not_false, cond_true, Option.bind_some]
     refine next a (by omega) fun h => ?_
     have : (s.drop a).take (i + 1 - a) = (s.drop a).take (i - a) ++ [s[i]] := by
      rw [show i + 1 - a = (i - a) + 1 by omega, List.take_add_one]
      congr 1
      rw [List.getElem?_drop, show a + (i - a) = i by omega, List.getElem?_eq_getElem hil]; rfl
     rw [this]; exact hk
   ·have hie : i = s.length := by omega
    have e3 : decide ((i : Int) < (s.length : Int)) = false := by apply decide_eq_false; omega
    rw [e3]
    simp only [Bool.not_false, Bool.or_true, cond_true, cond_false]
    rw [List.drop_of_length_le (show s.length ≤ i by omega), okR] at hk
    exact lineEnd hk (fun h => by omega) _ fun q => rfl
  ·right; left
   have e1 : decide ((i : Int) ≤ (s.length : Int)) = false := by apply decide_eq_false; omega
   rw [e1, cond_false]
   refine ⟨_, rfl, .of ?_⟩
   simp only [sane02_val, Option.bind_some]
 ·rw [if_neg hc]
  simp [sane02_val]
theorem wide_call {f : Fm} {n : Int} (hb : f.big ≤ 4611686018427387000) : PCall CX 5 [.agg (E.cells .form f), .int .i64 n] (· = .ret (.bool true)) :=
 S_lawWide_ok (f, n, ()) true (lawWide_val n hb)
end Go.Ab

set_option maxRecDepth 100000
namespace Go.Proofs.YthbkbjlfghikfaaGreatDoor.layoutWide
open Go Go.ChangeShapes Go.WideShapes Go.ChangeAt Go.RowKit Go.Ab
theorem own : ownKnob Tryz.prog.godebug = none := by kernel_rfl
def flat {H : Type} : Nat → DataW H → List Value
 | 0, _ => []
 | n + 1, d => match d with
  | .lit (.int k x) => [.int k x]
  | .agg l => l.flatMap (flat n)
  | _ => []
noncomputable def lay (W : World) (name : String) (d : DataW Unit) : World :=
 match Tryz.prog.globalNamed name with
 | some g => match d with
  | .iface _ (.ptr (.agg [.lit (.string bs)])) => { W with heap := (W.heap.push (.cells #[.string ⟨bs.toArray⟩] 241 (0, 0))).modify g fun
   | .cells _ t fz => .cells #[.iface 239 (.pointer (some ⟨W.heap.size, 0, none⟩))] t fz
   | o => o }
  | d => { W with heap := W.heap.modify g fun
   | .cells _ t fz => .cells (flat 4 d).toArray t fz
   | o => o }
 | none => W
noncomputable def laidWorld (os : Os) : World :=
 lay (lay (lay (lay (lay (lay (lay (World.holding Tryz.prog os ⟨#[], #[], []⟩) "math/bits.deBruijn32tab" Rows.laid_math_bits_deBruijn32tab) "math/bits.deBruijn64tab" Rows.laid_math_bits_deBruijn64tab) "internal/strconv.uint64pow10" Rows.laid_internal_strconv_uint64pow10) "unicode/utf8.acceptRanges" Rows.laid_unicode_utf8_acceptRanges) "strconv.ErrRange" Rows.laid_strconv_ErrRange) "strconv.ErrSyntax" Rows.laid_strconv_ErrSyntax) "unicode/utf8.first" Rows.laid_unicode_utf8_first
theorem laid_met (os : Os) : laidMet Tryz.prog Rows.layoutWideUptoRow.laid ((laidWorld os).forCall (fun _ _ => 0) ⟨#[], #[(.agg #[.int .i64 0, .int .i64 0, .string ⟨#[]⟩, .slice none 0 0]), (.int .i64 0)], []⟩).memory :=
 laidMet_of_run' 8 (by kernel_rfl) (by kernel_rfl)
theorem reads (os : Os) {H : Type} (enc : TypeId × Value → H) : ∃ places, DataW.whole enc Tryz.prog ((laidWorld os).forCall (fun _ _ => 0) ⟨#[], #[(.agg #[.int .i64 0, .int .i64 0, .string ⟨#[]⟩, .slice none 0 0]), (.int .i64 0)], []⟩).memory Tryz.f5.params.toList Rows.layoutWideSpec.vars false (#[(.agg #[.int .i64 0, .int .i64 0, .string ⟨#[]⟩, .slice none 0 0]), (.int .i64 0)] : Array Value).toList 8 = some ([(.agg [.lit (.int .i64 0), .lit (.int .i64 0), .lit (.string []), .nil]), (.lit (.int .i64 0))], [], places) :=
 ⟨[], by kernel_rfl⟩
theorem spec_fn (H : Type) (ds : List (DataW H)) (h : ds.length = Tryz.f5.params.toList.length) : Rows.layoutWideSpec.fn H ds = { results := [.lit (.bool true)], args := ds } := by
 rw [Tryz.params5] at h
 rcases ds with _ | ⟨d0, _ | ⟨d1, _ | ⟨e, ds⟩⟩⟩
 all_goals first | (simp at h; done) | rfl
theorem contract (H : Type) (enc : TypeId × Value → H) (W : World) (base : Nat) (args : Array Value) (ds gs : List (DataW H)) (before : List MemPlace)
  (hval : ∀ (j : Nat) t v, Tryz.f5.params[j]? = some t → args[j]? = some v → Value.okWide Tryz.prog W .any base t v)
  (hW : DataW.Whole enc Tryz.prog Tryz.f5.params.toList Rows.layoutWideSpec.vars false W args.toList ds gs before) (hb : Rows.uptoSmall H (ds ++ gs) = true) (hE : ErrW W) :
  Calls Tryz.prog 5 args W fun e W' => ∃ v, e = .returned v ∧ Rows.layoutWideSpec.post enc Tryz.prog Tryz.f5 false true false false W args v W' :=
 contract_of (es := [.form, (.int .i64)]) (n := 12) (tb := 4) rfl spec_fn (by kernel_rfl) (by kernel_rfl) (by kernel_rfl) (by kernel_rfl) (by kernel_rfl) (by kernel_rfl) (fun x hb _ => wide_call (f := x.1) (n := x.2.1) (by simp only [bigA, bigE] at hb; omega)) H enc W base args ds gs before hval hW hb hE
theorem lifted (os : Os) (started : os.Started) (H : Type) (enc : TypeId × Value → H) (F : Stop.Interp) :
  ReturnsInHanded {} Tryz.checked os 5 .any ((Rows.OpenSpec.upto Rows.layoutWideSpec).preRow enc Tryz.prog Tryz.f5 Rows.layoutWideUptoRow.domain false Rows.layoutWideUptoRow.laid) (((Rows.OpenSpec.upto Rows.layoutWideSpec).at F).post enc Tryz.prog Tryz.f5 false true false false) := by
 obtain ⟨places, hx⟩ := reads os enc
 refine returnsInHanded_of_row (C := Tryz.checked) (s := Rows.OpenSpec.upto Rows.layoutWideSpec) own started (by kernel_rfl) Tryz.func5
  (witness_row_at (enc := enc) (C := Tryz.checked) false (laidWorld os) #[(.agg #[.int .i64 0, .int .i64 0, .string ⟨#[]⟩, .slice none 0 0]), (.int .i64 0)] rfl (by kernel_rfl) (by kernel_rfl) (by kernel_rfl)
   (OpenSpec.preRow_of_cond 8 hx (by kernel_rfl) (fun k hk => by cases hk; kernel_rfl) (by kernel_rfl) (laid_met os))) ?_
 intro W base args ds gs before hval hW g1 g2 g3 hL g4 g5
 exact contract H enc W base args ds gs before hval hW (g2 _ rfl) (errW_of hL (show ("strconv.ErrRange", Rows.laid_strconv_ErrRange) ∈ Rows.layoutWideUptoRow.laid from by simp [Rows.layoutWideUptoRow]) (fun q hq => by rcases List.mem_singleton.1 hq with rfl; exact (show ("internal/strconv.uint64pow10", Rows.laid_internal_strconv_uint64pow10) ∈ Rows.layoutWideUptoRow.laid from by simp [Rows.layoutWideUptoRow])))
theorem band {a b : Bool} (h : a = true) (h' : b = true) : (a && b) = true := by rw [h, h']; rfl
theorem fact1 : (Rows.layoutWideUptoRow.inPlace == Tryz.pinned.checked.prog.inPlace 5) = true := by kernel_rfl
theorem fact2 : (Rows.layoutWideUptoRow.unfollowed == Tryz.pinned.checked.prog.unfollowed 5) = true := by kernel_rfl
theorem fact3 : (Rows.layoutWideUptoRow.recurses == Tryz.pinned.checked.prog.recurses 5) = true := by kernel_rfl
theorem fact4 : (Rows.layoutWideUptoRow.named == Tryz.pinned.checked.prog.varsNamed 5) = true := by kernel_rfl
theorem fact5 : Tryz.pinned.checked.prog.mayEnter = true := by kernel_rfl
theorem fact6 : Tryz.pinned.checked.prog.stopsHeard = true := by kernel_rfl
theorem closed : joinedFacts Tryz.pinned.checked.prog 5 Tryz.f5 (Rows.OpenSpec.upto Rows.layoutWideSpec).bare Rows.layoutWideUptoRow = true := by
 unfold joinedFacts
 repeat' with_reducible refine band ?_ ?_
 all_goals first | with_reducible exact fact1 | with_reducible exact fact2 | with_reducible exact fact3 | with_reducible exact fact4 | with_reducible exact fact5 | with_reducible exact fact6 | kernel_rfl
theorem said : Rows.LayoutWideUptoSaid :=
 OpenClaim.holds_of_cond 5 Tryz.f5 rfl rfl rfl rfl rfl rfl rfl ⟨rfl, rfl, rfl, rfl, rfl⟩ rfl rfl rfl rfl rfl (by as_aux_lemma => kernel_rfl) Tryz.func5 closed
  (of_decide_eq_true (by kernel_rfl)) (by unfold Func.isWrapper; first | (rw [if_pos (by decide +kernel)]; kernel_rfl) | (rw [if_neg (by decide +kernel)]; exact ⟨rfl, rfl⟩))
  (fun os started H enc _ F => by rw [OpenClaim.pre_eq_preRow]; exact lifted os started H enc F)
theorem plain (f : FuncId) (fn : Func) (hf : Tryz.pinned.checked.prog.funcNamed "plinth/plinthlaw02.LayoutWide" = some f) (hfn : Tryz.pinned.checked.prog.funcs[f]? = some fn) :
  true = Tryz.pinned.checked.prog.looks [] ∧ ∀ (j : Nat) t, fn.params[j]? = some t → Tryz.pinned.checked.prog.wantsStandIn t = false := by
 obtain rfl : f = 5 := Option.some.inj ((show Tryz.prog.funcNamed "plinth/plinthlaw02.LayoutWide" = some 5 by kernel_rfl).symm.trans hf) |>.symm
 obtain rfl : fn = Tryz.f5 := (Option.some.inj (Tryz.func5.symm.trans hfn)).symm
 refine ⟨by kernel_rfl, fun j t ht => ?_⟩
 rw [Tryz.params5] at ht
 have hm := Array.mem_of_getElem? ht
 simp only [List.mem_toArray, List.mem_cons, List.mem_nil_iff, or_false] at hm
 have w0 : Tryz.prog.wantsStandIn 24 = false := by kernel_rfl
 have w1 : Tryz.prog.wantsStandIn 3 = false := by kernel_rfl
 rcases hm with h | h <;> rw [h] <;> first | exact w0 | exact w1
theorem proved : Rows.LayoutWideUptoCardSaid :=
 Claim7.holds_tied_plain_at .later _ _ _ _ _ said (fun _ h => by cases h) (by kernel_rfl) (fun _ h => by cases h) layoutWideUpto_row_tie rfl ⟨rfl, rfl⟩ (by kernel_rfl) rfl plain (by kernel_rfl)
#print axioms proved
end Go.Proofs.YthbkbjlfghikfaaGreatDoor.layoutWide
