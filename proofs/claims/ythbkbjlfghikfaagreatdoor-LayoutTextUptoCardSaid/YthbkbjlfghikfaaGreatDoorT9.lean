/- merged by minib.py -/
import Derived.Test.YthbkbjlfghikfaaGreatDoorT8
import Derived.Test.YthbkbjlfghikfaaGreatDoorT5
set_option linter.unusedVariables false
set_option linter.unusedSimpArgs false
set_option maxRecDepth 100000
noncomputable section
set_option maxHeartbeats 1000000
namespace Go.Ab
open Go Go.RowKit Go.Proofs
theorem Y6M {i : Nat} (h : i < 4611686018427387904) (h0 : 0 < i) : IntKind.wrap .i64 ((i : Int) - 1) = ((i - 1 : Nat) : Int) := by
 rw [w64 (by omega) (by omega)]; omega
theorem Z2C (t : List UInt8) : X03 t = decide (0 <= Lib.indexByte t 10) := by
 obtain ⟨z1, z2, z3, z4, z5⟩ := X7C t;have hall : (t.takeWhile n10).all n10 = true := List.all_takeWhile
 by_cases hn : Lib.indexByte t 10 < 0
 ·have h1 : t.takeWhile n10 = t := by rw [<- z4, z1 hn, List.take_length]
  rw [h1] at hall;rw [decide_eq_false (show ¬ 0 <= Lib.indexByte t 10 by omega)];unfold X03;rw [List.any_eq_false];intro c hc;have := List.all_eq_true.1 hall c hc;simpa [n10] using this
 have hp := z2 (by omega);obtain ⟨_, hlt⟩ := (X4h t).2 (by omega);rw [decide_eq_true (show 0 <= Lib.indexByte t 10 by omega)];rcases X8S t with h | ⟨q, h⟩
 ·rw [h] at z3;have := congrArg List.length z3;rw [List.length_drop, List.length_nil] at this;omega
 unfold X03;rw [List.any_eq_true];refine ⟨10, ?_, rfl⟩;have : (10 : UInt8) ∈ X0U t := by rw [h]; simp
 exact (List.dropWhile_suffix n10).mem this
theorem Y1S (t : List UInt8) : X3p t [10] = some (X03 t) := by
 unfold X3p Y00 X3U;have y1 : decide ((([10] : List UInt8).length : Int) = 0) = false := by decide
 have y3 : decide ((([10] : List UInt8).length : Int) = 1) = true := by decide
 have y4 : ixOK 0 ([10] : List UInt8).length = true := by decide
 have y5 : X0b ([10] : List UInt8) 0 = 10 := by decide
 have hix : X0B t 10 = some (Lib.indexByte t 10) := by unfold X0B; rw [if_pos (by decide)]; rfl
 rw [y1, y3, y4, y5, hix]
 by_cases h : ([10] : List UInt8) = t
 ·subst h; rfl
 rw [decide_eq_false h];simp only [cond_true, cond_false, Option.bind_some];rw [Z2C]
def pfAt (P : List (List UInt8 × Fm)) (i : Nat) : Bool := decide (0 < i) && decide ((P.getD (i - 1) (([] : List UInt8), Fm.mk 0 0 [] [])).1 = [])
theorem Y3w {P : List (List UInt8 × Fm)} {i : Nat} (h : i < P.length) : pfAt P (i + 1) = decide (P[i].1 = []) := by
 unfold pfAt;rw [Nat.add_sub_cancel, X09 h];simp
def okJ (p : List UInt8 × Fm) : Prop := (p.1 = [] /\ X0H p.2 = true) \/ (p.1 ≠ [] /\ p.1.length <= 60000)
theorem Z1y (r : List UInt8) : (comS r).length <= r.length := by
 unfold comS X9I;obtain ⟨j, a, b, c⟩ := X3K wsB (r.takeWhile n10) (r.takeWhile n10).length (Nat.le_refl _);rw [b, List.length_take];have := (List.takeWhile_prefix n10 (l := r)).length_le;omega
theorem Y0k : ∀ (n : Nat) (bare : Bool) (r : List UInt8) (fs : List Fm), r.length <= 60000 -> (∀ f ∈ fs, X0H f = true) -> ∀ p ∈ itS n bare r fs, okJ p
 | 0, _, _, _, _, _ => by intro p hp; simp [itS] at hp
 | n + 1, _, [], _, _, _ => by intro p hp; simp [itS] at hp
 | n + 1, bare, c :: r, fs, hr, h => by
  intro p hp;simp only [List.length_cons] at hr;simp only [itS] at hp
  by_cases c1 : c = 10
  ·rw [if_pos c1] at hp; exact Y0k n _ _ _ (by omega) h p hp
  rw [if_neg c1] at hp
  by_cases c2 : X0m c = true
  ·rw [if_pos c2] at hp; exact Y0k n _ _ _ (by omega) h p hp
  rw [if_neg c2] at hp
  by_cases c3 : c = 59
  ·rw [if_pos c3] at hp;rcases List.mem_append.1 hp with hp | hp
   ·by_cases hb : bare = true
    ·rw [if_pos hb, List.mem_singleton] at hp;subst hp; subst c3;obtain ⟨b, h1, h2, h3⟩ := Z3Z r;have := Z1y (59 :: r);simp only [List.length_cons] at this;exact .inr ⟨by show comS (59 :: r) ≠ []; rw [h1]; simp, by show (comS (59 :: r)).length <= _; omega⟩
    rw [if_neg hb] at hp; cases hp
   have := X1m c1 r;exact Y0k n _ _ _ (by omega) h p hp
  rw [if_neg c3] at hp;cases fs with
  | nil => cases hp
  | cons f fs' =>
   have := Y5P (c := c) (r := r) (by simpa using c2) c3;rcases List.mem_cons.1 hp with rfl | hp
   ·exact .inl ⟨rfl, h f (by simp)⟩
   exact Y0k n _ _ _ (by omega) (fun g hg => h g (List.mem_cons_of_mem _ hg)) p hp
theorem Y6m (w : Nat) {f : Fm} (hv : X0H f = true) : (layF w f 0 0).length <= 86060000 := by
 have hd := X5v hv;have hs := (X0E hv).2;have h1 : (4103 + 200) * f.size <= (4103 + 200) * 20000 := Nat.mul_le_mul_left _ hs;have h2 := X8R w f (X0E hv).1 0 0 200 (by omega);omega
theorem Y1L (w : Nat) : ∀ (I : List (List UInt8 × Fm)) (pf lw : Bool), (∀ p ∈ I, okJ p) -> (outS w pf lw I).length <= I.length * 90000000
 | [], _, _, _ => by simp [outS]
 | (b, f) :: I, pf, lw, h => by
  have ih := fun pf lw => Y1L w I pf lw fun p hp => h p (List.mem_cons_of_mem _ hp)
  have hl : ∀ (P : Prop) [Decidable P], (if P then [10] else [] : List UInt8).length <= 1 := fun P _ => by split <;> simp
  rw [outS];rcases h (b, f) (by simp) with ⟨h1, h2⟩ | ⟨h1, h2⟩
  ·have h1 : b = [] := h1;have := Y6m w (f := f) h2;have i1 := ih true (X03 (layF w f 0 0));have := hl (pf = true /\ lw = true /\ X03 (layF w f 0 0) = true);rw [if_pos h1];simp only [List.length_append, List.length_cons, Nat.add_mul];omega
  have h1 : b ≠ [] := h1;have h2 : b.length <= 60000 := h2;have i1 := ih false lw;have := hl (pf = true);rw [if_neg h1];simp only [List.length_append, List.length_cons, Nat.add_mul];omega
theorem X8L : ∀ (n : Nat) (bare : Bool) (r : List UInt8) (fs : List Fm), (itS n bare r fs).length <= r.length
 | 0, _, _, _ => by simp [itS]
 | n + 1, _, [], _ => by simp [itS]
 | n + 1, bare, c :: r, fs => by
  simp only [itS, List.length_cons]
  by_cases c1 : c = 10
  ·rw [if_pos c1]; have := X8L n true r fs; omega
  rw [if_neg c1]
  by_cases c2 : X0m c = true
  ·rw [if_pos c2]; have := X8L n bare r fs; omega
  rw [if_neg c2]
  by_cases c3 : c = 59
  ·rw [if_pos c3];have h1 := X8L n bare (X0U (c :: r)) fs;have h2 := X1m c1 r;have h3 : (if bare = true then [(comS (c :: r), zF)] else []).length <= 1 := by split <;> simp
   rw [List.length_append]; omega
  rw [if_neg c3];cases fs with
  | nil => simp
  | cons f fs' =>
   have h1 := X8L n false (PA 0 (c :: r)) fs';have h2 := Y5P (c := c) (r := r) (by simpa using c2) c3;simp only [List.length_cons]; omega
def Y7X (s : List UInt8) (n : Int) : List UInt8 × Int × Unit :=
 if isW n = true then (if (X1s s).2.1 = 0 then (outS n.toNat false false (IT true s (X1s s).1), 0, ()) else ([], (X1s s).2.1, ())) else ([], 1, ())
theorem X8Q (s : List UInt8) (n : Int) : X3P s n = some (Y7X s n) := by
 unfold X3P Y7X;rw [X8K];simp only [Option.bind_some];cases hw : isW n with
 | false => rfl
 | true =>
  obtain ⟨w, rfl, hw1, hw2⟩ := Y9Y hw;rw [if_pos rfl]
  by_cases he : (X1s s).2.1 = 0
  ·have hr : X1s s = ((X1s s).1, 0, ()) := by
    generalize X1s s = x at he;obtain ⟨a, b, c⟩ := x;have he : b = 0 := he;rw [he]
   obtain ⟨hs, hp, hv⟩ := X7I hr;rw [if_pos he, Y4X hr];have hJ := Y0k (s.length + 1) true s (X1s s).1 hs hv;have hIl := X8L (s.length + 1) true s (X1s s).1;have hb : ∀ f ∈ (X1s s).1, f.big <= 120000 := (X7F hs hp).2.1;have hbI : ∀ p ∈ itS (s.length + 1) true s (X1s s).1, p.2.big <= 120000 := by
    have key : ∀ (n : Nat) (bare : Bool) (r : List UInt8) (fs : List Fm), (∀ f ∈ fs, f.big <= 120000) -> ∀ p ∈ itS n bare r fs, p.2.big <= 120000 := by
     intro n
     induction n with
     | zero => intro bare r fs _ p hp; simp [itS] at hp
     | succ n ih =>
      intro bare r fs hf p hp;cases r with
      | nil => simp [itS] at hp
      | cons c r =>
       simp only [itS] at hp
       by_cases c1 : c = 10
       ·rw [if_pos c1] at hp; exact ih _ _ _ hf p hp
       rw [if_neg c1] at hp
       by_cases c2 : X0m c = true
       ·rw [if_pos c2] at hp; exact ih _ _ _ hf p hp
       rw [if_neg c2] at hp
       by_cases c3 : c = 59
       ·rw [if_pos c3] at hp;rcases List.mem_append.1 hp with hp | hp
        ·by_cases hb : bare = true
         ·rw [if_pos hb, List.mem_singleton] at hp;subst hp; simp [zF, Fm.big, Fm.bigL]
         rw [if_neg hb] at hp; cases hp
        exact ih _ _ _ hf p hp
       rw [if_neg c3] at hp;cases fs with
       | nil => cases hp
       | cons f fs' =>
        rcases List.mem_cons.1 hp with rfl | hp
        ·exact hf f (by simp)
        exact ih _ _ _ (fun g hg => hf g (List.mem_cons_of_mem _ hg)) p hp
    exact key _ _ _ _ hb
   have hI : itS (s.length + 1) true s (X1s s).1 = IT true s (X1s s).1 := rfl;rw [hI] at hJ hIl hbI;generalize IT true s (X1s s).1 = P at hJ hIl hbI;simp only [Option.bind_some, decide_true, Bool.not_true, cond_false, Int.toNat_natCast];have htot := Y1L w P false false hJ;have htot2 : P.length * 90000000 <= 60000 * 90000000 := Nat.mul_le_mul_right _ (by omega);refine Up.get ?_;refine X47 (N := False) (fun d => ∃ (i : Nat) (b lw : Bool) (o : List UInt8), d = (((w : Int), P, (), lw, P, (P.length : Int), (i : Int), ()), ((b, (), ()), X0f o, ())) /\ i <= P.length /\ o ++ outS w (pfAt P i) lw (P.drop i) = outS w false false P) (fun d => P.length - d.1.2.2.2.2.2.2.1.toNat) ?_ ⟨0, false, false, [], rfl, Nat.zero_le _, rfl⟩;rintro d ⟨i, b, lw, o, rfl, hi, ho⟩;have holen := congrArg List.length ho;rw [List.length_append] at holen;dsimp only
   by_cases hi' : i < P.length
   ·left;have e1 : decide ((i : Int) < (P.length : Int)) = true := by simp [hi']
    have e2 : ixOK (i : Int) P.length = true := X0e.2 (by omega);have e3 : (ixOK (IntKind.wrap .i64 ((i : Int) - 1)) P.length || !decide ((i : Int) > 0)) = true := by
     by_cases h0 : i = 0
     ·subst h0; simp
     rw [Y6M (by omega) (by omega), X0e.2 (by omega)]; rfl
    have hsp : cond (decide ((i : Int) > 0)) (!(cond (decide ((i : Int) > 0)) (!decide ((P.getD (IntKind.wrap .i64 ((i : Int) - 1)).toNat (([] : List UInt8), (Fm.mk 0 0 [] []))).1 = [])) false)) false = pfAt P i := by
     unfold pfAt
     by_cases h0 : i = 0
     ·subst h0; rfl
     rw [decide_eq_true (show (i : Int) > 0 by omega), decide_eq_true (show 0 < i by omega), Y6M (by omega) (by omega), Int.toNat_natCast];simp
    have hdr : P.drop i = P[i] :: P.drop (i + 1) := List.drop_eq_getElem_cons hi';have hmem := List.getElem_mem hi';have hJi := hJ _ hmem;have hbi := hbI _ hmem;rw [e1, e2, e3];simp only [cond_true, Int.toNat_natCast, X09 hi'];have hpf := Y3w hi';generalize P[i] = p at hdr hJi hbi hpf;obtain ⟨pb, pf_⟩ := p;rw [hdr, outS] at ho holen
    have fin : ∀ (o' : List UInt8) (lw' : Bool) (X : Option ((Int × (List (List UInt8 × Fm)) × Unit × Bool × (List (List UInt8 × Fm)) × Int × Int × Unit) × ((Bool × Unit × Unit) × (List Int) × Unit))), X = some (((w : Int), P, (), lw', P, (P.length : Int), (i : Int), ()), ((true, (), ()), X0f o', ())) -> o' ++ outS w (pfAt P (i + 1)) lw' (P.drop (i + 1)) = outS w false false P ->
      ∃ l', Option.bind X (fun d39 : (Int × (List (List UInt8 × Fm)) × Unit × Bool × (List (List UInt8 × Fm)) × Int × Int × Unit) × ((Bool × Unit × Unit) × (List Int) × Unit) => some (Step.next (R := (Unit × Unit) × ((Bool × Unit × Unit) × (List Int) × Unit)) ((d39.1.1, d39.1.2.1, (), d39.1.2.2.2.1, d39.1.2.2.2.2.1, d39.1.2.2.2.2.2.1, IntKind.wrap .i64 (d39.1.2.2.2.2.2.2.1 + 1), ()), ((d39.2.1.1, (), ()), d39.2.2.1, ())))) = some (.next l') /\
       (∃ (i : Nat) (b lw : Bool) (o : List UInt8), l' = (((w : Int), P, (), lw, P, (P.length : Int), (i : Int), ()), ((b, (), ()), X0f o, ())) /\ i <= P.length /\ o ++ outS w (pfAt P i) lw (P.drop i) = outS w false false P) /\ P.length - l'.1.2.2.2.2.2.2.1.toNat < P.length - (i : Int).toNat := by
     intro o' lw' X hX ho';rw [hX];refine ⟨_, rfl, ⟨i + 1, true, lw', o', ?_, by omega, ho'⟩, ?_⟩
     ·dsimp only; rw [wrapN (show i < 4611686018427387904 by omega)]
     dsimp only; rw [wrapN (show i < 4611686018427387904 by omega)]; simp only [Int.toNat_natCast]; omega
    by_cases hpb : pb = []
    ·
     subst hpb;have hvf : X0H pf_ = true := by
      rcases hJi with h | h
      ·exact h.2
      exact absurd rfl h.1
     rw [if_pos rfl] at ho holen;have hfmt : X2q pf_ (w : Int) = some (layF w pf_ 0 0, 0, ()) := by
      rw [Y1G _ (by have : pf_.big <= 120000 := hbi; omega)];unfold fmtS;rw [if_pos ⟨hw, hvf⟩, Int.toNat_natCast]
     rw [decide_eq_true rfl] at hpf;refine fin (o ++ ((if pfAt P i = true /\ lw = true /\ X03 (layF w pf_ 0 0) = true then [10] else []) ++ (layF w pf_ 0 0 ++ [10]))) (X03 (layF w pf_ 0 0)) _ ?_ ?_
     ·simp only [decide_true, Bool.not_true, cond_false, Fm.eta_eq, hfmt, Option.bind_some, Y1S, hsp];simp only [List.length_append, List.length_cons] at holen
      have step : ∀ (o' : List UInt8) (b' : Bool), o'.length + (layF w pf_ 0 0).length + 1 <= 60000 * 90000000 ->
        cond (decide ((layF w pf_ 0 0).length + ([10] : List Nat).length <= 9223372036854775807)) (Option.bind (α := (Int × Bool × Unit) × ((Bool × Unit × Unit) × (List Int) × Unit)) (X13 (layF w pf_ 0 0 ++ ([10])) (b', (), ()) (X0f o')) fun r38 => (
         some ((((w : Int), P, (), X03 (layF w pf_ 0 0), P, (P.length : Int), (i : Int), ()), ((r38.2.1.1, (), ()), r38.2.2.1, ())) : (Int × (List (List UInt8 × Fm)) × Unit × Bool × (List (List UInt8 × Fm)) × Int × Int × Unit) × ((Bool × Unit × Unit) × (List Int) × Unit)))) none =
        some (((w : Int), P, (), X03 (layF w pf_ 0 0), P, (P.length : Int), (i : Int), ()), ((true, (), ()), X0f (o' ++ (layF w pf_ 0 0 ++ [10])), ())) := by
       intro o' b' hl;simp only [List.length_cons, List.length_nil];rw [decide_eq_true (by omega), cond_true, X24 (by rw [X0J, List.length_append, List.length_cons, List.length_nil]; omega)];simp only [Option.bind_some];rw [X0k]
      by_cases hnl : pfAt P i = true /\ lw = true /\ X03 (layF w pf_ 0 0) = true
      ·obtain ⟨n1, n2, n3⟩ := hnl;rw [if_pos ⟨n1, n2, n3⟩] at holen ⊢;simp only [List.length_cons, List.length_nil] at holen;rw [n1, n2];rw [n3] at step ⊢;simp only [cond_true];rw [X1A (by rw [X0J]; omega)];simp only [Option.bind_some];have e10 : X0f o ++ [10] = X0f (o ++ [10]) := by rw [<- X0k]; rfl
       rw [e10, step (o ++ [10]) true (by simp only [List.length_append, List.length_cons, List.length_nil]; omega)];simp
      rw [if_neg hnl] at holen ⊢;have hcn : cond (cond (pfAt P i) lw false) (X03 (layF w pf_ 0 0)) false = false := by
       cases h1 : pfAt P i with
       | false => rfl
       | true =>
        cases h2 : lw with
        | false => rfl
        | true =>
         cases h3 : X03 (layF w pf_ 0 0) with
         | false => rfl
         | true => exact absurd ⟨h1, h2, h3⟩ hnl
      rw [hcn];simp only [cond_false, Option.bind_some];rw [step o b (by simp only [List.length_nil] at holen; omega), List.nil_append]
     rw [<- ho, hpf]; simp
    
    rw [if_neg hpb] at ho holen;rw [decide_eq_false hpb] at hpf;refine fin (o ++ ((if pfAt P i = true then [10] else []) ++ (pb ++ [10]))) lw _ ?_ ?_
    ·have hpl : pb.length <= 60000 := by
      rcases hJi with h | h
      ·exact absurd h.1 hpb
      exact h.2
     simp only [decide_eq_false hpb, Bool.not_false, cond_true, hsp]
     have step : ∀ (o' : List UInt8) (b' : Bool), o'.length + pb.length + 1 <= 60000 * 90000000 ->
       cond (decide (pb.length + ([10] : List Nat).length <= 9223372036854775807)) (Option.bind (α := (Int × Bool × Unit) × ((Bool × Unit × Unit) × (List Int) × Unit)) (X13 (pb ++ ([10])) (b', (), ()) (X0f o')) fun r38 => (
        some ((((w : Int), P, (), lw, P, (P.length : Int), (i : Int), ()), ((r38.2.1.1, (), ()), r38.2.2.1, ())) : (Int × (List (List UInt8 × Fm)) × Unit × Bool × (List (List UInt8 × Fm)) × Int × Int × Unit) × ((Bool × Unit × Unit) × (List Int) × Unit)))) none =
       some (((w : Int), P, (), lw, P, (P.length : Int), (i : Int), ()), ((true, (), ()), X0f (o' ++ (pb ++ [10])), ())) := by
      intro o' b' hl;simp only [List.length_cons, List.length_nil];rw [decide_eq_true (by omega), cond_true, X24 (by rw [X0J, List.length_append, List.length_cons, List.length_nil]; omega)];simp only [Option.bind_some];rw [X0k]
     simp only [List.length_append, List.length_cons] at holen;cases hpfi : pfAt P i with
     | true =>
      rw [hpfi, if_pos rfl] at holen;simp only [List.length_cons, List.length_nil] at holen;simp only [cond_true];rw [X1A (by rw [X0J]; omega)];simp only [Option.bind_some];have e10 : X0f o ++ [10] = X0f (o ++ [10]) := by rw [<- X0k]; rfl
      rw [e10, step (o ++ [10]) true (by simp only [List.length_append, List.length_cons, List.length_nil]; omega)];simp
     | false =>
      rw [hpfi, if_neg (by decide)] at holen;simp only [List.length_nil] at holen;simp only [cond_false, Option.bind_some];rw [step o b (by omega)];simp
    rw [<- ho, hpf]; simp
   right; left;have e1 : decide ((i : Int) < (P.length : Int)) = false := by apply decide_eq_false; omega
   rw [e1, cond_false];refine ⟨_, rfl, .of ?_⟩;rw [List.drop_of_length_le (show P.length <= i by omega), outS, List.append_nil] at ho;simp only [X4H, Option.map_some, Option.bind_some];rw [ho]
  rw [if_neg he, Y4W he];simp only [Option.bind_some, decide_eq_false he, Bool.not_true, Bool.not_false, cond_true, cond_false]
end Go.Ab
set_option maxHeartbeats 1000000
namespace Go.Ab
open Go Go.RowKit Go.Proofs
theorem Z37 : X1s [40, 102, 32, 32, 32, 49, 41] = ([.mk 3 0 [] [.mk 1 0 [102] [], .mk 0 1 [] []]], 0, ()) := by kernel_rfl
theorem Z1H (fs : List Fm) (f : Fm) : IT true [40, 102, 32, 32, 32, 49, 41] [f] = [([], f)] := by
 rw [X49, if_neg (by decide), if_neg (by decide), if_neg (by decide)];have : PA 0 [40, 102, 32, 32, 32, 49, 41] = [] := by decide +kernel
 simp only [this, Z2J]
theorem Z62 : wr (.mk 3 0 [] [.mk 1 0 [102] [], .mk 0 1 [] []]) = [40, 102, 32, 49, 41] := by
 have : Lib.itoa 1 = [49] := by rw [Lib.itoa, if_neg (by decide)]; exact Lib.decDigits_one (by decide)
 simp [wr, wrL, this]
theorem Y7L : X7r = some true := by
 unfold X7r;rw [X8Q];have e : Y7X [40, 102, 32, 32, 32, 49, 41] 40 = ([40, 102, 32, 49, 41, 10], 0, ()) := by
  unfold Y7X;rw [if_pos (by decide), Z37];simp only [if_true, Z1H []];have hl : layF (40 : Int).toNat (.mk 3 0 [] [.mk 1 0 [102] [], .mk 0 1 [] []]) 0 0 = [40, 102, 32, 49, 41] := by
   rw [Y1F, Z62, if_pos (by left; decide)]
  rw [outS, if_pos rfl, outS, hl];rfl
 rw [e];simp
end Go.Ab
set_option maxHeartbeats 1000000
namespace Go.Ab
open Go Go.RowKit Go.Proofs
theorem X4Q (c : UInt8) : X3o ((c.toNat : Nat) : Int) = some (X0m c) := by unfold X3o; rw [X23]
theorem Y3I {s : List UInt8} (hs : s.length <= 1000000000) (h10 : ∀ c ∈ s, c ≠ 10) : X4y s = some (X9I s) := by
 refine Up.get ?_;unfold X4y;refine X47 (N := False) (fun d => ∃ i : Nat, d = ((s.take i, ()), ()) /\ i <= s.length /\ X00 wsB s i = X9I s) (fun d => d.1.1.length) ?_ ⟨s.length, by rw [List.take_length], Nat.le_refl _, rfl⟩;rintro d ⟨i, rfl, hi, ht⟩;dsimp only;cases i with
 | zero =>
  right; left;rw [List.take_zero];refine ⟨_, by simp; rfl, .of ?_⟩;rw [<- ht]; rfl
 | succ i =>
  have hi' : i < s.length := by omega
  have hl : (s.take (i + 1)).length = i + 1 := by rw [List.length_take]; omega
  have hne : s.take (i + 1) ≠ [] := by intro h; rw [h] at hl; simp at hl
  have w1 : IntKind.wrap .i64 (((s.take (i + 1)).length : Int) - 1) = (i : Int) := by rw [hl, w64 (by omega) (by omega)]; omega
  have x1 : ixOK (i : Int) (s.take (i + 1)).length = true := X0e.2 (by omega);have x2 : slOK 0 (i : Int) (s.take (i + 1)).length = true := X1t.2 (by omega);have g1 : X0b (s.take (i + 1)) (i : Int) = ((s[i].toNat : Nat) : Int) := by
   rw [X2d (s := s.take (i + 1)) (i := i) (by omega)]; simp
  have t1 : ((s.take (i + 1)).drop (0 : Int).toNat).take ((i : Int).toNat - (0 : Int).toNat) = s.take i := by
   simp only [Int.toNat_natCast, Int.toNat_zero, List.drop_zero, Nat.sub_zero, List.take_take]; congr 1; omega
  have hb : X0m s[i] = wsB s[i] := by
   have := h10 _ (List.getElem_mem hi');unfold X0m wsB wsL;rw [decide_eq_false this];simp
  have hg : s.getD i 0 = s[i] := X09 hi' _;rw [w1, x1, decide_eq_false hne];simp only [Bool.true_or, Bool.not_false, cond_true, g1, X4Q, Option.bind_some, x2, t1];rw [X00, hg] at ht;rw [hb];cases hw : wsB s[i] with
  | true =>
   left;rw [hw, if_pos rfl] at ht;exact ⟨_, rfl, ⟨i, rfl, by omega, ht⟩, by dsimp only; rw [hl, List.length_take]; omega⟩
  | false =>
   right; left;rw [hw, if_neg (by decide)] at ht;exact ⟨_, rfl, .of (by rw [<- ht])⟩
theorem Y3D {s : List UInt8} {i : Nat} (hs : s.length <= 1000000000) (hi : i <= s.length) : ∃ j : Nat, X6i s (i : Int) = some (j : Int) /\ i <= j /\ j <= s.length /\ s.drop j = X0U (s.drop i) /\ (s.drop i).take (j - i) = (s.drop i).takeWhile n10 := by
 have key : ∃ v, X6i s (i : Int) = some v /\ ∃ j : Nat, v = (j : Int) /\ i <= j /\ j <= s.length /\ s.drop j = X0U (s.drop i) := by
  unfold X6i;refine X6M (fun d => ∃ j : Nat, d = ((s, (j : Int), ()), ()) /\ i <= j /\ j <= s.length /\ X0U (s.drop j) = X0U (s.drop i)) (fun d => s.length - d.1.2.1.toNat) _ ?_ ⟨i, rfl, Nat.le_refl _, hi, rfl⟩;rintro d ⟨j, rfl, h1, h2, h3⟩;dsimp only
  by_cases hj : j < s.length
  ·have y1 : decide ((j : Int) < (s.length : Int)) = true := by simp [hj]
   have y2 : ixOK (j : Int) s.length = true := X0e.2 (by omega);have b10 : decide (((s[j].toNat : Nat) : Int) = 10) = decide (s[j] = 10) := X0u s[j] 10 (by decide);have hd := X2k hj;rw [y1, y2, X2d hj, b10];simp only [Bool.true_or, cond_true]
   by_cases hc : s[j] = 10
   ·right;rw [decide_eq_true hc];refine ⟨_, rfl, _, rfl, j, rfl, h1, h2, ?_⟩;rw [<- h3, hd, hc];unfold X0U;rw [List.dropWhile_cons_of_neg (by decide)]
   left;rw [decide_eq_false hc];simp only [Bool.not_false, cond_true];rw [wrapN (show j < 4611686018427387904 by omega)];refine ⟨_, rfl, ⟨j + 1, rfl, by omega, by omega, ?_⟩, by simp only [Int.toNat_natCast]; omega⟩;rw [<- h3, hd];unfold X0U;rw [List.dropWhile_cons_of_pos (by simp [n10, hc])]
  have y1 : decide ((j : Int) < (s.length : Int)) = false := by apply decide_eq_false; omega
  right;rw [y1];simp only [Bool.not_false, Bool.or_true, cond_true, cond_false];refine ⟨_, rfl, _, rfl, j, rfl, h1, h2, ?_⟩;rw [<- h3, List.drop_of_length_le (show s.length <= j by omega)]; rfl
 obtain ⟨v, hv, j, rfl, h1, h2, h3⟩ := key;refine ⟨j, hv, h1, h2, h3, ?_⟩;obtain ⟨z1, z2, z3, z4, z5⟩ := X7C (s.drop i);have hl := congrArg List.length (h3.trans z3.symm);simp only [List.length_drop] at hl z5;have : j - i = ((s.drop i).takeWhile n10).length := by omega
 rw [this, z4]
theorem Z0l {s : List UInt8} {i : Nat} (hs : s.length <= 1000000000) (hi : i < s.length) : ∃ j : Nat, X21 s (i : Int) = some (j : Int) /\ i < j /\ j <= s.length + 2 /\ s.drop j = qEnd (s.drop (i + 1)) := by
 have key : ∃ v, X21 s (i : Int) = some v /\ ∃ j : Nat, v = (j : Int) /\ i < j /\ j <= s.length + 2 /\ s.drop j = qEnd (s.drop (i + 1)) := by
  unfold X21;rw [wrapN (show i < 4611686018427387904 by omega)];refine X6M (fun d => ∃ j : Nat, d = ((s, (j : Int), ()), ()) /\ i + 1 <= j /\ j <= s.length + 1 /\ qEnd (s.drop j) = qEnd (s.drop (i + 1))) (fun d => s.length + 2 - d.1.2.1.toNat) _ ?_ ⟨i + 1, rfl, Nat.le_refl _, by omega, rfl⟩;rintro d ⟨j, rfl, j1, j2, j3⟩;dsimp only
  by_cases hj : j < s.length
  ·have y1 : decide ((j : Int) < (s.length : Int)) = true := by simp [hj]
   have y2 : ixOK (j : Int) s.length = true := X0e.2 (by omega);have hdj := X2k hj;have q34 : decide (((s[j].toNat : Nat) : Int) = 34) = decide (s[j] = 34) := X0u s[j] 34 (by decide);have q92 : decide (((s[j].toNat : Nat) : Int) = 92) = decide (s[j] = 92) := X0u s[j] 92 (by decide);rw [y1, y2, X2d hj, q34, q92];simp only [Bool.true_or, cond_true]
   by_cases h34 : s[j] = 34
   ·right;rw [decide_eq_true h34];refine ⟨_, rfl, _, rfl, j + 1, by dsimp only; rw [wrapN (show j < 4611686018427387904 by omega)], by omega, by omega, ?_⟩;rw [<- j3, hdj, h34, Y0v]
   left;rw [decide_eq_false h34];simp only [Bool.not_false, cond_true]
   by_cases h92 : s[j] = 92
   ·rw [decide_eq_true h92];simp only [cond_true, Option.bind_some];rw [wrapN (show j < 4611686018427387904 by omega), wrapN (show j + 1 < 4611686018427387904 by omega)];refine ⟨_, rfl, ⟨j + 1 + 1, rfl, by omega, by omega, ?_⟩, by simp only [Int.toNat_natCast]; omega⟩;rw [<- j3, hdj, h92]
    by_cases hj' : j + 1 < s.length
    ·rw [X2k hj', qEnd, if_pos rfl]
    rw [List.drop_of_length_le (show s.length <= j + 1 by omega), List.drop_of_length_le (show s.length <= j + 1 + 1 by omega)]; rfl
   rw [decide_eq_false h92];simp only [cond_false, Option.bind_some];rw [wrapN (show j < 4611686018427387904 by omega)];refine ⟨_, rfl, ⟨j + 1, rfl, by omega, by omega, ?_⟩, by simp only [Int.toNat_natCast]; omega⟩;rw [<- j3, hdj, Y0w h92 h34]
  have y1 : decide ((j : Int) < (s.length : Int)) = false := by apply decide_eq_false; omega
  rw [y1];simp only [Bool.not_false, Bool.or_true, cond_true, cond_false];right;refine ⟨_, rfl, _, rfl, j + 1, by dsimp only; rw [wrapN (show j < 4611686018427387904 by omega)], by omega, by omega, ?_⟩;rw [List.drop_of_length_le (show s.length <= j by omega)] at j3;rw [List.drop_of_length_le (show s.length <= j + 1 by omega), <- j3]
  try rfl
 obtain ⟨v, hv, j, rfl, h⟩ := key;exact ⟨j, hv, h⟩
def AtF (l : List Fm) (T : List UInt8) (d : Nat) (r : List UInt8) : Prop :=
 PA d r = T /\ ((d = 0 /\ ∃ c y top, r = c :: y /\ X0m c = false /\ c ≠ 59 /\ PF r top [] = .inr l) \/ ∃ top st t0, d = st.length + 1 /\ PF r top (st ++ [t0]) = .inr l)
theorem Z0k {s : List UInt8} {i : Nat} {l : List Fm} (hs : s.length <= 1000000) (hi : i < s.length) (hA : AtF l (PA 0 (s.drop i)) 0 (s.drop i)) : ∃ j : Nat, X7S s (i : Int) = some (j : Int) /\ i < j /\ j <= s.length + 2 /\ s.drop j = PA 0 (s.drop i) := by
 generalize hT : PA 0 (s.drop i) = T at hA;have key : ∃ v, X7S s (i : Int) = some v /\ ∃ j : Nat, v = (j : Int) /\ i < j /\ j <= s.length + 2 /\ s.drop j = T := by
  unfold X7S;refine X6M (fun d => ∃ j k : Nat, d = ((s, (j : Int), (k : Int), ()), ()) /\ i <= j /\ j <= s.length + 2 /\ k <= j /\ AtF l T k (s.drop j)) (fun d => s.length + 2 - d.1.2.1.toNat) _ ?_ ⟨i, 0, rfl, Nat.le_refl _, by omega, by omega, hA⟩;rintro d ⟨j, k, rfl, h1, h2, h3, h4, h5⟩;dsimp only;have hj : j < s.length := by
   rcases Nat.lt_or_ge j s.length with h | h
   ·exact h
   exfalso;rw [List.drop_of_length_le h] at h5;rcases h5 with ⟨_, c, y, top, h6, _⟩ | ⟨top, st, t0, _, h6⟩
   ·cases h6
   unfold PF at h6;rw [X0N] at h6;cases st <;> cases h6
  have y1 : decide ((j : Int) < (s.length : Int)) = true := by simp [hj]
  have y2 : ixOK (j : Int) s.length = true := X0e.2 (by omega);have hd := X2k hj;rw [y1, y2, X2d hj];obtain ⟨c, hc⟩ : ∃ c, c = s[j] := ⟨_, rfl⟩;rw [<- hc] at hd ⊢;have b59 : decide (((c.toNat : Nat) : Int) = 59) = decide (c = 59) := X0u c 59 (by decide);have b34 : decide (((c.toNat : Nat) : Int) = 34) = decide (c = 34) := X0u c 34 (by decide);have b40 : decide (((c.toNat : Nat) : Int) = 40) = decide (c = 40) := X0u c 40 (by decide);have b41 : decide (((c.toNat : Nat) : Int) = 41) = decide (c = 41) := X0u c 41 (by decide);rw [b59, b34, b40, b41, X4Q];simp only [cond_true, Option.bind_some];rw [hd] at h4 h5;rw [X1y] at h4
  have fin : ∀ (j' k' : Nat), j < j' -> j' <= s.length + 2 -> k' <= j' -> (k' = 0 -> s.drop j' = T) -> (k' ≠ 0 -> AtF l T k' (s.drop j')) -> ∀ X : Option ((List UInt8 × Int × Int × Unit) × (Unit)), X = some ((s, (j' : Int), (k' : Int), ()), ()) ->
    (∃ l', Option.bind X (fun d13 : (List UInt8 × Int × Int × Unit) × (Unit) => cond (decide (d13.1.2.2.1 = 0)) (some (Step.done (Step.done d13.1.2.1))) (some (Step.next (R := Step ((Int × Unit) × (Unit)) (Int)) ((d13.1.1, d13.1.2.1, d13.1.2.2.1, ()), ())))) = some (.next l') /\ (∃ j k : Nat, l' = ((s, (j : Int), (k : Int), ()), ()) /\ i <= j /\ j <= s.length + 2 /\ k <= j /\ AtF l T k (s.drop j)) /\ s.length + 2 - l'.1.2.1.toNat < s.length + 2 - (j : Int).toNat) \/
    ∃ r, Option.bind X (fun d13 : (List UInt8 × Int × Int × Unit) × (Unit) => cond (decide (d13.1.2.2.1 = 0)) (some (Step.done (Step.done d13.1.2.1))) (some (Step.next (R := Step ((Int × Unit) × (Unit)) (Int)) ((d13.1.1, d13.1.2.1, d13.1.2.2.1, ()), ())))) = some (.done r) /\ ∃ v, (match r with
     | .next d17 => some d17.1.1
     | .done r => some r : Option Int) = some v /\ ∃ j : Nat, v = (j : Int) /\ i < j /\ j <= s.length + 2 /\ s.drop j = T := by
   intro j' k' q1 q2 q3 q4 q5 X hX;rw [hX]
   by_cases hk : k' = 0
   ·right;subst hk;exact ⟨_, rfl, _, rfl, j', rfl, by omega, q2, q4 rfl⟩
   left;have e : decide ((k' : Int) = 0) = false := by apply decide_eq_false; omega
   refine ⟨_, by simp only [Option.bind_some, e, cond_false], ⟨j', k', rfl, by omega, q2, q3, q5 hk⟩, by simp only [Int.toNat_natCast]; omega⟩
  by_cases c34 : c = 34
  ·subst c34;rw [if_pos rfl] at h4;rw [show decide ((34 : UInt8) = 34) = true from rfl, cond_true];obtain ⟨j', r1, r2, r3, r4⟩ := Z0l (s := s) (i := j) (by omega) hj;rw [r1];refine fin j' k r2 r3 (by omega) (fun h => ?_) (fun h => ?_) _ rfl
   ·rw [if_pos h] at h4; rw [r4]; exact h4
   rw [if_neg h] at h4;rw [r4];rcases h5 with ⟨h0, _⟩ | ⟨top, st, t0, hk, hp⟩
   ·exact absurd h0 h
   rw [X7H] at hp;cases hx : X0T (s.drop (j + 1)) [] with
   | inl e => rw [hx] at hp; cases hp
   | inr p =>
    obtain ⟨b, q⟩ := p;rw [hx] at hp;simp only at hp;obtain ⟨hq, _⟩ := X2C _ [] b q hx;cases ht : X0S visS q with
    | true => rw [ht] at hp; cases hp
    | false =>
     rw [ht, if_neg (by decide), <- hq] at hp;exact ⟨h4, .inr ⟨_, st, t0, hk, hp⟩⟩
  rw [if_neg c34] at h4;rw [decide_eq_false c34, cond_false]
  by_cases c59 : c = 59
  ·subst c59;rw [if_pos rfl] at h4;rw [show decide ((59 : UInt8) = 59) = true from rfl, cond_true];obtain ⟨j', r1, r2, r3, r4, r5⟩ := Y3D (s := s) (i := j) (by omega) (by omega);rcases h5 with ⟨_, c, y, top, hcy, _, h59, _⟩ | ⟨top, st, t0, hk, hp⟩
   ·cases hcy; exact absurd rfl h59
   rw [if_neg (by omega)] at h4;rw [X50] at hp;rw [hd] at r4;have hlt : j < j' := by
    have hl := congrArg List.length r4;have := X1m (show (59 : UInt8) ≠ 10 by decide) (s.drop (j + 1));rw [List.length_drop] at hl;rw [List.length_drop] at this;omega
   rw [r1];refine fin j' k hlt (by omega) (by omega) (fun h => by omega) (fun h => ?_) _ rfl;rw [r4];exact ⟨h4, .inr ⟨top, st, t0, hk, hp⟩⟩
  rw [if_neg c59] at h4;rw [decide_eq_false c59, cond_false]
  by_cases c40 : c = 40
  ·subst c40;rw [if_pos rfl] at h4;rw [show decide ((40 : UInt8) = 40) = true from rfl, cond_true];refine fin (j + 1) (k + 1) (by omega) (by omega) (by omega) (fun h => by omega) (fun h => ?_) _ (by rw [wrapN (show j < 4611686018427387904 by omega), wrapN (show k < 4611686018427387904 by omega)]);refine ⟨h4, .inr ?_⟩;rcases h5 with ⟨h0, c, y, top, hcy, _, _, hp⟩ | ⟨top, st, t0, hk, hp⟩
   ·rw [X8Y] at hp;exact ⟨[], [], top, by rw [h0]; rfl, hp⟩
   rw [X8Y] at hp;exact ⟨[], top :: st, t0, by rw [hk]; rfl, hp⟩
  rw [if_neg c40] at h4;rw [decide_eq_false c40, cond_false]
  by_cases c41 : c = 41
  ·subst c41;rw [if_pos rfl] at h4;rw [show decide ((41 : UInt8) = 41) = true from rfl, cond_true];rcases h5 with ⟨h0, c, y, top, hcy, _, _, hp⟩ | ⟨top, st, t0, hk, hp⟩
   ·rw [X8X] at hp; cases hp
   refine fin (j + 1) (k - 1) (by omega) (by omega) (by omega) (fun h => ?_) (fun h => ?_) _ (by rw [wrapN (show j < 4611686018427387904 by omega), w64 (by omega) (by omega), show (k : Int) - 1 = ((k - 1 : Nat) : Int) by omega])
   ·rw [if_pos (by omega)] at h4; exact h4
   rw [if_neg (by omega)] at h4;cases st with
   | nil => simp at hk; omega
   | cons t st' =>
    rw [List.cons_append, Y1N] at hp;exact ⟨h4, .inr ⟨_, st', t0, by rw [hk]; rfl, hp⟩⟩
  rw [if_neg c41] at h4;rw [decide_eq_false c41, cond_false]
  by_cases cb : X0m c = true
  ·rw [if_pos cb] at h4;rw [cb, cond_true];rcases h5 with ⟨_, c', y, top, hcy, hbb, _⟩ | ⟨top, st, t0, hk, hp⟩
   ·cases hcy; rw [hbb] at cb; cases cb
   rw [if_neg (by omega)] at h4;rw [X4O cb] at hp;exact fin (j + 1) k (by omega) (by omega) (by omega) (fun h => by omega) (fun h => ⟨h4, .inr ⟨top, st, t0, hk, hp⟩⟩) _ (by rw [wrapN (show j < 4611686018427387904 by omega)])
  rw [if_neg cb] at h4;rw [eq_false_of_ne_true cb, cond_false];have hct := X58 c59 c34 c40 c41 cb
  have run : ∀ {A : Type} (F : (List UInt8 × Int × Int × Unit) × (Unit) -> Option A) (W : Option A -> Prop), (∀ j' : Nat, j < j' -> j' <= s.length -> s.drop j' = (c :: s.drop (j + 1)).dropWhile tokc -> W (F ((s, (j' : Int), (k : Int), ()), ()))) -> ∀ (b : (List UInt8 × Int × Int × Unit) × (Unit) -> Option (Step ((List UInt8 × Int × Int × Unit) × (Unit)) ((List UInt8 × Int × Int × Unit) × (Unit)))),
    (∀ m : Nat, m < s.length -> (hm : m < s.length) -> b ((s, (m : Int), (k : Int), ()), ()) = if tokc s[m] = true then some (.next ((s, ((m + 1 : Nat) : Int), (k : Int), ()), ())) else some (.done ((s, (m : Int), (k : Int), ()), ()))) -> b ((s, (s.length : Int), (k : Int), ()), ()) = some (.done ((s, (s.length : Int), (k : Int), ()), ())) ->
    W (Option.bind (X0v b ((s, (j : Int), (k : Int), ()), ())) F) := by
   intro A F W hW b hb1 hb2;have key : ∀ n m : Nat, m + n = s.length -> j <= m -> (m = j \/ (s.drop m).dropWhile tokc = (c :: s.drop (j + 1)).dropWhile tokc) -> W (Option.bind (X0v b ((s, (m : Int), (k : Int), ()), ())) F) := by
    intro n
    induction n with
    | zero =>
     intro m hm hjm hdm;have : m = s.length := by omega
     subst this;rw [X0R hb2];refine hW _ (by omega) (Nat.le_refl _) ?_;rcases hdm with h | h
     ·omega
     rw [<- h, List.drop_length]; rfl
    | succ n ih =>
     intro m hm hjm hdm;have hml : m < s.length := by omega
     have hdrop : (s.drop m).dropWhile tokc = (c :: s.drop (j + 1)).dropWhile tokc := by
      rcases hdm with h | h
      ·subst h; rw [hd]
      exact h
     have hdm' := X2k hml
     by_cases ht : tokc s[m] = true
     ·have := hb1 m hml hml;rw [if_pos ht] at this;rw [X29 this];refine ih (m + 1) (by omega) (by omega) (.inr ?_);rw [<- hdrop, hdm', List.dropWhile_cons_of_pos ht]
     have := hb1 m hml hml;rw [if_neg ht] at this;rw [X0R this];have hmj : j < m := by
      rcases Nat.lt_or_ge j m with h | h
      ·exact h
      exfalso;have : m = j := by omega
      subst this;rw [<- hc] at ht;exact ht hct
     refine hW _ hmj (by omega) ?_;rw [<- hdrop, hdm', List.dropWhile_cons_of_neg ht]
   exact key (s.length - j) j (by omega) (Nat.le_refl _) (.inl rfl)
  refine run (A := Step ((List UInt8 × Int × Int × Unit) × (Unit)) (Step ((Int × Unit) × (Unit)) (Int))) (W := fun X => (∃ l', X = some (.next l') /\ (∃ j k : Nat, l' = ((s, (j : Int), (k : Int), ()), ()) /\ i <= j /\ j <= s.length + 2 /\ k <= j /\ AtF l T k (s.drop j)) /\ s.length + 2 - l'.1.2.1.toNat < s.length + 2 - (j : Int).toNat) \/
   ∃ r, X = some (.done r) /\ ∃ v, (match r with
    | .next d17 => some d17.1.1
    | .done r => some r : Option Int) = some v /\ ∃ j : Nat, v = (j : Int) /\ i < j /\ j <= s.length + 2 /\ s.drop j = T) _ (fun j' r2 r3 r4 => ?_) _ (fun m hm hm' => ?_) ?_
  ·have hfin := fin j' k r2 (by omega) (by omega) (fun h => by rw [if_pos h] at h4; rw [r4]; exact h4) (fun h => by
    rw [if_neg h] at h4;rcases h5 with ⟨h0, _⟩ | ⟨top, st, t0, hk, hp⟩
    ·exact absurd h0 h
    obtain ⟨g, q, hq, hql, he, h'⟩ := X59 hct hp;rw [r4];rw [hq] at h4 ⊢;exact ⟨h4, .inr ⟨_, st, t0, hk, h'⟩⟩) _ rfl
   exact hfin
  ·have z1 : decide ((m : Int) < (s.length : Int)) = true := by simp [hm]
   have z2 : ixOK (m : Int) s.length = true := X0e.2 (by omega);have m59 : decide (((s[m].toNat : Nat) : Int) = 59) = decide (s[m] = 59) := X0u s[m] 59 (by decide);have m34 : decide (((s[m].toNat : Nat) : Int) = 34) = decide (s[m] = 34) := X0u s[m] 34 (by decide);have m40 : decide (((s[m].toNat : Nat) : Int) = 40) = decide (s[m] = 40) := X0u s[m] 40 (by decide);have m41 : decide (((s[m].toNat : Nat) : Int) = 41) = decide (s[m] = 41) := X0u s[m] 41 (by decide);dsimp only;rw [z1, z2, X2d hm, X4Q, m59, m34, m40, m41, wrapN (show m < 4611686018427387904 by omega)];unfold tokc;cases X0m s[m] <;> cases decide (s[m] = 40) <;> cases decide (s[m] = 41) <;> cases decide (s[m] = 34) <;> cases decide (s[m] = 59) <;> rfl
  have z1 : decide ((s.length : Int) < (s.length : Int)) = false := by simp
  dsimp only;rw [z1];simp
 obtain ⟨v, hv, j, rfl, h⟩ := key;exact ⟨j, hv, h⟩
end Go.Ab
set_option maxHeartbeats 1000000
namespace Go.Ab
open Go Go.RowKit Go.Proofs
theorem Y9H {c : UInt8} {r : List UInt8} {top l : List Fm} (hb : X0m c = false) (c1 : c ≠ 59) (h : PF (c :: r) top [] = .inr l) : ∃ g, PF (PA 0 (c :: r)) (top ++ [g]) [] = .inr l := by
 by_cases c2 : c = 34
 ·subst c2;rw [X7H] at h;cases hx : X0T r [] with
  | inl e => rw [hx] at h; cases h
  | inr p =>
   obtain ⟨b, q⟩ := p;rw [hx] at h;simp only at h;obtain ⟨hq, _⟩ := X2C r [] b q hx;cases ht : X0S visS q with
   | true => rw [ht] at h; cases h
   | false =>
    rw [ht, if_neg (by decide)] at h;rw [X1y, if_pos rfl, if_pos rfl, hq];exact ⟨_, h⟩
 by_cases c3 : c = 40
 ·subst c3;rw [X8Y] at h;obtain ⟨f, h1, h2, h3⟩ := Y1O r.length r (Nat.le_refl _) [] top l [] false h;rw [X1y, if_neg (by decide), if_neg (by decide), if_pos rfl];exact ⟨f, h2⟩
 by_cases c4 : c = 41
 ·subst c4;rw [X8X] at h; cases h
 have c5 : ¬ X0m c = true := by simp [hb]
 have hc := X58 c1 c2 c3 c4 c5;obtain ⟨g, q, hq, hql, he, h'⟩ := X59 hc h;rw [X1y, if_neg c2, if_neg c1, if_neg c3, if_neg c4, if_neg c5, if_pos rfl, hq];exact ⟨g, h'⟩
theorem Z58 {r : List UInt8} {top l : List Fm} (h : PF r top [] = .inr l) : ∃ fs, l = top ++ fs := by
 obtain ⟨fs, h1, _⟩ := X4L r.length r (Nat.le_refl _) top l false h;exact ⟨fs, h1⟩
theorem Y7D {s : List UInt8} {l : List Fm} (h : X1s s = (l, 0, ())) : X7p s = some (IT true s l) := by
 obtain ⟨hs, hp, hv⟩ := X7I h;have hIl := X8L (s.length + 1) true s l;have hI0 : itS (s.length + 1) true s l = IT true s l := rfl;rw [hI0] at hIl;refine Up.get ?_;unfold X7p;rw [Y3y, h];simp only [Option.bind_some];refine X47 (N := False) (fun d => ∃ (i : Nat) (bare : Bool) (top : List Fm) (out : List (List UInt8 × Fm)), d = ((s, l, (), (top.length : Int), bare, (i : Int), ()), (out, ())) /\ i <= s.length + 2 /\ PF (s.drop i) top [] = .inr l /\ out ++ IT bare (s.drop i) (l.drop top.length) = IT true s l) (fun d => s.length + 2 - d.1.2.2.2.2.2.1.toNat) ?_ ⟨0, true, [], [], rfl, by omega, hp, rfl⟩;rintro d ⟨i, bare, top, out, rfl, hi, hpf, ho⟩;dsimp only;have holen := congrArg List.length ho;rw [List.length_append] at holen
 by_cases hi' : i < s.length
 ·left;have e1 : decide ((i : Int) < (s.length : Int)) = true := by simp [hi']
  have e2 : ixOK (i : Int) s.length = true := X0e.2 (by omega);have hd := X2k hi';have q10 : decide (((s[i].toNat : Nat) : Int) = 10) = decide (s[i] = 10) := X0u s[i] 10 (by decide);have q59 : decide (((s[i].toNat : Nat) : Int) = 59) = decide (s[i] = 59) := X0u s[i] 59 (by decide);rw [e1, e2, X2d hi', q10, q59, X4Q];simp only [cond_true, Option.bind_some];rw [wrapN (show i < 4611686018427387904 by omega)];obtain ⟨c, hc⟩ : ∃ c, c = s[i] := ⟨_, rfl⟩;rw [<- hc] at hd ⊢;rw [hd] at hpf;rw [hd, X49] at ho
  by_cases c10 : c = 10
  ·rw [decide_eq_true c10];rw [if_pos c10] at ho;rw [X4O (by rw [c10]; decide)] at hpf;exact ⟨_, rfl, ⟨i + 1, true, top, out, rfl, by omega, hpf, ho⟩, by simp only [Int.toNat_natCast]; omega⟩
  rw [decide_eq_false c10];rw [if_neg c10] at ho;simp only [cond_false]
  by_cases cb : X0m c = true
  ·rw [cb];rw [if_pos cb] at ho;rw [X4O cb] at hpf;exact ⟨_, rfl, ⟨i + 1, bare, top, out, rfl, by omega, hpf, ho⟩, by simp only [Int.toNat_natCast]; omega⟩
  rw [eq_false_of_ne_true cb];rw [if_neg cb] at ho;simp only [cond_false]
  by_cases c59 : c = 59
  ·rw [decide_eq_true c59];rw [if_pos c59] at ho;rw [c59, X50] at hpf;obtain ⟨j, r1, r2, r3, r4, r5⟩ := Y3D (s := s) (i := i) (by omega) (by omega);have hlt : i < j := by
    have hl := congrArg List.length r4;rw [hd] at hl;have := X1m (show c ≠ 10 from c10) (s.drop (i + 1));rw [List.length_drop] at hl;rw [List.length_drop] at this;omega
   rw [r1];simp only [cond_true, Option.bind_some];rw [hd] at r4 r5;rw [<- c59, <- r4] at hpf;cases bare with
   | false =>
    simp only [cond_false, Option.bind_some];rw [if_neg (by decide), List.nil_append, <- r4] at ho;exact ⟨_, rfl, ⟨j, false, top, out, rfl, by omega, hpf, ho⟩, by simp only [Int.toNat_natCast]; omega⟩
   | true =>
    have x1 : slOK (i : Int) (j : Int) s.length = true := X1t.2 (by omega);have t1 : (s.drop (i : Int).toNat).take ((j : Int).toNat - (i : Int).toNat) = (c :: s.drop (i + 1)).takeWhile n10 := by
     simp only [Int.toNat_natCast]; rw [hd]; exact r5
    have hm : ∀ x ∈ (c :: s.drop (i + 1)).takeWhile n10, x ≠ 10 := fun x hx => by
     have := List.all_eq_true.1 (List.all_takeWhile (p := n10) (l := c :: s.drop (i + 1))) x hx;simpa [n10] using this
    have hml : ((c :: s.drop (i + 1)).takeWhile n10).length <= s.length := by
     rw [<- t1, List.length_take, List.length_drop]; omega
    rw [x1, t1, Y3I (by omega) hm];rw [if_pos rfl, <- r4] at ho;simp only [cond_true, Option.bind_some, List.length_cons, List.length_nil];rw [decide_eq_true (show (out.length + (0 + 1)) * 72 <= 140737488355328 by omega)];simp only [cond_true, Option.bind_some];refine ⟨_, rfl, ⟨j, true, top, out ++ [(comS (c :: s.drop (i + 1)), zF)], rfl, by omega, hpf, ?_⟩, by simp only [Int.toNat_natCast]; omega⟩;rw [<- ho]; simp
  rw [decide_eq_false c59];rw [if_neg c59] at ho;have cb' : X0m c = false := eq_false_of_ne_true cb;obtain ⟨g, hg⟩ := Y9H cb' c59 hpf;obtain ⟨fs, hl⟩ := Z58 hg;have hA : AtF l (PA 0 (s.drop i)) 0 (s.drop i) := ⟨rfl, .inl ⟨rfl, c, _, top, hd, cb', c59, by rw [hd]; exact hpf⟩⟩;obtain ⟨j, r1, r2, r3, r4⟩ := Z0k (by omega) hi' hA;have hdl : l.drop top.length = g :: fs := by rw [hl]; simp
  have hgd : l.getD top.length (Fm.mk 0 0 [] []) = g := by rw [hl, List.append_assoc, List.singleton_append, List.getD_eq_getElem?_getD, List.getElem?_append_right (Nat.le_refl _), Nat.sub_self]; rfl
  have hll : l.length = top.length + 1 + fs.length := by rw [hl]; simp; omega
  have x1 : ixOK (top.length : Int) l.length = true := X0e.2 (by omega);have htl : top.length < 4611686018427387904 := by
   obtain ⟨fs', h1', h2', h3'⟩ := X4L s.length s (Nat.le_refl _) [] l true hp;have hasc := Y0c (s.length + 1) 0 false true s (Nat.lt_succ_self _);have hsuf := X42 (s.length + 1) 0 false true s (Nat.lt_succ_self _);have hlenE : (EV 0 false true s).length <= s.length + 1 := Y9l hasc s.length fun e he => (hsuf e he).length_le
   have hfe : X18 (EV 0 false true s) <= (EV 0 false true s).length := List.length_filter_le _ _;rw [List.nil_append] at h1';subst h1';omega
  rw [r1];simp only [cond_false, Option.bind_some, x1, cond_true, Int.toNat_natCast, hgd, Fm.eta_eq, List.length_cons, List.length_nil];rw [hdl] at ho;simp only at ho;have hol2 := congrArg List.length ho;simp only [List.length_append, List.length_cons] at hol2;rw [decide_eq_true (show (out.length + (0 + 1)) * 72 <= 140737488355328 by omega), cond_true, wrapN htl];refine ⟨_, rfl, ⟨j, false, top ++ [g], out ++ [([], g)], by rw [List.length_append]; rfl, by omega, ?_, ?_⟩, by simp only [Int.toNat_natCast]; omega⟩
  ·rw [r4, hd]; exact hg
  rw [<- ho, r4, hd, List.length_append, List.length_singleton, show l.drop (top.length + 1) = fs by rw [hl]; simp [List.drop_append]]; simp
 right; left;have e1 : decide ((i : Int) < (s.length : Int)) = false := by apply decide_eq_false; omega
 rw [e1, cond_false];refine ⟨_, rfl, .of ?_⟩;rw [List.drop_of_length_le (show s.length <= i by omega), Z2J, List.append_nil] at ho;rw [ho]
theorem Y3K {t : List UInt8} (hs : t.length <= 1000000000) : X48 t = some (X03 t) := by
 refine Up.get ?_;unfold X48;refine X47 (N := False) (fun d => ∃ i : Nat, d = ((t, (i : Int), ()), ()) /\ i <= t.length /\ X03 (t.drop i) = X03 t) (fun d => t.length - d.1.2.1.toNat) ?_ ⟨0, rfl, Nat.zero_le _, rfl⟩;rintro d ⟨i, rfl, hi, ho⟩;dsimp only
 by_cases hi' : i < t.length
 ·have e1 : decide ((i : Int) < (t.length : Int)) = true := by simp [hi']
  have e2 : ixOK (i : Int) t.length = true := X0e.2 (by omega);have q10 : decide (((t[i].toNat : Nat) : Int) = 10) = decide (t[i] = 10) := X0u t[i] 10 (by decide);have hd := X2k hi';rw [e1, e2, X2d hi', q10];simp only [cond_true];rw [hd] at ho;unfold X03 at ho ⊢;rw [List.any_cons] at ho
  by_cases c10 : t[i] = 10
  ·right; left;rw [decide_eq_true c10] at ho ⊢;exact ⟨_, rfl, .of (by rw [<- ho]; rfl)⟩
  left;rw [decide_eq_false c10] at ho ⊢;rw [wrapN (show i < 4611686018427387904 by omega)];exact ⟨_, rfl, ⟨i + 1, rfl, by omega, ho⟩, by simp only [Int.toNat_natCast]; omega⟩
 right; left;have e1 : decide ((i : Int) < (t.length : Int)) = false := by apply decide_eq_false; omega
 rw [e1, cond_false];rw [List.drop_of_length_le (show t.length <= i by omega)] at ho;exact ⟨_, rfl, .of (by rw [<- ho]; rfl)⟩
theorem Y9I {s : List UInt8} {l : List Fm} (hb : ∀ f ∈ l, f.big <= 120000) : ∀ p ∈ IT true s l, p.2.big <= 120000 := by
 have key : ∀ (n : Nat) (bare : Bool) (r : List UInt8) (fs : List Fm), (∀ f ∈ fs, f.big <= 120000) -> ∀ p ∈ itS n bare r fs, p.2.big <= 120000 := by
  intro n
  induction n with
  | zero => intro bare r fs _ p hp; simp [itS] at hp
  | succ n ih =>
   intro bare r fs hf p hp;cases r with
   | nil => simp [itS] at hp
   | cons c r =>
    simp only [itS] at hp
    by_cases c1 : c = 10
    ·rw [if_pos c1] at hp; exact ih _ _ _ hf p hp
    rw [if_neg c1] at hp
    by_cases c2 : X0m c = true
    ·rw [if_pos c2] at hp; exact ih _ _ _ hf p hp
    rw [if_neg c2] at hp
    by_cases c3 : c = 59
    ·rw [if_pos c3] at hp;rcases List.mem_append.1 hp with hp | hp
     ·by_cases hb : bare = true
      ·rw [if_pos hb, List.mem_singleton] at hp;subst hp; simp [zF, Fm.big, Fm.bigL]
      rw [if_neg hb] at hp; cases hp
     exact ih _ _ _ hf p hp
    rw [if_neg c3] at hp;cases fs with
    | nil => cases hp
    | cons f fs' =>
     rcases List.mem_cons.1 hp with rfl | hp
     ·exact hf f (by simp)
     exact ih _ _ _ (fun g hg => hf g (List.mem_cons_of_mem _ hg)) p hp
 exact key _ _ _ _ hb
theorem Z0e (s : List UInt8) (n : Int) : Y0Y s n = some (Y7X s n) := by
 unfold Y0Y Y7X;have hcw : cond (decide (n < 20)) true (decide (n > 200)) = !isW n := by
  unfold isW
  by_cases h1 : n < 20 <;> by_cases h2 : n > 200 <;> simp [h1, h2] <;> omega
 rw [hcw];cases hw : isW n with
 | false => rfl
 | true =>
  obtain ⟨w, rfl, hw1, hw2⟩ := Y9Y hw;rw [if_pos rfl, Y3y];simp only [Bool.not_true, cond_false, Option.bind_some]
  by_cases he : (X1s s).2.1 = 0
  ·have hr : X1s s = ((X1s s).1, 0, ()) := by
    generalize X1s s = x at he;obtain ⟨a, b, c⟩ := x;have he : b = 0 := he;rw [he]
   obtain ⟨hs, hp, hv⟩ := X7I hr;rw [if_pos he, Y7D hr, decide_eq_true he];have hJ := Y0k (s.length + 1) true s (X1s s).1 hs hv;have hIl := X8L (s.length + 1) true s (X1s s).1;have hI : itS (s.length + 1) true s (X1s s).1 = IT true s (X1s s).1 := rfl;have hbI := Y9I (s := s) (X7F hs hp).2.1;rw [hI] at hJ hIl;generalize IT true s (X1s s).1 = P at hJ hIl hbI;simp only [Option.bind_some, Bool.not_true, cond_false, Int.toNat_natCast];have htot := Y1L w P false false hJ;have htot2 : P.length * 90000000 <= 60000 * 90000000 := Nat.mul_le_mul_right _ (by omega);refine Up.get ?_;refine X47 (N := False) (fun d => ∃ (i : Nat) (o pv : List UInt8), d = (((w : Int), P, o, pv, (i : Int), ()), ()) /\ i <= P.length /\ pv.length <= 90000000 /\ o ++ outS w (pfAt P i) (X03 pv) (P.drop i) = outS w false false P) (fun d => P.length - d.1.2.2.2.2.1.toNat) ?_ ⟨0, [], [], rfl, Nat.zero_le _, by simp, rfl⟩;rintro d ⟨i, o, pv, rfl, hi, hpv, ho⟩;have holen := congrArg List.length ho;rw [List.length_append] at holen;dsimp only
   by_cases hi' : i < P.length
   ·left;have e1 : decide ((i : Int) < (P.length : Int)) = true := by simp [hi']
    have e2 : ixOK (i : Int) P.length = true := X0e.2 (by omega);have e3 : (ixOK (IntKind.wrap .i64 ((i : Int) - 1)) P.length || !decide ((i : Int) > 0)) = true := by
     by_cases h0 : i = 0
     ·subst h0; simp
     rw [Y6M (by omega) (by omega), X0e.2 (by omega)]; rfl
    have hsp : cond (decide ((i : Int) > 0)) (decide ((P.getD (IntKind.wrap .i64 ((i : Int) - 1)).toNat (([] : List UInt8), (Fm.mk 0 0 [] []))).1 = [])) false = pfAt P i := by
     unfold pfAt
     by_cases h0 : i = 0
     ·subst h0; rfl
     rw [decide_eq_true (show (i : Int) > 0 by omega), decide_eq_true (show 0 < i by omega), Y6M (by omega) (by omega), Int.toNat_natCast];simp
    have hdr : P.drop i = P[i] :: P.drop (i + 1) := List.drop_eq_getElem_cons hi';have hmem := List.getElem_mem hi';have hJi := hJ _ hmem;have hbi := hbI _ hmem;rw [e1, e3];simp only [cond_true, hsp];have hgi : P.getD (i : Int).toNat (([] : List UInt8), (Fm.mk 0 0 [] [])) = P[i] := X09 hi' _;have hpf := Y3w hi';generalize P[i] = p at hdr hJi hbi hpf hgi;obtain ⟨pb, pf_⟩ := p;rw [hdr, outS] at ho holen
    have fin : ∀ (o' pv' : List UInt8) (X : Option ((Int × (List (List UInt8 × Fm)) × List UInt8 × (List UInt8) × Int × Unit) × (Unit))), X = some (((w : Int), P, o', pv', (i : Int), ()), ()) -> pv'.length <= 90000000 -> o' ++ outS w (pfAt P (i + 1)) (X03 pv') (P.drop (i + 1)) = outS w false false P ->
      ∃ l', Option.bind X (fun d24 : (Int × (List (List UInt8 × Fm)) × List UInt8 × (List UInt8) × Int × Unit) × (Unit) => some (Step.next (R := (List UInt8 × Unit) × (Unit)) ((d24.1.1, d24.1.2.1, d24.1.2.2.1, d24.1.2.2.2.1, IntKind.wrap .i64 (d24.1.2.2.2.2.1 + 1), ()), ()))) = some (.next l') /\
       (∃ (i : Nat) (o pv : List UInt8), l' = (((w : Int), P, o, pv, (i : Int), ()), ()) /\ i <= P.length /\ pv.length <= 90000000 /\ o ++ outS w (pfAt P i) (X03 pv) (P.drop i) = outS w false false P) /\ P.length - l'.1.2.2.2.2.1.toNat < P.length - (i : Int).toNat := by
     intro o' pv' X hX hpv' ho';rw [hX];refine ⟨_, rfl, ⟨i + 1, o', pv', ?_, by omega, hpv', ho'⟩, ?_⟩
     ·dsimp only; rw [wrapN (show i < 4611686018427387904 by omega)]
     dsimp only; rw [wrapN (show i < 4611686018427387904 by omega)]; simp only [Int.toNat_natCast]; omega
    simp only [e2, cond_true, hgi]
    by_cases hpb : pb = []
    ·subst hpb;have hvf : X0H pf_ = true := by
      rcases hJi with h | h
      ·exact h.2
      exact absurd rfl h.1
     rw [if_pos rfl] at ho holen;have hl0 := Y6m w hvf;have hfmt : X7s pf_ 0 (w : Int) 0 = some (layF w pf_ 0 0) := Y7J (by omega) hvf (by have : pf_.big <= 120000 := hbi; omega);rw [decide_eq_true rfl] at hpf;have hc : (if pfAt P i = true /\ X03 pv = true /\ X03 (layF w pf_ 0 0) = true then [10] else [] : List UInt8) = cond (cond (cond (pfAt P i) (X03 pv) false) (X03 (layF w pf_ 0 0)) false) [10] [] := by
      cases pfAt P i <;> cases X03 pv <;> cases X03 (layF w pf_ 0 0) <;> rfl
     rw [hc] at ho holen;refine fin (o ++ (cond (cond (cond (pfAt P i) (X03 pv) false) (X03 (layF w pf_ 0 0)) false) [10] [] ++ (layF w pf_ 0 0 ++ [10]))) (layF w pf_ 0 0) _ ?_ (by omega) (by rw [<- ho, hpf]; simp);simp only [decide_true, Bool.not_true, cond_false, Fm.eta_eq, hfmt, Option.bind_some];have a1 : (cond (pfAt P i) (X48 pv) (some false) : Option Bool) = some (cond (pfAt P i) (X03 pv) false) := by
      cases pfAt P i
      ·rfl
      simp only [cond_true]; exact Y3K (by omega)
     rw [a1];simp only [Option.bind_some];have a2 : cond (pfAt P i) (cond (pfAt P i) (X03 pv) false) false = cond (pfAt P i) (X03 pv) false := by cases pfAt P i <;> rfl
     rw [a2];have a3 : (cond (cond (pfAt P i) (X03 pv) false) (X48 (layF w pf_ 0 0)) (some false) : Option Bool) = some (cond (cond (pfAt P i) (X03 pv) false) (X03 (layF w pf_ 0 0)) false) := by
      cases cond (pfAt P i) (X03 pv) false
      ·rfl
      simp only [cond_true]; exact Y3K (by omega)
     rw [a3];simp only [Option.bind_some];have a4 : cond (cond (pfAt P i) (X03 pv) false) (cond (cond (pfAt P i) (X03 pv) false) (X03 (layF w pf_ 0 0)) false) false = cond (cond (pfAt P i) (X03 pv) false) (X03 (layF w pf_ 0 0)) false := by cases cond (pfAt P i) (X03 pv) false <;> rfl
     rw [a4];generalize cond (cond (pfAt P i) (X03 pv) false) (X03 (layF w pf_ 0 0)) false = b at holen;simp only [List.length_append, List.length_cons] at holen;cases b with
     | true =>
      simp only [cond_true, List.length_cons, List.length_nil] at holen ⊢;rw [decide_eq_true (by omega)];simp only [cond_true, Option.bind_some, List.length_append, List.length_cons, List.length_nil];rw [decide_eq_true (by omega), cond_true, decide_eq_true (by omega), cond_true];simp
     | false =>
      simp only [cond_false, List.length_nil] at holen ⊢;simp only [Option.bind_some, List.length_append, List.length_cons, List.length_nil];rw [decide_eq_true (by omega), cond_true, decide_eq_true (by omega), cond_true];simp
    rw [if_neg hpb] at ho holen;rw [decide_eq_false hpb] at hpf;have hpl : pb.length <= 60000 := by
     rcases hJi with h | h
     ·exact absurd h.1 hpb
     exact h.2
    have hc : (if pfAt P i = true then [10] else [] : List UInt8) = cond (pfAt P i) [10] [] := by cases pfAt P i <;> rfl
    rw [hc] at ho holen;refine fin (o ++ (cond (pfAt P i) [10] [] ++ (pb ++ [10]))) pv _ ?_ hpv (by rw [<- ho, hpf]; simp);simp only [decide_eq_false hpb, Bool.not_false, cond_true];generalize pfAt P i = b at holen;simp only [List.length_append, List.length_cons] at holen;cases b with
    | true =>
     simp only [cond_true, List.length_cons, List.length_nil] at holen ⊢;rw [decide_eq_true (by omega)];simp only [cond_true, Option.bind_some, e2, hgi, List.length_append, List.length_cons, List.length_nil];rw [decide_eq_true (by omega), cond_true, decide_eq_true (by omega), cond_true];simp
    | false =>
     simp only [cond_false, List.length_nil] at holen ⊢;simp only [Option.bind_some, e2, hgi, cond_true, List.length_append, List.length_cons, List.length_nil];rw [decide_eq_true (by omega), cond_true, decide_eq_true (by omega), cond_true];simp
   right; left;have e1 : decide ((i : Int) < (P.length : Int)) = false := by apply decide_eq_false; omega
   rw [e1, cond_false];refine ⟨_, rfl, .of ?_⟩;rw [List.drop_of_length_le (show P.length <= i by omega), outS, List.append_nil] at ho;rw [ho]
  rw [if_neg he];simp only [Option.bind_some, decide_eq_false he, Bool.not_false, cond_true]
theorem Y4V (s : List UInt8) (n : Int) : X7N s n = some true := by
 unfold X7N;simp only [X8Q, Z0e, Option.bind_some, decide_true, cond_true, Y7L]
theorem Z0B (s : List UInt8) (n : Int) : PCall CX 4 [.str s, .int .i64 n] (· = .ret (.bool true)) :=
 Y2e (s, n, ()) true (Y4V s n)
end Go.Ab
namespace Go.Proofs.YthbkbjlfghikfaaGreatDoor.layoutText
open Go Go.ChangeShapes Go.WideShapes Go.ChangeAt Go.RowKit Go.Ab
theorem own : ownKnob Tryz.prog.godebug = none := by kernel_rfl
def flat {H : Type} : Nat -> DataW H -> List Value
 | 0, _ => []
 | n + 1, d => match d with
  | .lit (.int k x) => [.int k x]
  | .agg l => l.flatMap (flat n)
  | _ => []
noncomputable def lay (W : World) (name : String) (d : DataW Unit) : World :=
 match Tryz.prog.globalNamed name with
 | some g => match d with
  | .iface _ (.ptr (.agg [.lit (.string bs)])) => { W with heap := (W.heap.push (.cells #[.string ⟨bs.toArray⟩] 241 (0, 0))).modify g fun
   | .cells _ t fz => .cells #[.iface 239 (.pointer (some ⟨W.heap.size, 0, none⟩))] t fz
   | o => o }
  | d => { W with heap := W.heap.modify g fun
   | .cells _ t fz => .cells (flat 4 d).toArray t fz
   | o => o }
 | none => W
noncomputable def X8O (os : Os) : World :=
 lay (lay (lay (lay (lay (lay (lay (World.holding Tryz.prog os ⟨#[], #[], []⟩) "math/bits.deBruijn32tab" Rows.laid_math_bits_deBruijn32tab) "math/bits.deBruijn64tab" Rows.laid_math_bits_deBruijn64tab) "internal/strconv.uint64pow10" Rows.laid_internal_strconv_uint64pow10) "unicode/utf8.acceptRanges" Rows.laid_unicode_utf8_acceptRanges) "strconv.ErrRange" Rows.laid_strconv_ErrRange) "strconv.ErrSyntax" Rows.laid_strconv_ErrSyntax) "unicode/utf8.first" Rows.laid_unicode_utf8_first
theorem Z1U (os : Os) : laidMet Tryz.prog Rows.layoutTextUptoRow.laid ((X8O os).forCall (fun _ _ => 0) ⟨#[], #[(.string ⟨#[]⟩), (.int .i64 0)], []⟩).memory :=
 laidMet_of_run' 8 (by kernel_rfl) (by kernel_rfl)
theorem reads (os : Os) {H : Type} (enc : TypeId × Value -> H) : ∃ places, DataW.whole enc Tryz.prog ((X8O os).forCall (fun _ _ => 0) ⟨#[], #[(.string ⟨#[]⟩), (.int .i64 0)], []⟩).memory Tryz.f4.params.toList Rows.layoutTextSpec.vars false (#[(.string ⟨#[]⟩), (.int .i64 0)] : Array Value).toList 8 = some ([(.lit (.string [])), (.lit (.int .i64 0))], [], places) :=
 ⟨[], by kernel_rfl⟩
theorem Z4A (H : Type) (ds : List (DataW H)) (h : ds.length = Tryz.f4.params.toList.length) : Rows.layoutTextSpec.fn H ds = { results := [.lit (.bool true)], args := ds } := by
 rw [Tryz.params4] at h;rcases ds with _ | ⟨d0, _ | ⟨d1, _ | ⟨e, ds⟩⟩⟩
 all_goals first | (simp at h; done) | rfl
theorem Z1z (H : Type) (enc : TypeId × Value -> H) (W : World) (base : Nat) (args : Array Value) (ds gs : List (DataW H)) (before : List MemPlace)
  (hval : ∀ (j : Nat) t v, Tryz.f4.params[j]? = some t -> args[j]? = some v -> Value.okWide Tryz.prog W .any base t v)
  (hW : DataW.Whole enc Tryz.prog Tryz.f4.params.toList Rows.layoutTextSpec.vars false W args.toList ds gs before) (hb : Rows.uptoSmall H (ds ++ gs) = true) (hE : ErrW W) :
  Calls Tryz.prog 4 args W fun e W' => ∃ v, e = .returned v /\ Rows.layoutTextSpec.post enc Tryz.prog Tryz.f4 false true false false W args v W' :=
 Y4F (es := [.str, (.int .i64)]) (n := 12) (tb := 4) rfl Z4A (by kernel_rfl) (by kernel_rfl) (by kernel_rfl) (by kernel_rfl) (by kernel_rfl) (by kernel_rfl) (fun x _ _ => by obtain ⟨(s : List UInt8), (n : Int), u⟩ := x; exact Z0B s n) H enc W base args ds gs before hval hW hb hE
theorem lifted (os : Os) (started : os.Started) (H : Type) (enc : TypeId × Value -> H) (F : Stop.Interp) :
  ReturnsInHanded {} Tryz.checked os 4 .any ((Rows.OpenSpec.upto Rows.layoutTextSpec).preRow enc Tryz.prog Tryz.f4 Rows.layoutTextUptoRow.domain false Rows.layoutTextUptoRow.laid) (((Rows.OpenSpec.upto Rows.layoutTextSpec).at F).post enc Tryz.prog Tryz.f4 false true false false) := by
 obtain ⟨places, hx⟩ := reads os enc
 refine returnsInHanded_of_row (C := Tryz.checked) (s := Rows.OpenSpec.upto Rows.layoutTextSpec) own started (by kernel_rfl) Tryz.func4
  (witness_row_at (enc := enc) (C := Tryz.checked) false (X8O os) #[(.string ⟨#[]⟩), (.int .i64 0)] rfl (by kernel_rfl) (by kernel_rfl) (by kernel_rfl)
   (OpenSpec.preRow_of_cond 8 hx (by kernel_rfl) (fun k hk => by cases hk; kernel_rfl) (by kernel_rfl) (Z1U os))) ?_
 intro W base args ds gs before hval hW g1 g2 g3 hL g4 g5;exact Z1z H enc W base args ds gs before hval hW (g2 _ rfl) (Z36 hL (show ("strconv.ErrRange", Rows.laid_strconv_ErrRange) ∈ Rows.layoutTextUptoRow.laid from by simp [Rows.layoutTextUptoRow]) (fun q hq => by rcases List.mem_singleton.1 hq with rfl; exact (show ("internal/strconv.uint64pow10", Rows.laid_internal_strconv_uint64pow10) ∈ Rows.layoutTextUptoRow.laid from by simp [Rows.layoutTextUptoRow])))
theorem band {a b : Bool} (h : a = true) (h' : b = true) : (a && b) = true := by rw [h, h']; rfl
theorem Z63 : (Rows.layoutTextUptoRow.inPlace == Tryz.pinned.checked.prog.inPlace 4) = true := by kernel_rfl
theorem Z64 : (Rows.layoutTextUptoRow.unfollowed == Tryz.pinned.checked.prog.unfollowed 4) = true := by kernel_rfl
theorem Z65 : (Rows.layoutTextUptoRow.recurses == Tryz.pinned.checked.prog.recurses 4) = true := by kernel_rfl
theorem Z66 : (Rows.layoutTextUptoRow.named == Tryz.pinned.checked.prog.varsNamed 4) = true := by kernel_rfl
theorem Z67 : Tryz.pinned.checked.prog.mayEnter = true := by kernel_rfl
theorem Z68 : Tryz.pinned.checked.prog.stopsHeard = true := by kernel_rfl
theorem closed : joinedFacts Tryz.pinned.checked.prog 4 Tryz.f4 (Rows.OpenSpec.upto Rows.layoutTextSpec).bare Rows.layoutTextUptoRow = true := by
 unfold joinedFacts
 repeat' with_reducible refine band ?_ ?_
 all_goals first | with_reducible exact Z63 | with_reducible exact Z64 | with_reducible exact Z65 | with_reducible exact Z66 | with_reducible exact Z67 | with_reducible exact Z68 | kernel_rfl
theorem said : Rows.LayoutTextUptoSaid :=
 OpenClaim.holds_of_cond 4 Tryz.f4 rfl rfl rfl rfl rfl rfl rfl ⟨rfl, rfl, rfl, rfl, rfl⟩ rfl rfl rfl rfl rfl (by as_aux_lemma => kernel_rfl) Tryz.func4 closed
  (of_decide_eq_true (by kernel_rfl)) (by unfold Func.isWrapper; first | (rw [if_pos (by decide +kernel)]; kernel_rfl) | (rw [if_neg (by decide +kernel)]; exact ⟨rfl, rfl⟩))
  (fun os started H enc _ F => by rw [OpenClaim.pre_eq_preRow]; exact lifted os started H enc F)
theorem plain (f : FuncId) (fn : Func) (hf : Tryz.pinned.checked.prog.funcNamed "plinth/plinthlaw02.LayoutText" = some f) (hfn : Tryz.pinned.checked.prog.funcs[f]? = some fn) :
  true = Tryz.pinned.checked.prog.looks [] /\ ∀ (j : Nat) t, fn.params[j]? = some t -> Tryz.pinned.checked.prog.wantsStandIn t = false := by
 obtain rfl : f = 4 := Option.some.inj ((show Tryz.prog.funcNamed "plinth/plinthlaw02.LayoutText" = some 4 by kernel_rfl).symm.trans hf) |>.symm
 obtain rfl : fn = Tryz.f4 := (Option.some.inj (Tryz.func4.symm.trans hfn)).symm;refine ⟨by kernel_rfl, fun j t ht => ?_⟩;rw [Tryz.params4] at ht;have hm := Array.mem_of_getElem? ht;simp only [List.mem_toArray, List.mem_cons, List.mem_nil_iff, or_false] at hm;have w0 : Tryz.prog.wantsStandIn 9 = false := by kernel_rfl
 have w1 : Tryz.prog.wantsStandIn 3 = false := by kernel_rfl
 rcases hm with h | h <;> rw [h] <;> first | exact w0 | exact w1
theorem proved : Rows.LayoutTextUptoCardSaid :=
 Claim7.holds_tied_plain_at .later _ _ _ _ _ said (fun _ h => by cases h) (by kernel_rfl) (fun _ h => by cases h) layoutTextUpto_row_tie rfl ⟨rfl, rfl⟩ (by kernel_rfl) rfl plain (by kernel_rfl)
#print axioms proved
end Go.Proofs.YthbkbjlfghikfaaGreatDoor.layoutText
