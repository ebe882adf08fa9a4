/-
  LAYOUT: the law of laying out twice.
-/
import Derived.Test.YthbkbjlfghikfaaGreatDoorZ18
import Derived.Test.YthbkbjlfghikfaaGreatDoorZ17
set_option linter.unusedVariables false
set_option linter.unusedSimpArgs false
set_option maxRecDepth 100000
set_option maxHeartbeats 1000000
namespace Go.Ab
open Go Go.RowKit Go.Proofs
def aNL (s : List UInt8) : List UInt8 := s.foldl (fun a c => if c = 10 then [] else a ++ [c]) []
theorem aNL_snoc (s : List UInt8) (c : UInt8) : aNL (s ++ [c]) = if c = 10 then [] else aNL s ++ [c] := by unfold aNL; rw [List.foldl_append]; rfl
theorem aNL_run (p : List UInt8) : ∀ q : List UInt8, (∀ c ∈ q, c ≠ 10) → aNL (p ++ q) = aNL p ++ q := by
 intro q
 induction q generalizing p with
 | nil => intro _; simp
 | cons c q ih =>
  intro h
  have e : p ++ c :: q = (p ++ [c]) ++ q := by simp
  rw [e, ih (p ++ [c]) fun x hx => h x (by simp [hx]), aNL_snoc, if_neg (h c (by simp))]
  simp
theorem aNL_all {q : List UInt8} (h : ∀ c ∈ q, c ≠ 10) : aNL q = q := by
 have := aNL_run [] q h
 rwa [List.nil_append, show aNL [] = [] from rfl, List.nil_append] at this
theorem aNL_nl (p : List UInt8) {q : List UInt8} (h : ∀ c ∈ q, c ≠ 10) : aNL (p ++ (10 :: q)) = q := by
 have e : p ++ 10 :: q = (p ++ [10]) ++ q := by simp
 rw [e, aNL_run _ _ h, aNL_snoc, if_pos rfl, List.nil_append]
theorem aNL_bare (p : List UInt8) : ∀ r : List UInt8, (aNL (p ++ r)).all wsB = bareF ((aNL p).all wsB) r := by
 intro r
 induction r generalizing p with
 | nil => rw [List.append_nil]; rfl
 | cons c r ih =>
  have e : p ++ c :: r = (p ++ [c]) ++ r := by simp
  rw [e, ih (p ++ [c]), bareF, aNL_snoc]
  congr 1
  by_cases h : c = 10
  ·rw [if_pos h, if_pos h]; rfl
  ·rw [if_neg h, if_neg h, List.all_append]
   congr 1
   simp [wsB, wsL]
theorem lastIdx_val {s : List UInt8} (hs : s.length ≤ 1000000000) : ∃ j : Nat, G_lastIdx s 10 = some ((j : Int) - 1) ∧ j ≤ s.length ∧ s.drop j = aNL s := by
 have inner : ∃ v, G_lastIdx0 s 10 = some v ∧ ∃ j : Nat, v = (j : Int) - 1 ∧ j ≤ s.length ∧ s.drop j = aNL s := by
  unfold G_lastIdx0
  refine yloop (fun d => ∃ j : Nat, d = ((s, 10, (j : Int) - 1, ()), ()) ∧ j ≤ s.length ∧ ∀ c ∈ s.drop j, c ≠ 10) (fun d => (d.1.2.2.1 + 1).toNat) _ ?_ ⟨s.length, by rw [w64 (by omega) (by omega)], Nat.le_refl _, by intro c hc; rw [List.drop_length] at hc; cases hc⟩
  rintro d ⟨j, rfl, hj, hn⟩
  dsimp only
  cases j with
  | zero =>
   right
   have e1 : decide ((((0 : Nat) : Int) - 1) ≥ 0) = false := by decide
   rw [e1, cond_false]
   refine ⟨_, rfl, _, rfl, 0, rfl, Nat.zero_le _, ?_⟩
   rw [List.drop_zero] at hn ⊢
   exact (aNL_all hn).symm
  | succ j =>
   have e0 : (((j + 1 : Nat) : Int) - 1) = (j : Int) := by omega
   have e1 : decide ((j : Int) ≥ 0) = true := by apply decide_eq_true; omega
   have hj' : j < s.length := by omega
   have e2 : ixOK (j : Int) s.length = true := ixOK_iff.2 (by omega)
   rw [e0, e1, e2, ybyte hj']
   simp only [cond_true]
   have e3 : decide (((s[j].toNat : Nat) : Int) = 10) = decide (s[j] = 10) := ybyteD s[j] 10 (by decide)
   rw [e3]
   have hd := ydrop hj'
   by_cases hc : s[j] = 10
   ·right
    rw [decide_eq_true hc, cond_true]
    refine ⟨_, rfl, _, rfl, j + 1, by omega, hj, ?_⟩
    have e4 : s = s.take j ++ (10 :: s.drop (j + 1)) := by
     conv => lhs; rw [← List.take_append_drop j s, hd, hc]
    have e5 : aNL s = aNL (s.take j ++ (10 :: s.drop (j + 1))) := congrArg aNL e4
    rw [e5, aNL_nl _ hn]
   ·left
    rw [decide_eq_false hc, cond_false]
    refine ⟨_, rfl, ⟨j, by rw [w64 (by omega) (by omega)], by omega, fun c hcm => ?_⟩, by dsimp only; rw [w64 (by omega) (by omega)]; omega⟩
    rw [hd] at hcm
    rcases List.mem_cons.1 hcm with rfl | hcm
    ·exact hc
    ·exact hn c hcm
 obtain ⟨v, hv, j, rfl, h1, h2⟩ := inner
 refine ⟨j, ?_, h1, h2⟩
 unfold G_lastIdx
 rw [hv]; rfl
theorem trimB_nil (s : List UInt8) : (trimBS s = []) ↔ s.all wsB = true := by
 unfold trimBS
 rw [trimRi_nil _ _ _ (Nat.le_refl _), List.take_length, List.all_eq_true]
 rfl
theorem trimBF_val {s : List UInt8} (hs : s.length ≤ 1000000000) : trimBF s [32, 9] = some (trimBS s) := by
 unfold trimBF
 rw [if_pos ⟨rfl, by omega⟩]
theorem line_end (l : List UInt8) : (Lib.indexByte l 10 < 0 → (l.takeWhile n10).length = l.length) ∧ (0 ≤ Lib.indexByte l 10 → ((l.takeWhile n10).length : Int) = Lib.indexByte l 10) ∧ l.drop (l.takeWhile n10).length = lineE l ∧ l.take (l.takeWhile n10).length = l.takeWhile n10 ∧ (l.takeWhile n10).length ≤ l.length := by
 have h := line_drop l
 have e : l.takeWhile n10 ++ lineE l = l := List.takeWhile_append_dropWhile
 have el := congrArg List.length e
 rw [List.length_append] at el
 refine ⟨fun hn => ?_, fun hp => ?_, ?_, ?_, by omega⟩
 ·have h1 : lineE l = [] := h.1 hn
  rw [h1] at el; simpa using el
 ·obtain ⟨a, b⟩ := h.2 hp
  have a : lineE l = l.drop (Lib.indexByte l 10).toNat := a
  have := congrArg List.length a
  rw [List.length_drop] at this
  omega
 ·have h1 := List.drop_left (l₁ := l.takeWhile n10) (l₂ := lineE l)
  rwa [e] at h1
 ·have h1 := List.take_left (l₁ := l.takeWhile n10) (l₂ := lineE l)
  rwa [e] at h1
theorem take_add' (s : List UInt8) (i e : Nat) : s.take (i + e) = s.take i ++ (s.drop i).take e := by rw [List.take_add]
def posC (n : Nat) (b : Bool) (E : List (Bool × List UInt8)) : List Int := (E.filter fun e => e.1 == b).map fun e => (n : Int) - (e.2.length : Int)
theorem posC_app (n : Nat) (b : Bool) (E F : List (Bool × List UInt8)) : posC n b (E ++ F) = posC n b E ++ posC n b F := by unfold posC; rw [List.filter_append, List.map_append]
theorem posC_one {s : List UInt8} {i : Nat} (hi : i ≤ s.length) (b c : Bool) : posC s.length b [(c, s.drop i)] = if c = b then [(i : Int)] else [] := by
 unfold posC
 by_cases h : c = b
 ·subst h
  rw [if_pos rfl]
  simp
  omega
 ·rw [if_neg h]; simp [h]
structure CI (s : List UInt8) (i : Nat) (d g : Int) (a f : List Int) : Prop where
 hi : i ≤ s.length + 2
 hd1 : -(i : Int) ≤ d
 hd2 : d ≤ (i : Int)
 ha : a.length ≤ i
 hf : f.length ≤ i
 ea : a ++ posC s.length false (EV d (decide (0 ≤ g)) ((aNL (s.take i)).all wsB) (s.drop i)) = posC s.length false (EV 0 false true s)
 ef : f ++ posC s.length true (EV d (decide (0 ≤ g)) ((aNL (s.take i)).all wsB) (s.drop i)) = posC s.length true (EV 0 false true s)
theorem CI.step {s : List UInt8} {i j : Nat} {d d' g g' : Int} {a f a' f' : List Int} (h : CI s i d g a f) (hij : i < j) (hj : j ≤ s.length + 2) (h1 : -(j : Int) ≤ d') (h2 : d' ≤ (j : Int)) (X : List (Bool × List UInt8))
  (hE : EV d (decide (0 ≤ g)) ((aNL (s.take i)).all wsB) (s.drop i) = X ++ EV d' (decide (0 ≤ g')) ((aNL (s.take j)).all wsB) (s.drop j))
  (ha : a' = a ++ posC s.length false X) (hf : f' = f ++ posC s.length true X) (hX : X.length ≤ 1) : CI s j d' g' a' f' := by
 obtain ⟨q1, q2, q3, q4, q5, q6, q7⟩ := h
 rw [hE, posC_app, ← List.append_assoc] at q6 q7
 have l1 : ∀ b, (posC s.length b X).length ≤ 1 := fun b => by
  unfold posC; rw [List.length_map]; exact Nat.le_trans (List.length_filter_le _ _) hX
 refine ⟨hj, h1, h2, ?_, ?_, ?_, ?_⟩
 ·rw [ha, List.length_append]; have := l1 false; omega
 ·rw [hf, List.length_append]; have := l1 true; omega
 ·rw [ha]; exact q6
 ·rw [hf]; exact q7
theorem aNL_step {s : List UInt8} {i : Nat} (hi : i < s.length) : (aNL (s.take (i + 1))).all wsB = if s[i] = 10 then true else ((aNL (s.take i)).all wsB && wsB s[i]) := by
 rw [List.take_succ_eq_append_getElem hi, aNL_snoc]
 by_cases h : s[i] = 10
 ·rw [if_pos h, if_pos h]; rfl
 ·rw [if_neg h, if_neg h, List.all_append]; simp
theorem wsB_not {c : UInt8} (h1 : c ≠ 32) (h2 : c ≠ 9) : wsB c = false := by simp [wsB, wsL, h1, h2]
theorem qEnd_plain {c : UInt8} (h1 : c ≠ 92) (h2 : c ≠ 34) (r : List UInt8) : qEnd (c :: r) = qEnd r := by
 cases r with
 | nil => simp [qEnd]
 | cons d r => rw [qEnd, if_neg h1, if_neg h2]
theorem qEnd_close (r : List UInt8) : qEnd (34 :: r) = r := by
 cases r with
 | nil => simp [qEnd]
 | cons d r => rw [qEnd, if_neg (by decide), if_pos rfl]
theorem lcomments_val {s : List UInt8} (hs : s.length ≤ 1000000) : G_lcomments s = some (posC s.length false (EV 0 false true s), posC s.length true (EV 0 false true s), ()) := by
 refine Up.get ?_
 unfold G_lcomments
 refine up_inv (N := False) (fun d => ∃ (i : Nat) (dp g : Int) (a f : List Int), d = ((s, (), (), dp, g, (i : Int), ()), (a, f, ())) ∧ CI s i dp g a f) (fun d => s.length + 2 - d.1.2.2.2.2.2.1.toNat) ?_
  ⟨0, 0, -1, [], [], rfl, ⟨by omega, by omega, by omega, Nat.le_refl _, Nat.le_refl _, rfl, rfl⟩⟩
 rintro d ⟨i, dp, g, a, f, rfl, hI⟩
 dsimp only
 by_cases hi : i < s.length
 ·left
  have e1 : decide ((i : Int) < (s.length : Int)) = true := by simp [hi]
  have e2 : ixOK (i : Int) s.length = true := ixOK_iff.2 (by omega)
  have hd := ydrop hi
  have hda := hI.hd1
  have hdb := hI.hd2
  have hla := hI.ha
  have hlf := hI.hf
  rw [e1, e2, ybyte hi]
  simp only [cond_true]
  obtain ⟨c, hc⟩ : ∃ c, c = s[i] := ⟨_, rfl⟩
  rw [← hc] at hd ⊢
  have b59 : decide (((c.toNat : Nat) : Int) = 59) = decide (c = 59) := ybyteD c 59 (by decide)
  have b34 : decide (((c.toNat : Nat) : Int) = 34) = decide (c = 34) := ybyteD c 34 (by decide)
  have b40 : decide (((c.toNat : Nat) : Int) = 40) = decide (c = 40) := ybyteD c 40 (by decide)
  have b41 : decide (((c.toNat : Nat) : Int) = 41) = decide (c = 41) := ybyteD c 41 (by decide)
  have hstep := aNL_step hi
  rw [← hc] at hstep
  rw [b59, b34, b40, b41, blank_cond]
  have fin : ∀ (j : Nat) (dp' g' : Int) (a' f' : List Int) (X : Option (((List UInt8) × Unit × Unit × Int × Int × Int × Unit) × ((List Int) × (List Int) × Unit))), X = some ((s, (), (), dp', g', (j : Int) - 1, ()), (a', f', ())) → i < j → CI s j dp' g' a' f' →
    ∃ l', Option.bind X (fun d55 : ((List UInt8) × Unit × Unit × Int × Int × Int × Unit) × ((List Int) × (List Int) × Unit) => some (Step.next (R := (Unit × Unit × Unit) × ((List Int) × (List Int) × Unit)) ((d55.1.1, (), (), d55.1.2.2.2.1, d55.1.2.2.2.2.1, IntKind.wrap .i64 (d55.1.2.2.2.2.2.1 + 1), ()), (d55.2.1, d55.2.2.1, ())))) = some (.next l') ∧
     (∃ (i : Nat) (dp g : Int) (a f : List Int), l' = ((s, (), (), dp, g, (i : Int), ()), (a, f, ())) ∧ CI s i dp g a f) ∧ s.length + 2 - l'.1.2.2.2.2.2.1.toNat < s.length + 2 - (i : Int).toNat := by
   intro j dp' g' a' f' X hX hij hC
   have hjj := hC.hi
   rw [hX]
   have ew : IntKind.wrap .i64 ((j : Int) - 1 + 1) = (j : Int) := by rw [w64 (by omega) (by omega)]; omega
   refine ⟨_, rfl, ⟨j, dp', g', a', f', ?_, hC⟩, ?_⟩
   ·dsimp only; rw [ew]
   ·dsimp only; rw [ew]; simp only [Int.toNat_natCast]; omega
  have evNone : ∀ {d' : Int} {nr b' : Bool} (hE : EV dp (decide (0 ≤ g)) ((aNL (s.take i)).all wsB) (s.drop i) = EV d' nr b' (s.drop (i + 1))) (g' : Int), decide (0 ≤ g') = nr → b' = (aNL (s.take (i + 1))).all wsB → -((i + 1 : Nat) : Int) ≤ d' → d' ≤ ((i + 1 : Nat) : Int) → CI s (i + 1) d' g' a f := by
   intro d' nr b' hE g' hg hb h1 h2
   refine hI.step (Nat.lt_succ_self _) (by omega) h1 h2 [] ?_ (by simp [posC]) (by simp [posC]) (by simp)
   rw [hE, hg, hb]; rfl
  have evOne : ∀ {P : Prop} [Decidable P] {d' : Int} {nr b' : Bool} (b : Bool) (hE : EV dp (decide (0 ≤ g)) ((aNL (s.take i)).all wsB) (s.drop i) = (if P then [(b, s.drop i)] else []) ++ EV d' nr b' (s.drop (i + 1))) (g' : Int), decide (0 ≤ g') = nr → b' = (aNL (s.take (i + 1))).all wsB → -((i + 1 : Nat) : Int) ≤ d' → d' ≤ ((i + 1 : Nat) : Int) →
    CI s (i + 1) d' g' (if P ∧ b = false then a ++ [(i : Int)] else a) (if P ∧ b = true then f ++ [(i : Int)] else f) := by
   intro P _ d' nr b' b hE g' hg hb h1 h2
   refine hI.step (Nat.lt_succ_self _) (by omega) h1 h2 (if P then [(b, s.drop i)] else []) ?_ ?_ ?_ (by split <;> simp)
   ·rw [hE, hg, hb]
   ·by_cases hP : P
    ·rw [if_pos hP, posC_one (by omega)]
     by_cases hb : b = false
     ·rw [if_pos ⟨hP, hb⟩, if_pos hb]
     ·rw [if_neg (fun h => hb h.2), if_neg hb, List.append_nil]
    ·rw [if_neg hP, if_neg (fun h => hP h.1)]; simp [posC]
   ·by_cases hP : P
    ·rw [if_pos hP, posC_one (by omega)]
     by_cases hb : b = true
     ·rw [if_pos ⟨hP, hb⟩, if_pos hb]
     ·rw [if_neg (fun h => hb h.2), if_neg hb, List.append_nil]
    ·rw [if_neg hP, if_neg (fun h => hP h.1)]; simp [posC]
  have ej : (((i + 1 : Nat) : Int) - 1) = (i : Int) := by omega
  by_cases c59 : c = 59
  ·
   subst c59
   rw [show decide ((59 : UInt8) = 59) = true from rfl, cond_true]
   obtain ⟨z1, z2, z3, z4, z5⟩ := line_end (s.drop i)
   rw [List.length_drop] at z1 z5
   have x1 : slOK (i : Int) (s.length : Int) s.length = true := slOK_iff.2 (by omega)
   have t1 : (s.drop (i : Int).toNat).take ((s.length : Int).toNat - (i : Int).toNat) = s.drop i := by
    simp only [Int.toNat_natCast]; exact List.take_of_length_le (by rw [List.length_drop]; omega)
   have hix : indexByteF (s.drop i) 10 = some (Lib.indexByte (s.drop i) 10) := by unfold indexByteF; rw [if_pos (by decide)]; rfl
   rw [x1, cond_true, t1, hix]
   simp only [Option.bind_some]
   obtain ⟨e, he⟩ : ∃ e, e = ((s.drop i).takeWhile n10).length := ⟨_, rfl⟩
   rw [← he] at z1 z2 z3 z4 z5
   have he1 : 1 ≤ e := by rw [he, hd, List.takeWhile_cons_of_pos (by decide)]; simp
   have hee : ∀ {A : Type} (F : ((List UInt8) × Unit × Unit × Int × Int × Int × Unit) × ((List Int) × (List Int) × Unit) → Option A),
     Option.bind (cond (decide (Lib.indexByte (s.drop i) 10 < 0)) (some ((s, (), (), dp, (i : Int), IntKind.wrap .i64 ((s.length : Int) - (i : Int)), ()), (a, f, ()))) (some ((s, (), (), dp, (i : Int), Lib.indexByte (s.drop i) 10, ()), (a, f, ())))) F = F ((s, (), (), dp, (i : Int), (e : Int), ()), (a, f, ())) := by
    intro A F
    by_cases hn : Lib.indexByte (s.drop i) 10 < 0
    ·have := z1 hn
     rw [decide_eq_true hn, cond_true, w64 (by omega) (by omega), show (s.length : Int) - (i : Int) = (e : Int) by omega]; rfl
    ·have := z2 (by omega)
     rw [decide_eq_false hn, cond_false, ← this]; rfl
   rw [hee]
   dsimp only
   have x2 : slOK 0 (i : Int) s.length = true := slOK_iff.2 (by omega)
   have t2 : (s.drop (0 : Int).toNat).take ((i : Int).toNat - (0 : Int).toNat) = s.take i := by simp
   obtain ⟨j, hj1, hj2, hj3⟩ := lastIdx_val (s := s.take i) (by rw [List.length_take]; omega)
   rw [List.length_take] at hj2
   rw [x2, cond_true, t2, hj1]
   simp only [Option.bind_some]
   have w1 : IntKind.wrap .i64 ((j : Int) - 1 + 1) = (j : Int) := by rw [w64 (by omega) (by omega)]; omega
   have x3 : slOK (j : Int) (i : Int) s.length = true := slOK_iff.2 (by omega)
   have t3 : (s.drop (j : Int).toNat).take ((i : Int).toNat - (j : Int).toNat) = aNL (s.take i) := by
    simp only [Int.toNat_natCast]
    rw [← hj3, List.drop_take]
   have hlen3 : (aNL (s.take i)).length ≤ 1000000000 := by rw [← hj3, List.length_drop, List.length_take]; omega
   rw [w1, x3, cond_true, t3, trimBF_val hlen3]
   have hb2 : (aNL (s.take (i + e))).all wsB = false := by
    rw [take_add', z4, aNL_bare]
    have h0 : (s.drop i).takeWhile n10 = 59 :: (s.drop (i + 1)).takeWhile n10 := by rw [hd]; exact List.takeWhile_cons_of_pos (by decide)
    rw [h0, bareF, if_neg (by decide)]
    have : ((aNL (s.take i)).all wsB && (decide ((59 : UInt8) = 32) || decide ((59 : UInt8) = 9))) = false := by cases (aNL (s.take i)).all wsB <;> rfl
    rw [this]
    exact bareF_false _ fun x hx => by have := takeWhile_all hx; simpa [n10] using this
   have hdr : s.drop (i + e) = lineE (s.drop i) := by rw [← z3, List.drop_drop]
   have hEV : EV dp (decide (0 ≤ g)) ((aNL (s.take i)).all wsB) (s.drop i) = (if dp = 0 ∧ (aNL (s.take i)).all wsB = true then [(false, s.drop i)] else []) ++ EV dp (decide ((0 : Int) ≤ -1)) ((aNL (s.take (i + e))).all wsB) (s.drop (i + e)) := by
    rw [hb2, hdr, hd, EV_cons, if_pos rfl]; rfl
   have w2 : IntKind.wrap .i64 ((i : Int) + IntKind.wrap .i64 ((e : Int) - 1)) = ((i + e : Nat) : Int) - 1 := by rw [w64 (show -9223372036854775808 ≤ (e : Int) - 1 by omega) (by omega), w64 (by omega) (by omega)]; omega
   have hCI : ∀ (a' : List Int), a' = (if dp = 0 ∧ (aNL (s.take i)).all wsB = true then a ++ [(i : Int)] else a) → CI s (i + e) dp (-1) a' f := by
    intro a' ha'
    refine hI.step (by omega) (by omega) (by omega) (by omega) _ hEV ?_ ?_ (by split <;> simp)
    ·rw [ha']
     by_cases hP : dp = 0 ∧ (aNL (s.take i)).all wsB = true
     ·rw [if_pos hP, if_pos hP, posC_one (by omega)]; rfl
     ·rw [if_neg hP, if_neg hP]; simp [posC]
    ·by_cases hP : dp = 0 ∧ (aNL (s.take i)).all wsB = true
     ·rw [if_pos hP, posC_one (by omega)]; simp
     ·rw [if_neg hP]; simp [posC]
   refine fin (i + e) dp (-1) (if dp = 0 ∧ (aNL (s.take i)).all wsB = true then a ++ [(i : Int)] else a) f _ ?_ (by omega) (hCI _ rfl)
   by_cases hdp : dp = 0
   ·rw [decide_eq_true hdp]
    simp only [cond_true, Option.bind_some]
    have ht := trimB_nil (aNL (s.take i))
    by_cases hb : (aNL (s.take i)).all wsB = true
    ·rw [decide_eq_true (ht.2 hb), if_pos ⟨hdp, hb⟩]
     simp only [cond_true, List.length_cons, List.length_nil]
     rw [decide_eq_true (by omega)]
     simp only [cond_true, Option.bind_some, w2]
    ·rw [decide_eq_false (fun h => hb (ht.1 h)), if_neg (fun h => hb h.2)]
     simp only [cond_false, Option.bind_some, w2]
   ·rw [decide_eq_false hdp, if_neg (fun h => hdp h.1)]
    simp only [cond_false, Option.bind_some, w2]
  ·rw [decide_eq_false c59, cond_false]
   by_cases c34 : c = 34
   ·
    subst c34
    rw [show decide ((34 : UInt8) = 34) = true from rfl, cond_true]
    have hEV0 : EV dp (decide (0 ≤ g)) ((aNL (s.take i)).all wsB) (s.drop i) = (if dp = 0 ∧ decide (0 ≤ g) = false then [(true, s.drop i)] else []) ++ EV dp false (bareF ((aNL (s.take i)).all wsB) ((s.drop i).take ((s.drop i).length - (qEnd (s.drop (i + 1))).length))) (qEnd (s.drop (i + 1))) := by
     rw [hd, EV_cons, if_neg (by decide), if_pos rfl]
    have hev : ∀ {A : Type} (F : ((List UInt8) × Unit × Unit × Int × Int × Unit) × ((List Int) × (List Int) × Unit) → Option A),
      Option.bind (cond (cond (decide (dp = 0)) (decide (g < 0)) false) (cond (decide ((f.length + ([(i : Int)]).length) * 8 ≤ 140737488355328)) (some ((s, (), (), dp, (i : Int), ()), (a, f ++ ([(i : Int)]), ()))) none) (some ((s, (), (), dp, (i : Int), ()), (a, f, ())))) F =
      F ((s, (), (), dp, (i : Int), ()), (a, (if dp = 0 ∧ decide (0 ≤ g) = false then f ++ [(i : Int)] else f), ())) := by
     intro A F
     simp only [List.length_cons, List.length_nil]
     rw [decide_eq_true (show (f.length + (0 + 1)) * 8 ≤ 140737488355328 by omega)]
     by_cases hdp : dp = 0
     ·by_cases hg : g < 0
      ·rw [decide_eq_true hdp, decide_eq_true hg, if_pos ⟨hdp, decide_eq_false (by omega)⟩]; rfl
      ·rw [decide_eq_true hdp, decide_eq_false hg, if_neg (by rintro ⟨_, h⟩; have := of_decide_eq_false h; omega)]; rfl
     ·rw [decide_eq_false hdp, if_neg (fun h => hdp h.1)]; rfl
    rw [hev]
    dsimp only
    rw [wrapN (show i < 4611686018427387904 by omega)]
    obtain ⟨f', hf'⟩ : ∃ f', f' = (if dp = 0 ∧ decide (0 ≤ g) = false then f ++ [(i : Int)] else f) := ⟨_, rfl⟩
    rw [← hf']
    have inner : ∃ v, Option.bind (loopM (L := ((List UInt8) × Unit × Unit × Int × Int × Unit) × ((List Int) × (List Int) × Unit)) (R := ((List UInt8) × Unit × Unit × Int × Int × Unit) × ((List Int) × (List Int) × Unit)) (fun d31 => (
 let l32 := d31.2.1
 let l33 := d31.2.2.1
 let v0_34 := d31.1.1
 let v4_35 := d31.1.2.2.2.1
 let v6_36 := d31.1.2.2.2.2.1
 cond ((ixOK v6_36 v0_34.length) || !(decide (v6_36 < (v0_34.length : Int)))) (cond (cond (decide (v6_36 < (v0_34.length : Int))) (!decide (byteAt v0_34 v6_36 = 34)) false) (Option.bind (α := ((List UInt8) × Unit × Unit × Int × Int × Unit) × ((List Int) × (List Int) × Unit))
 (cond (ixOK v6_36 v0_34.length) (cond (decide (byteAt v0_34 v6_36 = 92)) (some ((v0_34, (), (), v4_35, IntKind.wrap .i64 (v6_36 + 1), ()), (l32, l33, ()))) (some ((v0_34, (), (), v4_35, v6_36, ()), (l32, l33, ())))) none) fun d37 => (
 let l38 := d37.2.1
 let l39 := d37.2.2.1
 let v0_40 := d37.1.1
 let v4_41 := d37.1.2.2.2.1
 let v6_42 := d37.1.2.2.2.2.1
 some (Step.next ((v0_40, (), (), v4_41, IntKind.wrap .i64 (v6_42 + 1), ()), (l38, l39, ()))))) (some (Step.done ((v0_34, (), (), v4_35, v6_36, ()), (l32, l33, ()))))) none)) ((s, (), (), dp, ((i + 1 : Nat) : Int), ()), (a, f', ()))) (fun d43 : ((List UInt8) × Unit × Unit × Int × Int × Unit) × ((List Int) × (List Int) × Unit) => (
 let l44 := d43.2.1
 let l45 := d43.2.2.1
 let v0_46 := d43.1.1
 let v4_47 := d43.1.2.2.2.1
 let v6_48 := d43.1.2.2.2.2.1
 some (((v0_46, (), (), v4_47, (-1), v6_48, ()), (l44, l45, ())) : ((List UInt8) × Unit × Unit × Int × Int × Int × Unit) × ((List Int) × (List Int) × Unit)))) = some v ∧ ∃ j : Nat, v = ((s, (), (), dp, (-1), (j : Int), ()), (a, f', ())) ∧ i + 1 ≤ j ∧ j ≤ s.length + 1 ∧ s.drop (j + 1) = qEnd (s.drop (i + 1)) := by
     refine yloop (fun d => ∃ j : Nat, d = ((s, (), (), dp, (j : Int), ()), (a, f', ())) ∧ i + 1 ≤ j ∧ j ≤ s.length + 1 ∧ qEnd (s.drop j) = qEnd (s.drop (i + 1))) (fun d => s.length + 2 - d.1.2.2.2.2.1.toNat) _ ?_ ⟨i + 1, rfl, Nat.le_refl _, by omega, rfl⟩
     rintro d ⟨j, rfl, j1, j2, j3⟩
     dsimp only
     by_cases hj : j < s.length
     ·have y1 : decide ((j : Int) < (s.length : Int)) = true := by simp [hj]
      have y2 : ixOK (j : Int) s.length = true := ixOK_iff.2 (by omega)
      have hdj := ydrop hj
      have q34 : decide (((s[j].toNat : Nat) : Int) = 34) = decide (s[j] = 34) := ybyteD s[j] 34 (by decide)
      have q92 : decide (((s[j].toNat : Nat) : Int) = 92) = decide (s[j] = 92) := ybyteD s[j] 92 (by decide)
      rw [y1, y2, ybyte hj, q34, q92]
      simp only [Bool.true_or, cond_true]
      by_cases h34 : s[j] = 34
      ·right
       rw [decide_eq_true h34]
       refine ⟨_, rfl, _, rfl, j, rfl, j1, j2, ?_⟩
       rw [← j3, hdj, h34, qEnd_close]
      ·left
       rw [decide_eq_false h34]
       simp only [Bool.not_false, cond_true]
       by_cases h92 : s[j] = 92
       ·rw [decide_eq_true h92]
        simp only [cond_true, Option.bind_some]
        rw [wrapN (show j < 4611686018427387904 by omega), wrapN (show j + 1 < 4611686018427387904 by omega)]
        refine ⟨_, rfl, ⟨j + 1 + 1, rfl, by omega, by omega, ?_⟩, by simp only [Int.toNat_natCast]; omega⟩
        rw [← j3, hdj, h92]
        by_cases hj' : j + 1 < s.length
        ·rw [ydrop hj', qEnd, if_pos rfl]
        ·rw [List.drop_of_length_le (show s.length ≤ j + 1 by omega), List.drop_of_length_le (show s.length ≤ j + 1 + 1 by omega)]; rfl
       ·rw [decide_eq_false h92]
        simp only [cond_false, Option.bind_some]
        rw [wrapN (show j < 4611686018427387904 by omega)]
        refine ⟨_, rfl, ⟨j + 1, rfl, by omega, by omega, ?_⟩, by simp only [Int.toNat_natCast]; omega⟩
        rw [← j3, hdj, qEnd_plain h92 h34]
     ·have y1 : decide ((j : Int) < (s.length : Int)) = false := by apply decide_eq_false; omega
      rw [y1]
      simp only [Bool.not_false, Bool.or_true, cond_true, cond_false]
      right
      refine ⟨_, rfl, _, rfl, j, rfl, j1, j2, ?_⟩
      rw [List.drop_of_length_le (show s.length ≤ j by omega)] at j3
      rw [List.drop_of_length_le (show s.length ≤ j + 1 by omega), ← j3]; rfl
    obtain ⟨v, hv, j, rfl, j1, j2, j3⟩ := inner
    refine fin (j + 1) dp (-1) a f' _ ?_ (by omega) ?_
    ·rw [hv, show ((j + 1 : Nat) : Int) - 1 = (j : Int) by omega]
    ·refine hI.step (by omega) (by omega) (by omega) (by omega) (if dp = 0 ∧ decide (0 ≤ g) = false then [(true, s.drop i)] else []) ?_ ?_ ?_ (by split <;> simp)
     ·rw [hEV0, ← j3]
      congr 1
      by_cases hjl : j + 1 ≤ s.length
      ·have e5 : (s.drop i).length - (s.drop (j + 1)).length = j + 1 - i := by rw [List.length_drop, List.length_drop]; omega
       have e6 : (aNL (s.take (j + 1))).all wsB = bareF ((aNL (s.take i)).all wsB) ((s.drop i).take (j + 1 - i)) := by
        rw [← aNL_bare, ← take_add', show i + (j + 1 - i) = j + 1 by omega]
       rw [e5, e6]; rfl
      ·rw [List.drop_of_length_le (show s.length ≤ j + 1 by omega), EV_nil, EV_nil]
     ·by_cases hP : dp = 0 ∧ decide (0 ≤ g) = false
      ·rw [if_pos hP, posC_one (by omega)]; simp
      ·rw [if_neg hP]; simp [posC]
     ·rw [hf']
      by_cases hP : dp = 0 ∧ decide (0 ≤ g) = false
      ·rw [if_pos hP, if_pos hP, posC_one (by omega)]; rfl
      ·rw [if_neg hP, if_neg hP]; simp [posC]
   ·rw [decide_eq_false c34, cond_false]
    by_cases c40 : c = 40
    ·subst c40
     rw [show decide ((40 : UInt8) = 40) = true from rfl, cond_true]
     have hC := evOne (P := dp = 0) true (d' := dp + 1) (nr := false) (b' := false) (by rw [hd, EV_cons, if_neg (by decide), if_neg (by decide), if_pos rfl]) (-1) rfl (by rw [hstep, if_neg (by decide)]; cases (aNL (s.take i)).all wsB <;> rfl) (by omega) (by omega)
     rw [if_neg (by simp)] at hC
     refine fin (i + 1) (dp + 1) (-1) a _ _ ?_ (Nat.lt_succ_self _) hC
     rw [ej]
     simp only [List.length_cons, List.length_nil]
     rw [decide_eq_true (show (f.length + (0 + 1)) * 8 ≤ 140737488355328 by omega)]
     by_cases hdp : dp = 0
     ·rw [decide_eq_true hdp, if_pos (by simp [hdp])]
      simp only [cond_true, Option.bind_some]
      rw [w64 (by omega) (by omega)]
     ·rw [decide_eq_false hdp, if_neg (fun h => hdp h.1)]
      simp only [cond_false, Option.bind_some]
      rw [w64 (by omega) (by omega)]
    ·rw [decide_eq_false c40, cond_false]
     by_cases c41 : c = 41
     ·subst c41
      rw [show decide ((41 : UInt8) = 41) = true from rfl, cond_true]
      have hC := evNone (d' := dp - 1) (nr := false) (b' := false) (by rw [hd, EV_cons, if_neg (by decide), if_neg (by decide), if_neg (by decide), if_pos rfl]) (-1) rfl (by rw [hstep, if_neg (by decide)]; cases (aNL (s.take i)).all wsB <;> rfl) (by omega) (by omega)
      refine fin (i + 1) (dp - 1) (-1) a f _ ?_ (Nat.lt_succ_self _) hC
      rw [ej, w64 (by omega) (by omega)]
     ·rw [decide_eq_false c41, cond_false]
      by_cases cb : blankB c = true
      ·rw [cb, cond_true]
       have hC := evNone (d' := dp) (nr := false) (b' := if c = 10 then true else (aNL (s.take i)).all wsB) (by rw [hd, EV_cons, if_neg c59, if_neg c34, if_neg c40, if_neg c41, if_pos cb]) (-1) rfl (by
        rw [hstep]
        by_cases h10 : c = 10
        ·rw [if_pos h10, if_pos h10]
        ·rw [if_neg h10, if_neg h10]
         have hw : wsB c = true := by
          have h3 : c = 32 ∨ c = 9 ∨ c = 10 := by simpa [blankB] using cb
          rcases h3 with rfl | rfl | h
          ·decide
          ·decide
          ·exact absurd h h10
         rw [hw, Bool.and_true]) (by omega) (by omega)
       refine fin (i + 1) dp (-1) a f _ ?_ (Nat.lt_succ_self _) hC
       rw [ej]
      ·rw [eq_false_of_ne_true cb, cond_false]
       have hw : wsB c = false := wsB_not (by intro e; subst e; exact cb (by decide)) (by intro e; subst e; exact cb (by decide))
       have h10 : c ≠ 10 := by intro e; subst e; exact cb (by decide)
       have hbb : false = (aNL (s.take (i + 1))).all wsB := by rw [hstep, if_neg h10, hw, Bool.and_false]
       by_cases hg : 0 ≤ g
       ·rw [decide_eq_false (show ¬ g < 0 by omega), cond_false]
        have hC := evNone (d' := dp) (nr := true) (b' := false) (by rw [hd, EV_cons, if_neg c59, if_neg c34, if_neg c40, if_neg c41, if_neg cb, if_pos (decide_eq_true hg)]) g (decide_eq_true hg) hbb (by omega) (by omega)
        refine fin (i + 1) dp g a f _ ?_ (Nat.lt_succ_self _) hC
        rw [ej]
       ·rw [decide_eq_true (show g < 0 by omega), cond_true]
        have hC := evOne (P := dp = 0) true (d' := dp) (nr := true) (b' := false) (by rw [hd, EV_cons, if_neg c59, if_neg c34, if_neg c40, if_neg c41, if_neg cb, if_neg (by rw [decide_eq_false hg]; decide)]) (i : Int) (decide_eq_true (by omega)) hbb (by omega) (by omega)
        rw [if_neg (by simp)] at hC
        refine fin (i + 1) dp (i : Int) a _ _ ?_ (Nat.lt_succ_self _) hC
        rw [ej]
        simp only [List.length_cons, List.length_nil]
        rw [decide_eq_true (show (f.length + (0 + 1)) * 8 ≤ 140737488355328 by omega)]
        by_cases hdp : dp = 0
        ·rw [decide_eq_true hdp, if_pos (by simp [hdp])]; rfl
        ·rw [decide_eq_false hdp, if_neg (fun h => hdp h.1)]; rfl
 ·right
  have e1 : decide ((i : Int) < (s.length : Int)) = false := by apply decide_eq_false; omega
  rw [e1, cond_false]
  left
  refine ⟨_, rfl, .of ?_⟩
  have ha := hI.ea
  have hf := hI.ef
  rw [List.drop_of_length_le (show s.length ≤ i by omega), EV_nil] at ha hf
  have e0 : ∀ b, posC s.length b [] = [] := fun b => rfl
  rw [e0, List.append_nil] at ha hf
  dsimp only
  rw [ha, hf]
end Go.Ab

set_option maxRecDepth 100000
set_option maxHeartbeats 1000000
namespace Go.Ab
open Go Go.RowKit Go.Proofs
theorem ev_com : ∀ (n : Nat) (d : Int) (near bare : Bool) (r : List UInt8), ∀ e ∈ evS n d near bare r, e.1 = false → ∃ q, e.2 = 59 :: q
 | 0, d, near, bare, r => by intro e he; simp [evS] at he
 | n + 1, d, near, bare, [] => by intro e he; simp [evS] at he
 | n + 1, d, near, bare, c :: r => by
  intro e he hf
  have tr : ∀ (P : Prop) [Decidable P], e ∈ (if P then [(true, c :: r)] else []) → ∃ q, e.2 = 59 :: q := fun P _ hx => by
   by_cases hP : P
   ·rw [if_pos hP, List.mem_singleton] at hx; subst hx; cases hf
   ·rw [if_neg hP] at hx; cases hx
  simp only [evS] at he
  by_cases c1 : c = 59
  ·rw [if_pos c1] at he
   rcases List.mem_append.1 he with he | he
   ·by_cases hP : d = 0 ∧ bare = true
    ·rw [if_pos hP, List.mem_singleton] at he; subst he; subst c1; exact ⟨r, rfl⟩
    ·rw [if_neg hP] at he; cases he
   ·exact ev_com n _ _ _ _ e he hf
  ·rw [if_neg c1] at he
   by_cases c2 : c = 34
   ·rw [if_pos c2] at he
    rcases List.mem_append.1 he with he | he
    ·exact tr _ he
    ·exact ev_com n _ _ _ _ e he hf
   ·rw [if_neg c2] at he
    by_cases c3 : c = 40
    ·rw [if_pos c3] at he
     rcases List.mem_append.1 he with he | he
     ·exact tr _ he
     ·exact ev_com n _ _ _ _ e he hf
    ·rw [if_neg c3] at he
     by_cases c4 : c = 41
     ·rw [if_pos c4] at he; exact ev_com n _ _ _ _ e he hf
     ·rw [if_neg c4] at he
      by_cases c5 : blankB c = true
      ·rw [if_pos c5] at he; exact ev_com n _ _ _ _ e he hf
      ·rw [if_neg c5] at he
       by_cases c6 : near = true
       ·rw [if_pos c6] at he; exact ev_com n _ _ _ _ e he hf
       ·rw [if_neg c6] at he
        rcases List.mem_append.1 he with he | he
        ·exact tr _ he
        ·exact ev_com n _ _ _ _ e he hf
theorem asc_len {E : List (Bool × List UInt8)} (h : E.Pairwise fun a b => b.2.length < a.2.length) : ∀ m : Nat, (∀ e ∈ E, e.2.length ≤ m) → E.length ≤ m + 1 := by
 induction E with
 | nil => intro m _; simp
 | cons e E ih =>
  intro m hm
  rw [List.pairwise_cons] at h
  have he := hm e (by simp)
  by_cases h0 : e.2.length = 0
  ·cases E with
   | nil => simp
   | cons x E => have := h.1 x (by simp); omega
  ·have := ih h.2 (e.2.length - 1) fun x hx => by have := h.1 x hx; omega
   simp only [List.length_cons]; omega
theorem suf_drop {q s : List UInt8} (h : q <:+ s) : s.drop (s.length - q.length) = q ∧ q.length ≤ s.length := by
 obtain ⟨p, rfl⟩ := h
 have : (p ++ q).length - q.length = p.length := by rw [List.length_append]; omega
 rw [this]
 exact ⟨List.drop_left, by rw [List.length_append]; omega⟩
theorem lcomment_val {s q : List UInt8} {r : List UInt8} (hq : q <:+ s) (h59 : q = 59 :: r) (hs : s.length ≤ 1000000) : G_lcomment s ((s.length : Int) - (q.length : Int)) = some (comS q) := by
 obtain ⟨h1, h2⟩ := suf_drop hq
 have e0 : (s.length : Int) - (q.length : Int) = ((s.length - q.length : Nat) : Int) := by omega
 rw [e0]
 unfold G_lcomment G_sCut G_slCut G_slIndex
 have x1 : slOK ((s.length - q.length : Nat) : Int) (s.length : Int) s.length = true := slOK_iff.2 (by omega)
 have t1 : (s.drop ((s.length - q.length : Nat) : Int).toNat).take ((s.length : Int).toNat - ((s.length - q.length : Nat) : Int).toNat) = q := by
  simp only [Int.toNat_natCast]
  rw [h1]; exact List.take_of_length_le (by omega)
 rw [x1, cond_true, t1]
 have y1 : decide ((([10] : List UInt8).length : Int) = 0) = false := by decide
 have y2 : decide (([10] : List UInt8) = q) = false := by apply decide_eq_false; rw [h59]; intro h; have := congrArg List.head? h; simp at this
 have y3 : decide ((([10] : List UInt8).length : Int) = 1) = true := by decide
 have y4 : ixOK 0 ([10] : List UInt8).length = true := by decide
 have y5 : byteAt ([10] : List UInt8) 0 = 10 := by decide
 have hix : indexByteF q 10 = some (Lib.indexByte q 10) := by unfold indexByteF; rw [if_pos (by decide)]; rfl
 rw [y1, y2, y3, y4, y5, hix]
 simp only [cond_true, cond_false, Option.bind_some]
 obtain ⟨z1, z2, z3, z4, z5⟩ := line_end q
 have hcut : ∀ {A : Type} (F : (List UInt8) × (List UInt8) × Bool × Unit → Option A), (∀ X b, F (q.takeWhile n10, X, b, ()) = F (q.takeWhile n10, [], false, ())) → Option.bind (Option.bind (cond (decide (Lib.indexByte q 10 ≥ 0)) (cond (slOK 0 (Lib.indexByte q 10) q.length) (cond (slOK (IntKind.wrap .i64 (Lib.indexByte q 10 + (([10] : List UInt8).length : Int))) (q.length : Int) q.length) (some ((q.drop (0 : Int).toNat).take ((Lib.indexByte q 10).toNat - (0 : Int).toNat), (q.drop (IntKind.wrap .i64 (Lib.indexByte q 10 + (([10] : List UInt8).length : Int))).toNat).take ((q.length : Int).toNat - (IntKind.wrap .i64 (Lib.indexByte q 10 + (([10] : List UInt8).length : Int))).toNat), true, ())) none) none) (some (q, ([] : List UInt8), false, ()))) fun r1 => some (r1.1, r1.2.1, r1.2.2.1, ())) F = F (q.takeWhile n10, [], false, ()) := by
  intro A F hF
  by_cases hn : Lib.indexByte q 10 < 0
  ·rw [decide_eq_false (show ¬ Lib.indexByte q 10 ≥ 0 by omega), cond_false]
   have : q.takeWhile n10 = q := by rw [← z4, z1 hn, List.take_length]
   simp only [Option.bind_some, this]
  ·have hp := z2 (by omega)
   obtain ⟨_, hlt⟩ := (line_drop q).2 (by omega)
   have x2 : slOK 0 (Lib.indexByte q 10) q.length = true := slOK_iff.2 (by omega)
   have w1 : IntKind.wrap .i64 (Lib.indexByte q 10 + (([10] : List UInt8).length : Int)) = Lib.indexByte q 10 + 1 := by
    show IntKind.wrap .i64 (Lib.indexByte q 10 + 1) = _
    rw [w64 (by omega) (by omega)]
   have x3 : slOK (Lib.indexByte q 10 + 1) (q.length : Int) q.length = true := slOK_iff.2 (by omega)
   rw [decide_eq_true (show Lib.indexByte q 10 ≥ 0 by omega), w1, x2, x3]
   simp only [cond_true, Option.bind_some]
   have t2 : (q.drop (0 : Int).toNat).take ((Lib.indexByte q 10).toNat - (0 : Int).toNat) = q.takeWhile n10 := by
    rw [← z4]; simp only [Int.toNat_zero, List.drop_zero, Nat.sub_zero]; congr 1; omega
   rw [t2]
   exact hF _ _
 rw [hcut _ fun X b => rfl]
 dsimp only
 unfold trimRBF
 rw [if_pos ⟨rfl, by omega⟩]
 rfl
theorem next_bind {A L R : Type} {X : Option A} {G : A → Option (Step L R)} {P : A → Prop} {Q : L → Prop} (h : ∃ v, X = some v ∧ P v) (k : ∀ v, P v → ∃ l', G v = some (.next l') ∧ Q l') : ∃ l', Option.bind X G = some (.next l') ∧ Q l' := by
 obtain ⟨v, hv, hp⟩ := h
 rw [hv]; exact k v hp
theorem piece_len : ∀ (E : List (Bool × List UInt8)) (fs : List Fm), (pieceS E fs).length ≤ E.length
 | [], fs => by simp [pieceS]
 | (false, r) :: E, fs => by have := piece_len E fs; simp only [pieceS, List.length_cons]; omega
 | (true, r) :: E, [] => by simp [pieceS]
 | (true, r) :: E, f :: fs => by have := piece_len E fs; simp only [pieceS, List.length_cons]; omega
theorem posC_cons (n : Nat) (b c : Bool) (q : List UInt8) (E : List (Bool × List UInt8)) : posC n b ((c, q) :: E) = (if c = b then [(n : Int) - (q.length : Int)] else []) ++ posC n b E := by
 unfold posC
 cases c <;> cases b <;> simp
theorem posC_head {n : Nat} {b : Bool} : ∀ {E : List (Bool × List UInt8)} {x : Int} {R : List Int}, posC n b E = x :: R → ∃ e ∈ E, x = (n : Int) - (e.2.length : Int)
 | [], x, R, h => by cases h
 | (c, q) :: E, x, R, h => by
  rw [posC_cons] at h
  by_cases hc : c = b
  ·rw [if_pos hc] at h
   cases h
   exact ⟨(c, q), by simp, rfl⟩
  ·rw [if_neg hc, List.nil_append] at h
   obtain ⟨e, he, hx⟩ := posC_head h
   exact ⟨e, by simp [he], hx⟩
theorem posC_forms (n : Nat) : ∀ E : List (Bool × List UInt8), (posC n true E).length = formsE E
 | [] => rfl
 | (c, q) :: E => by
  rw [posC_cons, List.length_append, posC_forms n E]
  cases c <;> simp [formsE]
  omega
theorem read_inv {s : List UInt8} {l : List Fm} (h : readS s = (l, 0, ())) : s.length ≤ 60000 ∧ PF s [] [] = .inr l ∧ ∀ f ∈ l, validF f = true := by
 unfold readS at h
 split at h
 ·cases h
 ·rename_i hl
  split at h
  ·rename_i e he
   have := parse_ne _ s [] [] (Nat.lt_succ_self _)
   cases h
   rw [he] at this
   exact absurd rfl this
  ·rename_i l' hl'
   split at h
   ·rename_i hv
    cases h
    exact ⟨by omega, hl', List.all_eq_true.1 hv⟩
   ·cases h
theorem lpieces_val {s : List UInt8} {l : List Fm} (h : readS s = (l, 0, ())) : G_lpieces s = some (IT true s l, 0, ()) := by
 obtain ⟨hs, hp, hv⟩ := read_inv h
 obtain ⟨fs, h1, h2, h3⟩ := items_same s.length s (Nat.le_refl _) [] l true hp
 rw [List.nil_append] at h1
 subst h1
 have hasc := ev_asc (s.length + 1) 0 false true s (Nat.lt_succ_self _)
 have hsuf := ev_suf (s.length + 1) 0 false true s (Nat.lt_succ_self _)
 have hcom := ev_com (s.length + 1) 0 false true s
 have hE : evS (s.length + 1) 0 false true s = EV 0 false true s := rfl
 rw [hE] at hasc hsuf hcom
 have hlenE : (EV 0 false true s).length ≤ s.length + 1 := asc_len hasc s.length fun e he => (hsuf e he).length_le
 have hpl := piece_len (EV 0 false true s) l
 have hlfs : l.length ≤ (EV 0 false true s).length := by rw [← h3]; exact List.length_filter_le _ _
 refine Up.get ?_
 unfold G_lpieces
 rw [readA_val, h]
 simp only [Option.bind_some]
 rw [lcomments_val (by omega)]
 simp only [decide_true, Bool.not_true, cond_false, Option.bind_some]
 rw [← h2]
 generalize EV 0 false true s = E at hasc hsuf hcom h3 hlenE hpl hlfs
 refine up_inv (N := False) (fun d => ∃ (i : Nat) (E2 : List (Bool × List UInt8)) (F1 : List Int) (out : List (List UInt8 × Fm)), d = ((s, posC s.length false E2, posC s.length true E, (), l, (l.length : Int), (i : Int), ()), (out, ())) ∧ i ≤ l.length ∧ out ++ pieceS E2 (l.drop i) = pieceS E l ∧ formsE E2 = l.length - i ∧ posC s.length true E = F1 ++ posC s.length true E2 ∧ F1.length = i ∧ E2 <:+ E) (fun d => l.length - d.1.2.2.2.2.2.2.1.toNat) ?_
  ⟨0, E, [], [], rfl, Nat.zero_le _, by simp, by omega, rfl, rfl, List.suffix_refl _⟩
 rintro d ⟨i, E2, F1, out, rfl, hi, ho, hf, hF, hF1, hsE⟩
 dsimp only
 by_cases hi' : i < l.length
 ·left
  have e1 : decide ((i : Int) < (l.length : Int)) = true := by simp [hi']
  have e2 : ixOK (i : Int) l.length = true := ixOK_iff.2 (by omega)
  rw [e1, e2]
  simp only [cond_true, Int.toNat_natCast, getD_in hi']
  have hdl : l.drop i = l[i] :: l.drop (i + 1) := List.drop_eq_getElem_cons hi'
  refine next_bind (P := fun v => ∃ (E3 : List (Bool × List UInt8)) (F1' : List Int) (out' : List (List UInt8 × Fm)), v = ((s, posC s.length false E3, posC s.length true E, (), l, (l.length : Int), (i : Int), ()), (out', ())) ∧ out' ++ pieceS E3 (l.drop (i + 1)) = pieceS E l ∧ formsE E3 = l.length - (i + 1) ∧ posC s.length true E = F1' ++ posC s.length true E3 ∧ F1'.length = i + 1 ∧ E3 <:+ E) ?_ ?_
  ·refine yloop (fun d => ∃ (E2 : List (Bool × List UInt8)) (out : List (List UInt8 × Fm)), d = ((s, posC s.length false E2, posC s.length true E, (), (i : Int), (), l, (l.length : Int), (i : Int), ()), (out, (l[i].k, l[i].n, l[i].t, l[i].l, ()), ())) ∧ out ++ pieceS E2 (l.drop i) = pieceS E l ∧ formsE E2 = l.length - i ∧ posC s.length true E = F1 ++ posC s.length true E2 ∧ E2 <:+ E) (fun d => d.1.2.1.length) _ ?_ ⟨E2, out, rfl, ho, hf, hF, hsE⟩
   rintro d ⟨E2, out, rfl, ho, hf, hF, hsE⟩
   dsimp only
   have holen := congrArg List.length ho
   rw [List.length_append] at holen
   have hfi : ((posC s.length true E).getD i 0) = (posC s.length true E2).getD 0 0 := by
    rw [hF, List.getD_eq_getElem?_getD, List.getElem?_append_right (by omega), hF1, Nat.sub_self, ← List.getD_eq_getElem?_getD]
   have hfl : i < (posC s.length true E).length := by rw [hF, List.length_append, posC_forms, hf]; omega
   have x2 : ixOK (i : Int) (posC s.length true E).length = true := ixOK_iff.2 (by omega)
   cases E2 with
   | nil => simp [formsE] at hf; omega
   | cons e E3 =>
    obtain ⟨b, q⟩ := e
    have hmem : (b, q) ∈ E := hsE.mem (by simp)
    have hascE : ((b, q) :: E3).Pairwise fun a b => b.2.length < a.2.length := hasc.sublist hsE.sublist
    rw [List.pairwise_cons] at hascE
    have hE3 : E3 <:+ E := (List.suffix_cons _ _).trans hsE
    simp only [Int.toNat_natCast, Int.toNat_zero, hfi, x2, Bool.true_or, cond_true]
    cases b with
    | false =>
     left
     have ea : posC s.length false ((false, q) :: E3) = ((s.length : Int) - (q.length : Int)) :: posC s.length false E3 := by rw [posC_cons]; rfl
     have ef : posC s.length true ((false, q) :: E3) = posC s.length true E3 := by rw [posC_cons]; rfl
     have hfe : formsE ((false, q) :: E3) = formsE E3 := rfl
     rw [ea, ef]
     have y1 : decide (((((s.length : Int) - (q.length : Int)) :: posC s.length false E3).length : Int) > 0) = true := by apply decide_eq_true; simp only [List.length_cons]; omega
     have y0 : ixOK 0 (((s.length : Int) - (q.length : Int)) :: posC s.length false E3).length = true := ixOK_iff.2 (by simp only [List.length_cons]; omega)
     have hlt : ((s.length : Int) - (q.length : Int)) < (posC s.length true E3).getD 0 0 := by
      cases hx : posC s.length true E3 with
      | nil => have := posC_forms s.length E3; rw [hx] at this; rw [hfe] at hf; simp at this; omega
      | cons x R =>
       obtain ⟨e', he', rfl⟩ := posC_head hx
       have : e'.2.length < q.length := hascE.1 e' he'
       show _ < (s.length : Int) - (e'.2.length : Int)
       omega
     obtain ⟨r', hr'⟩ := hcom (false, q) hmem rfl
     rw [y1, y0]
     simp only [Bool.true_or, cond_true, List.getD_cons_zero]
     rw [decide_eq_true hlt, lcomment_val (hsuf (false, q) hmem) hr' (by omega)]
     simp only [cond_true, Option.bind_some, List.length_cons, List.length_nil]
     rw [decide_eq_true (by omega)]
     have x3 : slOK 1 (((posC s.length false E3).length + 1 : Nat) : Int) ((posC s.length false E3).length + 1) = true := slOK_iff.2 (by omega)
     have t3 : (List.drop (1 : Int).toNat (((s.length : Int) - (q.length : Int)) :: posC s.length false E3)).take ((posC s.length false E3).length + 1 - (1 : Int).toNat) = posC s.length false E3 := by
      show (posC s.length false E3).take _ = _
      exact List.take_of_length_le (by simp)
     rw [x3, cond_true, cond_true, t3]
     refine ⟨_, rfl, ⟨E3, out ++ [(comS q, zF)], rfl, ?_, by rw [← hfe]; exact hf, by rw [hF, ef], hE3⟩, by simp⟩
     rw [← ho, pieceS]; simp
    | true =>
     right
     have ea : posC s.length false ((true, q) :: E3) = posC s.length false E3 := by rw [posC_cons]; rfl
     have ef : posC s.length true ((true, q) :: E3) = ((s.length : Int) - (q.length : Int)) :: posC s.length true E3 := by rw [posC_cons]; rfl
     have hfe : formsE ((true, q) :: E3) = formsE E3 + 1 := by simp [formsE]
     rw [ea, ef]
     simp only [List.getD_cons_zero]
     have hno : cond (decide (((posC s.length false E3).length : Int) > 0)) (decide ((posC s.length false E3).getD 0 0 < (s.length : Int) - (q.length : Int))) false = false := by
      cases hx : posC s.length false E3 with
      | nil => rfl
      | cons x R =>
       obtain ⟨e', he', rfl⟩ := posC_head hx
       have := hascE.1 e' he'
       rw [decide_eq_true (by simp only [List.length_cons]; omega), cond_true]
       apply decide_eq_false
       show ¬ ((s.length : Int) - (e'.2.length : Int) < _)
       have : e'.2.length < q.length := this
       omega
     have y0 : (ixOK 0 (posC s.length false E3).length || !decide (((posC s.length false E3).length : Int) > 0)) = true := by
      by_cases h0 : (posC s.length false E3).length = 0
      ·rw [h0]; rfl
      ·rw [ixOK_iff.2 (by omega)]; rfl
     rw [y0, hno]
     simp only [cond_true, cond_false]
     have hd2 : out ++ [(([] : List UInt8), l[i])] ++ pieceS E3 (l.drop (i + 1)) = pieceS E l := by rw [← ho, hdl, pieceS]; simp
     refine ⟨_, rfl, _, ?_, E3, F1 ++ [(s.length : Int) - (q.length : Int)], out ++ [([], l[i])], rfl, hd2, by omega, by rw [hF, ef]; simp, by simp [hF1], hE3⟩
     simp only [List.length_cons, List.length_nil]
     rw [decide_eq_true (by omega)]
     simp only [cond_true]
     rw [show Fm.mk l[i].k l[i].n l[i].t l[i].l = l[i] from Fm.eta_eq _]
  ·rintro v ⟨E3, F1', out', rfl, q1, q2, q3, q4, q5⟩
   dsimp only
   rw [wrapN (show i < 4611686018427387904 by omega)]
   exact ⟨_, rfl, ⟨i + 1, E3, F1', out', rfl, by omega, q1, q2, q3, q4, q5⟩, by simp only [Int.toNat_natCast]; omega⟩
 ·right; left
  have hie : i = l.length := by omega
  subst hie
  have e1 : decide ((l.length : Int) < (l.length : Int)) = false := by simp
  rw [e1, cond_false]
  refine ⟨_, rfl, ?_⟩
  dsimp only
  have hE2c : ∀ e ∈ E2, e.1 = false := fun e he => by
   cases hx : e.1 with
   | false => rfl
   | true =>
    have h0 : formsE E2 = 0 := by omega
    unfold formsE at h0
    have := List.eq_nil_of_length_eq_zero h0
    have hm : e ∈ E2.filter fun e => e.1 := List.mem_filter.2 ⟨he, hx⟩
    rw [this] at hm; cases hm
  have hpos : posC s.length false E2 = E2.map fun e => (s.length : Int) - (e.2.length : Int) := by
   unfold posC
   rw [List.filter_eq_self.2 fun e he => by rw [hE2c e he]; rfl]
  rw [List.drop_length] at ho
  have hl2 : E2.length ≤ E.length := hsE.length_le
  refine up_inv (N := False) (fun d => ∃ (j : Nat) (out : List (List UInt8 × Fm)), d = ((s, (), posC s.length false E2, ((posC s.length false E2).length : Int), (j : Int), ()), (out, ())) ∧ j ≤ E2.length ∧ out ++ pieceS (E2.drop j) [] = pieceS E l) (fun d => E2.length - d.1.2.2.2.2.1.toNat) ?_ ⟨0, out, rfl, Nat.zero_le _, ho⟩
  rintro d ⟨j, out, rfl, hj, ho⟩
  dsimp only
  have hpl2 : (posC s.length false E2).length = E2.length := by rw [hpos, List.length_map]
  have holen := congrArg List.length ho
  rw [List.length_append] at holen
  rw [hpl2]
  by_cases hj' : j < E2.length
  ·left
   have y1 : decide ((j : Int) < (E2.length : Int)) = true := by simp [hj']
   have y2 : ixOK (j : Int) E2.length = true := ixOK_iff.2 (by omega)
   have hmem : E2[j] ∈ E := hsE.mem (List.getElem_mem hj')
   have hb := hE2c _ (List.getElem_mem hj')
   obtain ⟨r', hr'⟩ := hcom _ hmem hb
   have g1 : (posC s.length false E2).getD j 0 = (s.length : Int) - (E2[j].2.length : Int) := by rw [hpos]; simp [hj']
   rw [y1, y2]
   simp only [cond_true, Int.toNat_natCast, g1]
   rw [lcomment_val (hsuf _ hmem) hr' (by omega)]
   simp only [Option.bind_some, List.length_cons, List.length_nil]
   rw [decide_eq_true (by omega), wrapN (show j < 4611686018427387904 by omega)]
   refine ⟨_, rfl, ⟨j + 1, out ++ [(comS E2[j].2, zF)], rfl, by omega, ?_⟩, by simp only [Int.toNat_natCast]; omega⟩
   rw [← ho, List.drop_eq_getElem_cons hj']
   generalize E2[j] = e at hb ⊢
   obtain ⟨b, q⟩ := e
   have hb : b = false := hb
   subst hb
   rw [pieceS]; simp
  ·right; left
   have y1 : decide ((j : Int) < (E2.length : Int)) = false := by apply decide_eq_false; omega
   rw [y1, cond_false]
   refine ⟨_, rfl, .of ?_⟩
   rw [List.drop_of_length_le (show E2.length ≤ j by omega)] at ho
   rw [← ho]
   simp [pieceS]
theorem lpieces_err {s : List UInt8} (h : (readS s).2.1 ≠ 0) : G_lpieces s = some ([], (readS s).2.1, ()) := by
 unfold G_lpieces
 rw [readA_val]
 simp only [Option.bind_some]
 rw [decide_eq_false h]
 rfl
end Go.Ab

set_option maxRecDepth 100000
set_option maxHeartbeats 1000000
namespace Go.Ab
open Go Go.RowKit Go.Proofs
theorem wrapM1 {i : Nat} (h : i < 4611686018427387904) (h0 : 0 < i) : IntKind.wrap .i64 ((i : Int) - 1) = ((i - 1 : Nat) : Int) := by
 rw [w64 (by omega) (by omega)]; omega
theorem wide_iff (t : List UInt8) : wideB t = decide (0 ≤ Lib.indexByte t 10) := by
 obtain ⟨z1, z2, z3, z4, z5⟩ := line_end t
 have hall : (t.takeWhile n10).all n10 = true := List.all_takeWhile
 by_cases hn : Lib.indexByte t 10 < 0
 ·have h1 : t.takeWhile n10 = t := by rw [← z4, z1 hn, List.take_length]
  rw [h1] at hall
  rw [decide_eq_false (show ¬ 0 ≤ Lib.indexByte t 10 by omega)]
  unfold wideB
  rw [List.any_eq_false]
  intro c hc
  have := List.all_eq_true.1 hall c hc
  simpa [n10] using this
 ·have hp := z2 (by omega)
  obtain ⟨_, hlt⟩ := (line_drop t).2 (by omega)
  rw [decide_eq_true (show 0 ≤ Lib.indexByte t 10 by omega)]
  rcases lineE_cases t with h | ⟨q, h⟩
  ·rw [h] at z3
   have := congrArg List.length z3
   rw [List.length_drop, List.length_nil] at this
   omega
  ·unfold wideB
   rw [List.any_eq_true]
   refine ⟨10, ?_, rfl⟩
   have : (10 : UInt8) ∈ lineE t := by rw [h]; simp
   exact (List.dropWhile_suffix n10).mem this
theorem sContains_val (t : List UInt8) : G_sContains t [10] = some (wideB t) := by
 unfold G_sContains G_sIndex G_slIndex
 have y1 : decide ((([10] : List UInt8).length : Int) = 0) = false := by decide
 have y3 : decide ((([10] : List UInt8).length : Int) = 1) = true := by decide
 have y4 : ixOK 0 ([10] : List UInt8).length = true := by decide
 have y5 : byteAt ([10] : List UInt8) 0 = 10 := by decide
 have hix : indexByteF t 10 = some (Lib.indexByte t 10) := by unfold indexByteF; rw [if_pos (by decide)]; rfl
 rw [y1, y3, y4, y5, hix]
 by_cases h : ([10] : List UInt8) = t
 ·subst h; rfl
 ·rw [decide_eq_false h]
  simp only [cond_true, cond_false, Option.bind_some]
  rw [wide_iff]
def pfAt (P : List (List UInt8 × Fm)) (i : Nat) : Bool := decide (0 < i) && decide ((P.getD (i - 1) (([] : List UInt8), Fm.mk 0 0 [] [])).1 = [])
theorem pfAt_succ {P : List (List UInt8 × Fm)} {i : Nat} (h : i < P.length) : pfAt P (i + 1) = decide (P[i].1 = []) := by
 unfold pfAt
 rw [Nat.add_sub_cancel, getD_in h]
 simp
def okJ (p : List UInt8 × Fm) : Prop := (p.1 = [] ∧ validF p.2 = true) ∨ (p.1 ≠ [] ∧ p.1.length ≤ 60000)
theorem comS_len (r : List UInt8) : (comS r).length ≤ r.length := by
 unfold comS trimR
 obtain ⟨j, a, b, c⟩ := trimRi_take wsB (r.takeWhile n10) (r.takeWhile n10).length (Nat.le_refl _)
 rw [b, List.length_take]
 have := (List.takeWhile_prefix n10 (l := r)).length_le
 omega
theorem it_okJ : ∀ (n : Nat) (bare : Bool) (r : List UInt8) (fs : List Fm), r.length ≤ 60000 → (∀ f ∈ fs, validF f = true) → ∀ p ∈ itS n bare r fs, okJ p
 | 0, _, _, _, _, _ => by intro p hp; simp [itS] at hp
 | n + 1, _, [], _, _, _ => by intro p hp; simp [itS] at hp
 | n + 1, bare, c :: r, fs, hr, h => by
  intro p hp
  simp only [List.length_cons] at hr
  simp only [itS] at hp
  by_cases c1 : c = 10
  ·rw [if_pos c1] at hp; exact it_okJ n _ _ _ (by omega) h p hp
  ·rw [if_neg c1] at hp
   by_cases c2 : blankB c = true
   ·rw [if_pos c2] at hp; exact it_okJ n _ _ _ (by omega) h p hp
   ·rw [if_neg c2] at hp
    by_cases c3 : c = 59
    ·rw [if_pos c3] at hp
     rcases List.mem_append.1 hp with hp | hp
     ·by_cases hb : bare = true
      ·rw [if_pos hb, List.mem_singleton] at hp
       subst hp; subst c3
       obtain ⟨b, h1, h2, h3⟩ := comS_ok r
       have := comS_len (59 :: r)
       simp only [List.length_cons] at this
       exact .inr ⟨by show comS (59 :: r) ≠ []; rw [h1]; simp, by show (comS (59 :: r)).length ≤ _; omega⟩
      ·rw [if_neg hb] at hp; cases hp
     ·have := lineE_lt c1 r
      exact it_okJ n _ _ _ (by omega) h p hp
    ·rw [if_neg c3] at hp
     cases fs with
     | nil => cases hp
     | cons f fs' =>
      have := PA0_lt (c := c) (r := r) (by simpa using c2) c3
      rcases List.mem_cons.1 hp with rfl | hp
      ·exact .inl ⟨rfl, h f (by simp)⟩
      ·exact it_okJ n _ _ _ (by omega) (fun g hg => h g (List.mem_cons_of_mem _ hg)) p hp
theorem lay_len0 (w : Nat) {f : Fm} (hv : validF f = true) : (layF w f 0 0).length ≤ 86060000 := by
 have hd := valid_depth hv
 have hs := (validF_of hv).2
 have h1 : (4103 + 200) * f.size ≤ (4103 + 200) * 20000 := Nat.mul_le_mul_left _ hs
 have h2 := lay_len w f (validF_of hv).1 0 0 200 (by omega)
 omega
theorem outS_len (w : Nat) : ∀ (I : List (List UInt8 × Fm)) (pf lw : Bool), (∀ p ∈ I, okJ p) → (outS w pf lw I).length ≤ I.length * 90000000
 | [], _, _, _ => by simp [outS]
 | (b, f) :: I, pf, lw, h => by
  have ih := fun pf lw => outS_len w I pf lw fun p hp => h p (List.mem_cons_of_mem _ hp)
  have hl : ∀ (P : Prop) [Decidable P], (if P then [10] else [] : List UInt8).length ≤ 1 := fun P _ => by split <;> simp
  rw [outS]
  rcases h (b, f) (by simp) with ⟨h1, h2⟩ | ⟨h1, h2⟩
  ·have h1 : b = [] := h1
   have := lay_len0 w (f := f) h2
   have i1 := ih true (wideB (layF w f 0 0))
   have := hl (pf = true ∧ lw = true ∧ wideB (layF w f 0 0) = true)
   rw [if_pos h1]
   simp only [List.length_append, List.length_cons, Nat.add_mul]
   omega
  ·have h1 : b ≠ [] := h1
   have h2 : b.length ≤ 60000 := h2
   have i1 := ih false lw
   have := hl (pf = true)
   rw [if_neg h1]
   simp only [List.length_append, List.length_cons, Nat.add_mul]
   omega
theorem it_len : ∀ (n : Nat) (bare : Bool) (r : List UInt8) (fs : List Fm), (itS n bare r fs).length ≤ r.length
 | 0, _, _, _ => by simp [itS]
 | n + 1, _, [], _ => by simp [itS]
 | n + 1, bare, c :: r, fs => by
  simp only [itS, List.length_cons]
  by_cases c1 : c = 10
  ·rw [if_pos c1]; have := it_len n true r fs; omega
  ·rw [if_neg c1]
   by_cases c2 : blankB c = true
   ·rw [if_pos c2]; have := it_len n bare r fs; omega
   ·rw [if_neg c2]
    by_cases c3 : c = 59
    ·rw [if_pos c3]
     have h1 := it_len n bare (lineE (c :: r)) fs
     have h2 := lineE_lt c1 r
     have h3 : (if bare = true then [(comS (c :: r), zF)] else []).length ≤ 1 := by split <;> simp
     rw [List.length_append]; omega
    ·rw [if_neg c3]
     cases fs with
     | nil => simp
     | cons f fs' =>
      have h1 := it_len n false (PA 0 (c :: r)) fs'
      have h2 := PA0_lt (c := c) (r := r) (by simpa using c2) c3
      simp only [List.length_cons]; omega
def textV (s : List UInt8) (n : Int) : List UInt8 × Int × Unit :=
 if isW n = true then (if (readS s).2.1 = 0 then (outS n.toNat false false (IT true s (readS s).1), 0, ()) else ([], (readS s).2.1, ())) else ([], 1, ())
theorem layText_val (s : List UInt8) (n : Int) : G_layText s n = some (textV s n) := by
 unfold G_layText textV
 rw [isWidth_val]
 simp only [Option.bind_some]
 cases hw : isW n with
 | false => rfl
 | true =>
  obtain ⟨w, rfl, hw1, hw2⟩ := isW_of hw
  rw [if_pos rfl]
  by_cases he : (readS s).2.1 = 0
  ·have hr : readS s = ((readS s).1, 0, ()) := by
    generalize readS s = x at he
    obtain ⟨a, b, c⟩ := x
    have he : b = 0 := he
    rw [he]
   obtain ⟨hs, hp, hv⟩ := read_inv hr
   rw [if_pos he, lpieces_val hr]
   have hJ := it_okJ (s.length + 1) true s (readS s).1 hs hv
   have hIl := it_len (s.length + 1) true s (readS s).1
   have hb : ∀ f ∈ (readS s).1, f.big ≤ 120000 := (parse_ok hs hp).2.1
   have hbI : ∀ p ∈ itS (s.length + 1) true s (readS s).1, p.2.big ≤ 120000 := by
    have key : ∀ (n : Nat) (bare : Bool) (r : List UInt8) (fs : List Fm), (∀ f ∈ fs, f.big ≤ 120000) → ∀ p ∈ itS n bare r fs, p.2.big ≤ 120000 := by
     intro n
     induction n with
     | zero => intro bare r fs _ p hp; simp [itS] at hp
     | succ n ih =>
      intro bare r fs hf p hp
      cases r with
      | nil => simp [itS] at hp
      | cons c r =>
       simp only [itS] at hp
       by_cases c1 : c = 10
       ·rw [if_pos c1] at hp; exact ih _ _ _ hf p hp
       ·rw [if_neg c1] at hp
        by_cases c2 : blankB c = true
        ·rw [if_pos c2] at hp; exact ih _ _ _ hf p hp
        ·rw [if_neg c2] at hp
         by_cases c3 : c = 59
         ·rw [if_pos c3] at hp
          rcases List.mem_append.1 hp with hp | hp
          ·by_cases hb : bare = true
           ·rw [if_pos hb, List.mem_singleton] at hp
            subst hp; simp [zF, Fm.big, Fm.bigL]
           ·rw [if_neg hb] at hp; cases hp
          ·exact ih _ _ _ hf p hp
         ·rw [if_neg c3] at hp
          cases fs with
          | nil => cases hp
          | cons f fs' =>
           rcases List.mem_cons.1 hp with rfl | hp
           ·exact hf f (by simp)
           ·exact ih _ _ _ (fun g hg => hf g (List.mem_cons_of_mem _ hg)) p hp
    exact key _ _ _ _ hb
   have hI : itS (s.length + 1) true s (readS s).1 = IT true s (readS s).1 := rfl
   rw [hI] at hJ hIl hbI
   generalize IT true s (readS s).1 = P at hJ hIl hbI
   simp only [Option.bind_some, decide_true, Bool.not_true, cond_false, Int.toNat_natCast]
   have htot := outS_len w P false false hJ
   have htot2 : P.length * 90000000 ≤ 60000 * 90000000 := Nat.mul_le_mul_right _ (by omega)
   refine Up.get ?_
   refine up_inv (N := False) (fun d => ∃ (i : Nat) (b lw : Bool) (o : List UInt8), d = (((w : Int), P, (), lw, P, (P.length : Int), (i : Int), ()), ((b, (), ()), intsOf o, ())) ∧ i ≤ P.length ∧ o ++ outS w (pfAt P i) lw (P.drop i) = outS w false false P) (fun d => P.length - d.1.2.2.2.2.2.2.1.toNat) ?_ ⟨0, false, false, [], rfl, Nat.zero_le _, rfl⟩
   rintro d ⟨i, b, lw, o, rfl, hi, ho⟩
   have holen := congrArg List.length ho
   rw [List.length_append] at holen
   dsimp only
   by_cases hi' : i < P.length
   ·left
    have e1 : decide ((i : Int) < (P.length : Int)) = true := by simp [hi']
    have e2 : ixOK (i : Int) P.length = true := ixOK_iff.2 (by omega)
    have e3 : (ixOK (IntKind.wrap .i64 ((i : Int) - 1)) P.length || !decide ((i : Int) > 0)) = true := by
     by_cases h0 : i = 0
     ·subst h0; simp
     ·rw [wrapM1 (by omega) (by omega), ixOK_iff.2 (by omega)]; rfl
    have hsp : cond (decide ((i : Int) > 0)) (!(cond (decide ((i : Int) > 0)) (!decide ((P.getD (IntKind.wrap .i64 ((i : Int) - 1)).toNat (([] : List UInt8), (Fm.mk 0 0 [] []))).1 = [])) false)) false = pfAt P i := by
     unfold pfAt
     by_cases h0 : i = 0
     ·subst h0; rfl
     ·rw [decide_eq_true (show (i : Int) > 0 by omega), decide_eq_true (show 0 < i by omega), wrapM1 (by omega) (by omega), Int.toNat_natCast]
      simp
    have hdr : P.drop i = P[i] :: P.drop (i + 1) := List.drop_eq_getElem_cons hi'
    have hmem := List.getElem_mem hi'
    have hJi := hJ _ hmem
    have hbi := hbI _ hmem
    rw [e1, e2, e3]
    simp only [cond_true, Int.toNat_natCast, getD_in hi']
    have hpf := pfAt_succ hi'
    generalize P[i] = p at hdr hJi hbi hpf
    obtain ⟨pb, pf_⟩ := p
    rw [hdr, outS] at ho holen
    have fin : ∀ (o' : List UInt8) (lw' : Bool) (X : Option ((Int × (List ((List UInt8) × Fm)) × Unit × Bool × (List ((List UInt8) × Fm)) × Int × Int × Unit) × ((Bool × Unit × Unit) × (List Int) × Unit))), X = some (((w : Int), P, (), lw', P, (P.length : Int), (i : Int), ()), ((true, (), ()), intsOf o', ())) → o' ++ outS w (pfAt P (i + 1)) lw' (P.drop (i + 1)) = outS w false false P →
      ∃ l', Option.bind X (fun d39 : (Int × (List ((List UInt8) × Fm)) × Unit × Bool × (List ((List UInt8) × Fm)) × Int × Int × Unit) × ((Bool × Unit × Unit) × (List Int) × Unit) => some (Step.next (R := (Unit × Unit) × ((Bool × Unit × Unit) × (List Int) × Unit)) ((d39.1.1, d39.1.2.1, (), d39.1.2.2.2.1, d39.1.2.2.2.2.1, d39.1.2.2.2.2.2.1, IntKind.wrap .i64 (d39.1.2.2.2.2.2.2.1 + 1), ()), ((d39.2.1.1, (), ()), d39.2.2.1, ())))) = some (.next l') ∧
       (∃ (i : Nat) (b lw : Bool) (o : List UInt8), l' = (((w : Int), P, (), lw, P, (P.length : Int), (i : Int), ()), ((b, (), ()), intsOf o, ())) ∧ i ≤ P.length ∧ o ++ outS w (pfAt P i) lw (P.drop i) = outS w false false P) ∧ P.length - l'.1.2.2.2.2.2.2.1.toNat < P.length - (i : Int).toNat := by
     intro o' lw' X hX ho'
     rw [hX]
     refine ⟨_, rfl, ⟨i + 1, true, lw', o', ?_, by omega, ho'⟩, ?_⟩
     ·dsimp only; rw [wrapN (show i < 4611686018427387904 by omega)]
     ·dsimp only; rw [wrapN (show i < 4611686018427387904 by omega)]; simp only [Int.toNat_natCast]; omega
    by_cases hpb : pb = []
    ·
     subst hpb
     have hvf : validF pf_ = true := by
      rcases hJi with h | h
      ·exact h.2
      ·exact absurd rfl h.1
     rw [if_pos rfl] at ho holen
     have hfmt : G_layFormat pf_ (w : Int) = some (layF w pf_ 0 0, 0, ()) := by
      rw [layFormat_val _ (by have : pf_.big ≤ 120000 := hbi; omega)]
      unfold fmtS
      rw [if_pos ⟨hw, hvf⟩, Int.toNat_natCast]
     rw [decide_eq_true rfl] at hpf
     refine fin (o ++ ((if pfAt P i = true ∧ lw = true ∧ wideB (layF w pf_ 0 0) = true then [10] else []) ++ (layF w pf_ 0 0 ++ [10]))) (wideB (layF w pf_ 0 0)) _ ?_ ?_
     ·simp only [decide_true, Bool.not_true, cond_false, Fm.eta_eq, hfmt, Option.bind_some, sContains_val, hsp]
      simp only [List.length_append, List.length_cons] at holen
      have step : ∀ (o' : List UInt8) (b' : Bool), o'.length + (layF w pf_ 0 0).length + 1 ≤ 60000 * 90000000 →
        cond (decide ((layF w pf_ 0 0).length + ([10] : List Nat).length ≤ 9223372036854775807)) (Option.bind (α := (Int × Bool × Unit) × ((Bool × Unit × Unit) × (List Int) × Unit)) (G_bldStr (layF w pf_ 0 0 ++ ([10])) (b', (), ()) (intsOf o')) fun r38 => (
         some ((((w : Int), P, (), wideB (layF w pf_ 0 0), P, (P.length : Int), (i : Int), ()), ((r38.2.1.1, (), ()), r38.2.2.1, ())) : (Int × (List ((List UInt8) × Fm)) × Unit × Bool × (List ((List UInt8) × Fm)) × Int × Int × Unit) × ((Bool × Unit × Unit) × (List Int) × Unit)))) none =
        some (((w : Int), P, (), wideB (layF w pf_ 0 0), P, (P.length : Int), (i : Int), ()), ((true, (), ()), intsOf (o' ++ (layF w pf_ 0 0 ++ [10])), ())) := by
       intro o' b' hl
       simp only [List.length_cons, List.length_nil]
       rw [decide_eq_true (by omega), cond_true, bldStr_val (by rw [ints_len, List.length_append, List.length_cons, List.length_nil]; omega)]
       simp only [Option.bind_some]
       rw [ints_append]
      by_cases hnl : pfAt P i = true ∧ lw = true ∧ wideB (layF w pf_ 0 0) = true
      ·obtain ⟨n1, n2, n3⟩ := hnl
       rw [if_pos ⟨n1, n2, n3⟩] at holen ⊢
       simp only [List.length_cons, List.length_nil] at holen
       rw [n1, n2]
       rw [n3] at step ⊢
       simp only [cond_true]
       rw [bldByte_val (by rw [ints_len]; omega)]
       simp only [Option.bind_some]
       have e10 : intsOf o ++ [10] = intsOf (o ++ [10]) := by rw [← ints_append]; rfl
       rw [e10, step (o ++ [10]) true (by simp only [List.length_append, List.length_cons, List.length_nil]; omega)]
       simp
      ·rw [if_neg hnl] at holen ⊢
       have hcn : cond (cond (pfAt P i) lw false) (wideB (layF w pf_ 0 0)) false = false := by
        cases h1 : pfAt P i with
        | false => rfl
        | true =>
         cases h2 : lw with
         | false => rfl
         | true =>
          cases h3 : wideB (layF w pf_ 0 0) with
          | false => rfl
          | true => exact absurd ⟨h1, h2, h3⟩ hnl
       rw [hcn]
       simp only [cond_false, Option.bind_some]
       rw [step o b (by simp only [List.length_nil] at holen; omega), List.nil_append]
     ·rw [← ho, hpf]; simp
    ·
     rw [if_neg hpb] at ho holen
     rw [decide_eq_false hpb] at hpf
     refine fin (o ++ ((if pfAt P i = true then [10] else []) ++ (pb ++ [10]))) lw _ ?_ ?_
     ·have hpl : pb.length ≤ 60000 := by
       rcases hJi with h | h
       ·exact absurd h.1 hpb
       ·exact h.2
      simp only [decide_eq_false hpb, Bool.not_false, cond_true, hsp]
      have step : ∀ (o' : List UInt8) (b' : Bool), o'.length + pb.length + 1 ≤ 60000 * 90000000 →
        cond (decide (pb.length + ([10] : List Nat).length ≤ 9223372036854775807)) (Option.bind (α := (Int × Bool × Unit) × ((Bool × Unit × Unit) × (List Int) × Unit)) (G_bldStr (pb ++ ([10])) (b', (), ()) (intsOf o')) fun r38 => (
         some ((((w : Int), P, (), lw, P, (P.length : Int), (i : Int), ()), ((r38.2.1.1, (), ()), r38.2.2.1, ())) : (Int × (List ((List UInt8) × Fm)) × Unit × Bool × (List ((List UInt8) × Fm)) × Int × Int × Unit) × ((Bool × Unit × Unit) × (List Int) × Unit)))) none =
        some (((w : Int), P, (), lw, P, (P.length : Int), (i : Int), ()), ((true, (), ()), intsOf (o' ++ (pb ++ [10])), ())) := by
       intro o' b' hl
       simp only [List.length_cons, List.length_nil]
       rw [decide_eq_true (by omega), cond_true, bldStr_val (by rw [ints_len, List.length_append, List.length_cons, List.length_nil]; omega)]
       simp only [Option.bind_some]
       rw [ints_append]
      simp only [List.length_append, List.length_cons] at holen
      cases hpfi : pfAt P i with
      | true =>
       rw [hpfi, if_pos rfl] at holen
       simp only [List.length_cons, List.length_nil] at holen
       simp only [cond_true]
       rw [bldByte_val (by rw [ints_len]; omega)]
       simp only [Option.bind_some]
       have e10 : intsOf o ++ [10] = intsOf (o ++ [10]) := by rw [← ints_append]; rfl
       rw [e10, step (o ++ [10]) true (by simp only [List.length_append, List.length_cons, List.length_nil]; omega)]
       simp
      | false =>
       rw [hpfi, if_neg (by decide)] at holen
       simp only [List.length_nil] at holen
       simp only [cond_false, Option.bind_some]
       rw [step o b (by omega)]
       simp
     ·rw [← ho, hpf]; simp
   ·right; left
    have e1 : decide ((i : Int) < (P.length : Int)) = false := by apply decide_eq_false; omega
    rw [e1, cond_false]
    refine ⟨_, rfl, .of ?_⟩
    rw [List.drop_of_length_le (show P.length ≤ i by omega), outS, List.append_nil] at ho
    simp only [bytes_ints, Option.map_some, Option.bind_some]
    rw [ho]
  ·rw [if_neg he, lpieces_err he]
   simp only [Option.bind_some, decide_eq_false he, Bool.not_true, Bool.not_false, cond_true, cond_false]
end Go.Ab

set_option maxRecDepth 100000
namespace Go.Ab
open Go Go.RowKit Go.Proofs
end Go.Ab

set_option maxRecDepth 100000
set_option maxHeartbeats 1000000
namespace Go.Ab
open Go Go.RowKit Go.Proofs
theorem ex_read : readS [40, 102, 32, 32, 32, 49, 41] = ([.mk 3 0 [] [.mk 1 0 [102] [], .mk 0 1 [] []]], 0, ()) := by kernel_rfl
theorem ex_items (fs : List Fm) (f : Fm) : IT true [40, 102, 32, 32, 32, 49, 41] [f] = [([], f)] := by
 rw [IT_cons, if_neg (by decide), if_neg (by decide), if_neg (by decide)]
 have : PA 0 [40, 102, 32, 32, 32, 49, 41] = [] := by decide +kernel
 simp only [this, IT_nil]
theorem ex_wr : wr (.mk 3 0 [] [.mk 1 0 [102] [], .mk 0 1 [] []]) = [40, 102, 32, 49, 41] := by
 have : Lib.itoa 1 = [49] := by rw [Lib.itoa, if_neg (by decide)]; exact Lib.decDigits_one (by decide)
 simp [wr, wrL, this]
theorem sane02_val : G_sane02 = some true := by
 unfold G_sane02
 rw [layText_val]
 have e : textV [40, 102, 32, 32, 32, 49, 41] 40 = ([40, 102, 32, 49, 41, 10], 0, ()) := by
  unfold textV
  rw [if_pos (by decide), ex_read]
  simp only [if_true, ex_items []]
  have hl : layF (40 : Int).toNat (.mk 3 0 [] [.mk 1 0 [102] [], .mk 0 1 [] []]) 0 0 = [40, 102, 32, 49, 41] := by
   rw [layF_eq, ex_wr, if_pos (by left; decide)]
  rw [outS, if_pos rfl, outS, hl]
  rfl
 rw [e]
 simp
theorem pf_readL {s : List UInt8} {l : List Fm} (h : PF s [] [] = .inr l) (hs : s.length ≤ 60000) (hv : ∀ f ∈ l, validF f = true) : readS s = (l, 0, ()) := by
 unfold readS
 unfold PF at h
 rw [if_neg (by omega), h]
 simp only
 rw [if_pos (List.all_eq_true.2 hv)]
end Go.Ab

set_option maxRecDepth 100000
set_option maxHeartbeats 1000000
namespace Go.Ab
open Go Go.RowKit Go.Proofs
end Go.Ab

set_option maxRecDepth 100000
set_option maxHeartbeats 1000000
namespace Go.Ab
open Go Go.RowKit Go.Proofs
end Go.Ab

set_option maxRecDepth 100000
set_option maxHeartbeats 1000000
namespace Go.Ab
open Go Go.RowKit Go.Proofs
theorem bigL_bound {m : Nat} : ∀ {l : List Fm}, (∀ f ∈ l, f.big ≤ m) → Fm.bigL l ≤ l.length * m
 | [], _ => by simp [Fm.bigL]
 | f :: r, h => by
  have h1 := h f (by simp)
  have h2 := bigL_bound (l := r) fun g hg => h g (List.mem_cons_of_mem _ hg)
  simp only [Fm.bigL, List.length_cons, Nat.add_mul]
  omega
def comsI (I : List (List UInt8 × Fm)) : List (List UInt8) := (I.filter fun p => !decide (p.1 = [])).map fun p => p.1
theorem comsI_cons (p : List UInt8 × Fm) (I : List (List UInt8 × Fm)) : comsI (p :: I) = (if p.1 = [] then [] else [p.1]) ++ comsI I := by
 unfold comsI
 by_cases h : p.1 = []
 ·simp [h]
 ·simp [h]
theorem layComments_val {s : List UInt8} {l : List Fm} (h : readS s = (l, 0, ())) : G_layComments s = some (comsI (IT true s l), 0, ()) := by
 obtain ⟨hs, hp, hv⟩ := read_inv h
 have hIl := it_len (s.length + 1) true s l
 have hI0 : itS (s.length + 1) true s l = IT true s l := rfl
 rw [hI0] at hIl
 unfold G_layComments
 rw [lpieces_val h]
 generalize IT true s l = P at hIl
 simp only [Option.bind_some, decide_true, Bool.not_true, cond_false]
 refine Up.get ?_
 refine up_inv (N := False) (fun d => ∃ (i : Nat) (o : List (List UInt8)), d = (((), P, (P.length : Int), (i : Int), ()), (o, ())) ∧ i ≤ P.length ∧ o.length ≤ i ∧ o ++ comsI (P.drop i) = comsI P) (fun d => P.length - d.1.2.2.2.1.toNat) ?_ ⟨0, [], rfl, Nat.zero_le _, by simp, rfl⟩
 rintro d ⟨i, o, rfl, hi, hol, ho⟩
 dsimp only
 by_cases hi' : i < P.length
 ·left
  have e1 : decide ((i : Int) < (P.length : Int)) = true := by simp [hi']
  have e2 : ixOK (i : Int) P.length = true := ixOK_iff.2 (by omega)
  have hdr : P.drop i = P[i] :: P.drop (i + 1) := List.drop_eq_getElem_cons hi'
  have hgi : P.getD (i : Int).toNat (([] : List UInt8), (Fm.mk 0 0 [] [])) = P[i] := getD_in hi' _
  rw [hdr, comsI_cons] at ho
  generalize P[i] = p at ho hgi
  rw [e1]
  simp only [e2, cond_true, hgi]
  by_cases hpb : p.1 = []
  ·rw [if_pos hpb, List.nil_append] at ho
   rw [decide_eq_true hpb]
   simp only [Bool.not_true, cond_false, Option.bind_some]
   rw [wrapN (show i < 4611686018427387904 by omega)]
   exact ⟨_, rfl, ⟨i + 1, o, rfl, by omega, by omega, ho⟩, by simp only [Int.toNat_natCast]; omega⟩
  ·rw [if_neg hpb] at ho
   rw [decide_eq_false hpb]
   simp only [Bool.not_false, cond_true, List.length_cons, List.length_nil]
   rw [decide_eq_true (show (o.length + (0 + 1)) * 16 ≤ 140737488355328 by omega)]
   simp only [cond_true, Option.bind_some]
   rw [wrapN (show i < 4611686018427387904 by omega)]
   exact ⟨_, rfl, ⟨i + 1, o ++ [p.1], rfl, by omega, by rw [List.length_append, List.length_singleton]; omega, by rw [← ho]; simp⟩, by simp only [Int.toNat_natCast]; omega⟩
 ·right; left
  have e1 : decide ((i : Int) < (P.length : Int)) = false := by apply decide_eq_false; omega
  rw [e1, cond_false]
  refine ⟨_, rfl, .of ?_⟩
  rw [List.drop_of_length_le (show P.length ≤ i by omega)] at ho
  have : comsI [] = [] := rfl
  rw [this, List.append_nil] at ho
  rw [ho]
theorem laySame_val {s t : List UInt8} {l : List Fm} (h : readS s = (l, 0, ())) (h' : readS t = (l, 0, ())) : G_laySame s t = some (true, 0, ()) := by
 obtain ⟨hs, hp, hv⟩ := read_inv h
 obtain ⟨h1, h2, h3⟩ := parse_ok hs hp
 have hb := bigL_bound h2
 have hb2 : l.length * 120000 ≤ 120000 * 120000 := Nat.mul_le_mul_right _ h3
 unfold G_laySame
 rw [readA_val, readA_val, h, h']
 simp only [Option.bind_some, decide_true, Bool.not_true, cond_false]
 rw [requal_val (by simp only [Fm.big, List.length_nil]; omega), cmpF_self]
 rfl
theorem out_read {s : List UInt8} {l : List Fm} (w : Nat) (h : readS s = (l, 0, ())) (hl : (outS w false false (IT true s l)).length ≤ 60000) :
  readS (outS w false false (IT true s l)) = (l, 0, ()) ∧ IT true (outS w false false (IT true s l)) l = IT true s l := by
 obtain ⟨hs, hp, hv⟩ := read_inv h
 obtain ⟨fs, h1, h2, h3⟩ := items_same s.length s (Nat.le_refl _) [] l true hp
 rw [List.nil_append] at h1
 subst h1
 have hcom := ev_com (s.length + 1) 0 false true s
 have hE : evS (s.length + 1) 0 false true s = EV 0 false true s := rfl
 rw [hE] at hcom
 have hfi := forms_piece (EV 0 false true s) l h3 hcom
 rw [h2] at hfi
 have hok : ∀ p ∈ IT true s l, okI p := it_ok (s.length + 1) true s l fun f hf => (validF_of (hv f hf)).1
 obtain ⟨o1, o2⟩ := out_back w (IT true s l) false false [] hok
 rw [hfi] at o1 o2
 rw [List.nil_append] at o1
 exact ⟨pf_readL o1 hl hv, o2⟩
theorem lawTwice_val (s : List UInt8) (n : Int) : G_lawTwice s n = some true := by
 unfold G_lawTwice
 rw [layText_val]
 simp only [Option.bind_some]
 by_cases hw : isW n = true
 ·by_cases he : (readS s).2.1 = 0
  ·have hr : readS s = ((readS s).1, 0, ()) := by
    generalize readS s = x at he
    obtain ⟨a, b, c⟩ := x
    have he : b = 0 := he
    rw [he]
   have ht : textV s n = (outS n.toNat false false (IT true s (readS s).1), 0, ()) := by
    unfold textV; rw [if_pos hw, if_pos he]
   rw [ht]
   generalize (readS s).1 = l at hr
   by_cases hl : (outS n.toNat false false (IT true s l)).length ≤ 60000
   ·obtain ⟨r1, r2⟩ := out_read n.toNat hr hl
    have ht2 : textV (outS n.toNat false false (IT true s l)) n = (outS n.toNat false false (IT true s l), 0, ()) := by
     unfold textV
     rw [if_pos hw, r1]
     simp only [if_true, r2]
    have c1 := layComments_val hr
    have c2 := layComments_val r1
    rw [r2] at c2
    have c3 := laySame_val hr r1
    have hcl : (comsI (IT true s l)).length ≤ 60000 := by
     obtain ⟨hs, _⟩ := read_inv hr
     have hIl := it_len (s.length + 1) true s l
     have hI0 : itS (s.length + 1) true s l = IT true s l := rfl
     rw [hI0] at hIl
     unfold comsI
     rw [List.length_map]
     have := List.length_filter_le (fun p : List UInt8 × Fm => !decide (p.1 = [])) (IT true s l)
     omega
    generalize outS n.toNat false false (IT true s l) = O at hl r1 r2 ht2 c2 c3
    generalize comsI (IT true s l) = C at c1 c2 hcl
    have e0 : decide ((O.length : Int) > 60000) = false := by apply decide_eq_false; omega
    simp only [decide_true, Bool.not_true, e0, cond_false, layText_val, ht2, Option.bind_some, c1, c2, c3]
    refine Up.get ?_
    refine up_inv (N := False) (fun d => ∃ i : Nat, d = ((C, C, (i : Int), ()), ()) ∧ i ≤ C.length) (fun d => C.length - d.1.2.2.1.toNat) ?_ ⟨0, rfl, Nat.zero_le _⟩
    rintro d ⟨i, rfl, hi⟩
    dsimp only
    by_cases hi' : i < C.length
    ·left
     have e1 : decide ((i : Int) < (C.length : Int)) = true := by simp [hi']
     have e2 : ixOK (i : Int) C.length = true := ixOK_iff.2 (by omega)
     rw [e1, e2]
     simp only [cond_true, decide_true, Bool.not_true, cond_false]
     rw [wrapN (show i < 4611686018427387904 by omega)]
     exact ⟨_, rfl, ⟨i + 1, rfl, by omega⟩, by simp only [Int.toNat_natCast]; omega⟩
    ·right; left
     have e1 : decide ((i : Int) < (C.length : Int)) = false := by apply decide_eq_false; omega
     rw [e1, cond_false]
     exact ⟨_, rfl, .of (by simp only [sane02_val, Option.bind_some])⟩
   ·have e0 : decide (((outS n.toNat false false (IT true s l)).length : Int) > 60000) = true := by apply decide_eq_true; omega
    simp only [decide_true, Bool.not_true, e0, cond_false, cond_true, sane02_val, Option.bind_some]
  ·have ht : textV s n = ([], (readS s).2.1, ()) := by unfold textV; rw [if_pos hw, if_neg he]
   rw [ht]
   simp only [decide_eq_false he, Bool.not_false, cond_true, sane02_val, Option.bind_some]
 ·have ht : textV s n = ([], 1, ()) := by unfold textV; rw [if_neg hw]
  rw [ht]
  have e0 : decide ((1 : Int) = 0) = false := by decide
  simp only [e0, Bool.not_false, cond_true, sane02_val, Option.bind_some]
theorem twice_call (s : List UInt8) (n : Int) : PCall CX 7 [.str s, .int .i64 n] (· = .ret (.bool true)) :=
 S_lawTwice_ok (s, n, ()) true (lawTwice_val s n)
end Go.Ab
