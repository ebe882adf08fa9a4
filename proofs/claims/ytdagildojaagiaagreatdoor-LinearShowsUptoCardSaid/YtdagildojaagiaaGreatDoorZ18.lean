/-
  SORTED FORMS: the reference's insertion sort; both lists are alike.
-/
import Derived.Test.YtdagildojaagiaaGreatDoorZ17
import Derived.Test.YtdagildojaagiaaGreatDoorZ16
import Derived.Test.YtdagildojaagiaaGreatDoorZ14
set_option linter.unusedVariables false
set_option linter.unusedSimpArgs false
set_option maxRecDepth 100000
namespace Go.Ab
open Go Go.RowKit Go.Proofs
def consP (c : Int) (t : Fm) (l : List (Int × Fm)) : List (Int × Fm) := if c = 0 then l else (c, t) :: l
def mergeL (f : Int) : List (Int × Fm) → List (Int × Fm) → Option (List (Int × Fm))
 | [], [] => some []
 | p :: r, [] => (mergeL f r []).map (consP p.1 p.2)
 | [], q :: s => (timesS q.1 f).bind fun x => (wholeS x).bind fun c => (mergeL f [] s).map (consP c q.2)
 | p :: r, q :: s =>
  if cmpF p.2 q.2 < 0 then (mergeL f r (q :: s)).map (consP p.1 p.2)
  else if 0 < cmpF p.2 q.2 then (timesS q.1 f).bind fun x => (wholeS x).bind fun c => (mergeL f (p :: r) s).map (consP c q.2)
  else (timesS q.1 f).bind fun x => (wholeS (p.1 + x)).bind fun c => (mergeL f r s).map (consP c q.2)
 termination_by l m => l.length + m.length
def plusS (a b : (Int × List (Int × Fm))) (f : Int) : Option (Int × List (Int × Fm)) := (timesS b.1 f).bind fun x => (wholeS (a.1 + x)).bind fun k => (mergeL f a.2 b.2).map fun l => (k, l)
theorem wholeS_some {n m : Int} (h : wholeS n = some m) : m = n ∧ -1152921504606846976 ≤ n ∧ n ≤ 1152921504606846976 := by
 unfold wholeS at h
 split at h
 ·cases h
 ·cases h; omega
theorem timesS_some {a b m : Int} (h : timesS a b = some m) : m = a * b ∧ -1152921504606846976 ≤ m ∧ m ≤ 1152921504606846976 := by
 unfold timesS at h
 split at h
 ·cases h
 ·cases h
  have : (a * b).natAbs ≤ 1152921504606846976 := by rw [Int.natAbs_mul]; omega
  omega
def i64 (n : Int) : Prop := -9223372036854775808 ≤ n ∧ n ≤ 9223372036854775807
def i60 (n : Int) : Prop := -1152921504606846976 ≤ n ∧ n ≤ 1152921504606846976
structure FitA (s : (Int × List (Int × Fm))) : Prop where
 k : i60 s.1
 c : ∀ p ∈ s.2, i60 p.1
 big : ∀ p ∈ s.2, p.2.big ≤ 2000000000000
 len : s.2.length ≤ 500000000000
structure FitB (s : (Int × List (Int × Fm))) : Prop where
 k : i64 s.1
 c : ∀ p ∈ s.2, i64 p.1
 big : ∀ p ∈ s.2, p.2.big ≤ 2000000000000
 len : s.2.length ≤ 500000000000
theorem timesP_val {a b : Int} (ha : i64 a) (hb : i64 b) : timesP a b = some (match timesS a b with
 | some n => .ret n
 | none => .pan) := by
 unfold timesP
 rw [if_pos ⟨ha, hb⟩]
 cases timesS a b <;> rfl
def ordI (l l' : List (Int × Fm)) (i j : Nat) : Int := match l[i]?, l'[j]? with
 | none, _ => 1
 | some _, none => -1
 | some p, some q => cmpF p.2 q.2
theorem ord_end {l l' : List (Int × Fm)} {i j : Nat} (hi : i = l.length) : ordI l l' i j = 1 := by
 subst hi; simp [ordI]
theorem ord_end' {l l' : List (Int × Fm)} {i j : Nat} (hi : i < l.length) (hj : j = l'.length) : ordI l l' i j = -1 := by
 subst hj; simp [ordI, List.getElem?_eq_getElem hi]
theorem ord_in {l l' : List (Int × Fm)} {i j : Nat} (hi : i < l.length) (hj : j < l'.length) : ordI l l' i j = cmpF l[i].2 l'[j].2 := by
 simp [ordI, List.getElem?_eq_getElem hi, List.getElem?_eq_getElem hj]
theorem merge_less (f : Int) {l l' : List (Int × Fm)} {i j : Nat} (h : i < l.length) (ho : ordI l l' i j < 0) : mergeL f (l.drop i) (l'.drop j) = (mergeL f (l.drop (i + 1)) (l'.drop j)).map (consP l[i].1 l[i].2) := by
 rw [List.drop_eq_getElem_cons h]
 unfold ordI at ho
 rw [List.getElem?_eq_getElem h] at ho
 rcases Nat.lt_or_ge j l'.length with hj | hj
 ·rw [List.getElem?_eq_getElem hj] at ho
  rw [List.drop_eq_getElem_cons hj, mergeL, if_pos ho]
 ·rw [List.drop_of_length_le hj, mergeL]
theorem merge_more (f : Int) {l l' : List (Int × Fm)} {i j : Nat} (h : j < l'.length) (ho : 0 < ordI l l' i j) : mergeL f (l.drop i) (l'.drop j) = (timesS l'[j].1 f).bind fun x => (wholeS x).bind fun c => (mergeL f (l.drop i) (l'.drop (j + 1))).map (consP c l'[j].2) := by
 rw [List.drop_eq_getElem_cons h]
 unfold ordI at ho
 rw [List.getElem?_eq_getElem h] at ho
 rcases Nat.lt_or_ge i l.length with hi | hi
 ·rw [List.getElem?_eq_getElem hi] at ho
  simp only at ho
  rw [List.drop_eq_getElem_cons hi, mergeL, if_neg (by omega), if_pos ho]
 ·rw [List.drop_of_length_le hi, mergeL]
theorem merge_same (f : Int) {l l' : List (Int × Fm)} {i j : Nat} (h : i < l.length) (h' : j < l'.length) (ho : ordI l l' i j = 0) : mergeL f (l.drop i) (l'.drop j) = (timesS l'[j].1 f).bind fun x => (wholeS (l[i].1 + x)).bind fun c => (mergeL f (l.drop (i + 1)) (l'.drop (j + 1))).map (consP c l'[j].2) := by
 unfold ordI at ho
 rw [List.getElem?_eq_getElem h, List.getElem?_eq_getElem h'] at ho
 simp only at ho
 rw [List.drop_eq_getElem_cons h, List.drop_eq_getElem_cons h', mergeL, if_neg (by omega), if_neg (by omega)]
def appP (out : List (Int × Fm)) (c : Int) (t : Fm) : List (Int × Fm) := if c = 0 then out else out ++ [(c, t)]
theorem consP_app (c : Int) (t : Fm) (out r : List (Int × Fm)) : out ++ consP c t r = appP out c t ++ r := by
 unfold consP appP; split <;> simp
theorem map_app (o : Option (List (Int × Fm))) (c : Int) (t : Fm) (out : List (Int × Fm)) : (o.map (consP c t)).map (out ++ ·) = o.map (appP out c t ++ ·) := by
 cases o <;> simp [consP_app]
theorem appP_len (out : List (Int × Fm)) (c : Int) (t : Fm) : (appP out c t).length ≤ out.length + 1 := by
 unfold appP; split <;> simp
def outP : Option (Int × List (Int × Fm)) → Out (Int × List (Int × Fm))
 | some s => .ret s
 | none => .pan
theorem Fm.mk_eta (f : Fm) : Fm.mk f.k f.n f.t f.l = f := by cases f; rfl
theorem merge_step {f : Int} {l l' out : List (Int × Fm)} {i j i' j' : Nat} {c : Int} {t : Fm} (hm : mergeL f l l' = (mergeL f (l.drop i) (l'.drop j)).map (out ++ ·)) (hs : mergeL f (l.drop i) (l'.drop j) = (mergeL f (l.drop i') (l'.drop j')).map (consP c t)) :
  mergeL f l l' = (mergeL f (l.drop i') (l'.drop j')).map (appP out c t ++ ·) := by rw [hm, hs, map_app]
theorem merge_stop {f : Int} {l l' out : List (Int × Fm)} {i j : Nat} (hm : mergeL f l l' = (mergeL f (l.drop i) (l'.drop j)).map (out ++ ·)) (hs : mergeL f (l.drop i) (l'.drop j) = none) : mergeL f l l' = none := by rw [hm, hs]; rfl
theorem more_none {f : Int} {l l' : List (Int × Fm)} {i j : Nat} (h : j < l'.length) (ho : 0 < ordI l l' i j) (hn : (timesS l'[j].1 f).bind wholeS = none) : mergeL f (l.drop i) (l'.drop j) = none := by
 rw [merge_more f h ho]
 cases hx : timesS l'[j].1 f with
 | none => rfl
 | some x => rw [hx] at hn; simp only [Option.bind_some] at hn ⊢; rw [hn]; rfl
theorem more_some {f x c : Int} {l l' : List (Int × Fm)} {i j : Nat} (h : j < l'.length) (ho : 0 < ordI l l' i j) (hx : timesS l'[j].1 f = some x) (hc : wholeS x = some c) : mergeL f (l.drop i) (l'.drop j) = (mergeL f (l.drop i) (l'.drop (j + 1))).map (consP c l'[j].2) := by
 rw [merge_more f h ho, hx, Option.bind_some, hc, Option.bind_some]
theorem same_none {f : Int} {l l' : List (Int × Fm)} {i j : Nat} (h : i < l.length) (h' : j < l'.length) (ho : ordI l l' i j = 0) (hn : ((timesS l'[j].1 f).bind fun x => wholeS (l[i].1 + x)) = none) : mergeL f (l.drop i) (l'.drop j) = none := by
 rw [merge_same f h h' ho]
 cases hx : timesS l'[j].1 f with
 | none => rfl
 | some x => rw [hx] at hn; simp only [Option.bind_some] at hn ⊢; rw [hn]; rfl
theorem same_some {f x c : Int} {l l' : List (Int × Fm)} {i j : Nat} (h : i < l.length) (h' : j < l'.length) (ho : ordI l l' i j = 0) (hx : timesS l'[j].1 f = some x) (hc : wholeS (l[i].1 + x) = some c) : mergeL f (l.drop i) (l'.drop j) = (mergeL f (l.drop (i + 1)) (l'.drop (j + 1))).map (consP c l'[j].2) := by
 rw [merge_same f h h' ho, hx, Option.bind_some, hc, Option.bind_some]
abbrev PlusT := ((Int × (Int × (List (Int × Fm)) × Unit) × (Int × (List (Int × Fm)) × Unit) × Unit × Unit × Int × Int × Unit) × ((Int × Unit × Unit) × (Int × Unit × Unit) × (List (Int × Fm)) × Unit))
def plusSt (f k k' y : Int) (l l' : List (Int × Fm)) (i j : Nat) (out : List (Int × Fm)) : PlusT := ((f, (k, l, ()), (k', l', ()), (), (), (i : Int), (j : Int), ()), ((0, (), ()), (y, (), ()), out, ()))
theorem plus_tail {R : Type} {c : Int} {t : Fm} {out : List (Int × Fm)} {S : List (Int × Fm) → PlusT} (hb : t.big ≤ 2000000000000) (hl : out.length ≤ 1000000000000) :
  cond (!decide (c = 0)) (Option.bind (copyU t) fun r38 => cond (decide ((out.length + ([(c, r38)]).length) * 64 ≤ 140737488355328)) (some (Step.next (R := R) (S (out ++ [(c, r38)])))) none) (some (Step.next (S out))) = some (Step.next (S (appP out c t))) := by
 by_cases hc : c = 0
 ·simp [hc, appP]
 ·have e : decide ((out.length + ([(c, t)]).length) * 64 ≤ 140737488355328) = true := by apply decide_eq_true; simp only [List.length_cons, List.length_nil]; omega
  simp only [hc, decide_false, Bool.not_false, cond_true, copyU_val t hb, Option.bind_some, Fm.eta_eq, e, appP, if_false]
theorem plus_val (a b : (Int × List (Int × Fm))) (f : Int) (ha : FitA a) (hb : FitB b) (hf : i64 f) : G_plus a b f = some (outP (plusS a b f)) := by
 obtain ⟨k, l⟩ := a
 obtain ⟨k', l'⟩ := b
 have hla := ha.len
 have hlb := hb.len
 have hka := ha.k
 have hca := ha.c
 have hcb := hb.c
 have hba := ha.big
 have hbb := hb.big
 simp only at hla hlb hka hca hcb hba hbb
 unfold i60 at hka
 unfold G_plus plusS
 simp only [timesP_val hb.k hf]
 cases hx : timesS k' f with
 | none => rfl
 | some x =>
  obtain ⟨-, hx1, hx2⟩ := timesS_some hx
  simp only [Option.bind_some]
  rw [w64 (by omega) (by omega)]
  unfold wholeP
  cases hy : wholeS (k + x) with
  | none => rfl
  | some y =>
   simp only [Option.bind_some]
   refine bind_loop (fun d => ∃ (i j : Nat) (out : List (Int × Fm)), d = ((f, (k, l, ()), (k', l', ()), (), (), (i : Int), (j : Int), ()), ((0, (), ()), (y, (), ()), out, ())) ∧ i ≤ l.length ∧ j ≤ l'.length ∧ out.length ≤ i + j ∧
     mergeL f l l' = (mergeL f (l.drop i) (l'.drop j)).map (out ++ ·)) (fun d => (l.length - d.1.2.2.2.2.2.1.toNat) + (l'.length - d.1.2.2.2.2.2.2.1.toNat)) ?_ ⟨0, 0, [], rfl, Nat.zero_le _, Nat.zero_le _, Nat.zero_le _, by simp⟩
   rintro d ⟨i, j, out, rfl, hi, hj, ho, hm⟩
   simp only [Int.toNat_natCast]
   by_cases hi' : i < l.length
   ·have e1 : decide ((i : Int) < (l.length : Int)) = true := by apply decide_eq_true; omega
    have e3 : decide ((i : Int) = (l.length : Int)) = false := by apply decide_eq_false; omega
    have x1 : ixOK (i : Int) l.length = true := ixOK_iff.2 (by omega)
    have g1 : l.getD i ((0 : Int), (Fm.mk 0 0 [] [])) = l[i] := getD_in hi' _
    have b1 : l[i].2.big ≤ 2000000000000 := hba _ (List.getElem_mem hi')
    have c1 : i60 l[i].1 := hca _ (List.getElem_mem hi')
    by_cases hj' : j < l'.length
    ·have e4 : decide ((j : Int) = (l'.length : Int)) = false := by apply decide_eq_false; omega
     have x2 : ixOK (j : Int) l'.length = true := ixOK_iff.2 (by omega)
     have g2 : l'.getD j ((0 : Int), (Fm.mk 0 0 [] [])) = l'[j] := getD_in hj' _
     have b2 : l'[j].2.big ≤ 2000000000000 := hbb _ (List.getElem_mem hj')
     have hcmp : L_compare l[i].2 l'[j].2 = some (cmpF l[i].2 l'[j].2) := compare_val (by omega)
     rw [← ord_in hi' hj'] at hcmp
     simp only [e1, e3, e4, x1, x2, g1, g2, hcmp, cond_true, cond_false, Fm.eta_eq, Option.bind_some, Int.toNat_natCast]
     generalize ho' : ordI l l' i j = o
     rcases Int.lt_trichotomy o 0 with h | h | h
     ·have f1 : decide (o ≤ 0) = true := by apply decide_eq_true; omega
      have f2 : decide (o ≥ 0) = false := by apply decide_eq_false; omega
      simp only [f1, f2, cond_true, cond_false, Option.bind_some, Fm.mk_eta, wrapN (show i < 4611686018427387904 by omega)]
      refine .inl ⟨plusSt f k k' y l l' (i + 1) j (appP out l[i].1 l[i].2), plus_tail (S := plusSt f k k' y l l' (i + 1) j) (out := out) b1 (by omega), ⟨i + 1, j, _, rfl, by omega, by omega, ?_, ?_⟩, ?_⟩
      ·have := appP_len out l[i].1 l[i].2; omega
      ·exact merge_step hm (merge_less f hi' (by omega))
      ·simp only [plusSt, Int.toNat_natCast]; omega
     ·have f1 : decide (o ≤ 0) = true := by apply decide_eq_true; omega
      have f2 : decide (o ≥ 0) = true := by apply decide_eq_true; omega
      simp only [f1, f2, x2, g2, cond_true, cond_false, Option.bind_some, Fm.mk_eta, Int.toNat_natCast, timesP_val (hcb _ (List.getElem_mem hj')) hf, wrapN (show i < 4611686018427387904 by omega), wrapN (show j < 4611686018427387904 by omega)]
      cases hz : timesS l'[j].1 f with
      | none =>
       refine .inr ⟨_, rfl, ?_⟩
       rw [merge_stop hm (same_none hi' hj' (by omega) (by rw [hz]; rfl))]; rfl
      | some z =>
       obtain ⟨-, z1, z2⟩ := timesS_some hz
       unfold i60 at c1
       simp only [w64 (show -9223372036854775808 ≤ l[i].1 + z by omega) (by omega)]
       cases hw : wholeS (l[i].1 + z) with
       | none =>
        refine .inr ⟨_, rfl, ?_⟩
        rw [merge_stop hm (same_none hi' hj' (by omega) (by rw [hz]; exact hw))]; rfl
       | some c =>
        simp only [Option.bind_some, Fm.mk_eta]
        refine .inl ⟨plusSt f k k' y l l' (i + 1) (j + 1) (appP out c l'[j].2), plus_tail (S := plusSt f k k' y l l' (i + 1) (j + 1)) (out := out) b2 (by omega), ⟨i + 1, j + 1, _, rfl, by omega, by omega, ?_, ?_⟩, ?_⟩
        ·have := appP_len out c l'[j].2; omega
        ·exact merge_step hm (same_some hi' hj' (by omega) hz hw)
        ·simp only [plusSt, Int.toNat_natCast]; omega
     ·have f1 : decide (o ≤ 0) = false := by apply decide_eq_false; omega
      have f2 : decide (o ≥ 0) = true := by apply decide_eq_true; omega
      simp only [f1, f2, x2, g2, cond_true, cond_false, Option.bind_some, Fm.mk_eta, Int.toNat_natCast, timesP_val (hcb _ (List.getElem_mem hj')) hf, wrapN (show i < 4611686018427387904 by omega), wrapN (show j < 4611686018427387904 by omega)]
      cases hz : timesS l'[j].1 f with
      | none =>
       refine .inr ⟨_, rfl, ?_⟩
       rw [merge_stop hm (more_none hj' (by omega) (by rw [hz]; rfl))]; rfl
      | some z =>
       obtain ⟨-, z1, z2⟩ := timesS_some hz
       simp only [Int.zero_add, w64 (show -9223372036854775808 ≤ z by omega) (by omega)]
       cases hw : wholeS z with
       | none =>
        refine .inr ⟨_, rfl, ?_⟩
        rw [merge_stop hm (more_none hj' (by omega) (by rw [hz]; exact hw))]; rfl
       | some c =>
        simp only [Option.bind_some, Fm.mk_eta]
        refine .inl ⟨plusSt f k k' y l l' i (j + 1) (appP out c l'[j].2), plus_tail (S := plusSt f k k' y l l' i (j + 1)) (out := out) b2 (by omega), ⟨i, j + 1, _, rfl, by omega, by omega, ?_, ?_⟩, ?_⟩
        ·have := appP_len out c l'[j].2; omega
        ·exact merge_step hm (more_some hj' (by omega) hz hw)
        ·simp only [plusSt, Int.toNat_natCast]; omega
    ·have e2 : decide ((j : Int) < (l'.length : Int)) = false := by apply decide_eq_false; omega
     have e4 : decide ((j : Int) = (l'.length : Int)) = true := by apply decide_eq_true; omega
     simp only [e1, e2, e3, e4, x1, g1, cond_true, cond_false, Fm.eta_eq, Option.bind_some, Int.toNat_natCast]
     have f1 : decide ((-1 : Int) ≤ 0) = true := rfl
     have f2 : decide ((-1 : Int) ≥ 0) = false := rfl
     simp only [f1, f2, x1, g1, cond_true, cond_false, Option.bind_some, Fm.mk_eta, Int.toNat_natCast, wrapN (show i < 4611686018427387904 by omega)]
     refine .inl ⟨plusSt f k k' y l l' (i + 1) j (appP out l[i].1 l[i].2), plus_tail (S := plusSt f k k' y l l' (i + 1) j) (out := out) b1 (by omega), ⟨i + 1, j, _, rfl, by omega, by omega, ?_, ?_⟩, ?_⟩
     ·have := appP_len out l[i].1 l[i].2; omega
     ·exact merge_step hm (merge_less f hi' (by rw [ord_end' hi' (by omega)]; decide))
     ·simp only [plusSt, Int.toNat_natCast]; omega
   ·have e1 : decide ((i : Int) < (l.length : Int)) = false := by apply decide_eq_false; omega
    have e3 : decide ((i : Int) = (l.length : Int)) = true := by apply decide_eq_true; omega
    by_cases hj' : j < l'.length
    ·have e2 : decide ((j : Int) < (l'.length : Int)) = true := by apply decide_eq_true; omega
     have x2 : ixOK (j : Int) l'.length = true := ixOK_iff.2 (by omega)
     have g2 : l'.getD j ((0 : Int), (Fm.mk 0 0 [] [])) = l'[j] := getD_in hj' _
     have b2 : l'[j].2.big ≤ 2000000000000 := hbb _ (List.getElem_mem hj')
     have ho' : 0 < ordI l l' i j := by rw [ord_end (by omega)]; decide
     have f1 : decide ((1 : Int) ≤ 0) = false := rfl
     have f2 : decide ((1 : Int) ≥ 0) = true := rfl
     simp only [e1, e2, e3, x2, g2, f1, f2, cond_true, cond_false, Fm.eta_eq, Option.bind_some, Int.toNat_natCast, Fm.mk_eta, timesP_val (hcb _ (List.getElem_mem hj')) hf, wrapN (show j < 4611686018427387904 by omega)]
     cases hz : timesS l'[j].1 f with
     | none =>
      refine .inr ⟨_, rfl, ?_⟩
      rw [merge_stop hm (more_none hj' ho' (by rw [hz]; rfl))]; rfl
     | some z =>
      obtain ⟨-, z1, z2⟩ := timesS_some hz
      simp only [Int.zero_add, w64 (show -9223372036854775808 ≤ z by omega) (by omega)]
      cases hw : wholeS z with
      | none =>
       refine .inr ⟨_, rfl, ?_⟩
       rw [merge_stop hm (more_none hj' ho' (by rw [hz]; exact hw))]; rfl
      | some c =>
       simp only [Option.bind_some, Fm.mk_eta]
       refine .inl ⟨plusSt f k k' y l l' i (j + 1) (appP out c l'[j].2), plus_tail (S := plusSt f k k' y l l' i (j + 1)) (out := out) b2 (by omega), ⟨i, j + 1, _, rfl, by omega, by omega, ?_, ?_⟩, ?_⟩
       ·have := appP_len out c l'[j].2; omega
       ·exact merge_step hm (more_some hj' ho' hz hw)
       ·simp only [plusSt, Int.toNat_natCast]; omega
    ·have e2 : decide ((j : Int) < (l'.length : Int)) = false := by apply decide_eq_false; omega
     refine .inr ⟨_, by simp only [e1, e2, cond_false]; rfl, ?_⟩
     rw [hm, List.drop_of_length_le (by omega), List.drop_of_length_le (by omega), mergeL]
     simp [outP]
end Go.Ab

set_option maxRecDepth 100000
namespace Go.Ab
open Go Go.RowKit Go.Proofs
theorem bind_wp {L R A : Type} {b : L → Option (Step L R)} {l0 : L} {F : R → Option A} {P : A → Prop} (I : L → Prop) (μ : L → Nat)
  (h : ∀ l, I l → (∃ l', b l = some (.next l') ∧ I l' ∧ μ l' < μ l) ∨ ∃ r, b l = some (.done r) ∧ ∃ v, F r = some v ∧ P v) (h0 : I l0) : ∃ v, Option.bind (loopM b l0) F = some v ∧ P v := by
 obtain ⟨r, h1, v, h2, h3⟩ := loop_wp I μ (fun r => ∃ v, F r = some v ∧ P v) (fun l hl => h l hl) l0 h0
 exact ⟨v, by rw [h1]; exact h2, h3⟩
def sizeI (n : Int) : Int := if n = -9223372036854775808 then 9223372036854775807 else (n.natAbs : Int)
theorem size34_val {n : Int} (h : i64 n) : G_size34 n = some (sizeI n) := by
 unfold i64 at h
 unfold G_size34 sizeI
 by_cases h0 : n < 0
 ·simp only [h0, decide_true, cond_true]
  rw [w64 (show -9223372036854775808 ≤ n + 1 by omega) (by omega), w64 (show -9223372036854775808 ≤ 0 - (n + 1) by omega) (by omega)]
  by_cases h1 : n = -9223372036854775808
  ·subst h1; rfl
  ·rw [w64 (show -9223372036854775808 ≤ 0 - n by omega) (by omega), if_neg (by omega), if_neg h1]
   congr 1; omega
 ·have e : decide (n < 0) = false := decide_eq_false h0
  simp only [e, cond_false]
  rw [if_neg (by omega)]
  congr 1; omega
theorem times34_val {a b : Int} (ha : i64 a) (hb : i64 b) : G_times34 a b = some (match timesS a b with
 | some n => (n, true, ())
 | none => (0, false, ())) := by
 unfold G_times34
 by_cases h0 : a = 0
 ·subst h0
  simp [timesS, IntKind.wrap_i64]
 ·have e0 : decide (a = 0) = false := decide_eq_false h0
  simp only [e0, Bool.not_false, Bool.not_true, cond_true, size34_val ha, size34_val hb, Option.bind_some, Bool.or_false]
  unfold i64 at ha hb
  have hsa : 1 ≤ sizeI a ∧ sizeI a ≤ 9223372036854775807 := by unfold sizeI; split <;> omega
  have hsb : 0 ≤ sizeI b ∧ sizeI b ≤ 9223372036854775807 := by unfold sizeI; split <;> omega
  have e1 : decide (sizeI a = 0) = false := by apply decide_eq_false; omega
  have hdiv : Int.tdiv 1152921504606846976 (sizeI a) = 1152921504606846976 / sizeI a := Int.tdiv_eq_ediv_of_nonneg (by decide)
  have hd1 : 0 ≤ 1152921504606846976 / sizeI a := Int.ediv_nonneg (by decide) (by omega)
  have hd2 : 1152921504606846976 / sizeI a ≤ 1152921504606846976 := Int.ediv_le_self _ (by decide)
  simp only [e1, Bool.not_false, cond_true, hdiv]
  rw [w64 (by omega) (by omega)]
  have hiff : (sizeI b > 1152921504606846976 / sizeI a) ↔ 1152921504606846976 < sizeI b * sizeI a := Int.ediv_lt_iff_lt_mul (by omega)
  have hkey : (1152921504606846976 < sizeI b * sizeI a) ↔ 1152921504606846976 < a.natAbs * b.natAbs := by
   unfold sizeI
   by_cases h1 : b = -9223372036854775808
   ·subst h1
    rw [if_pos rfl]
    constructor
    ·intro _
     have : 1 ≤ a.natAbs := by omega
     have := Nat.mul_le_mul_right (-9223372036854775808 : Int).natAbs this
     have e : (-9223372036854775808 : Int).natAbs = 9223372036854775808 := rfl
     rw [e] at this ⊢
     omega
    ·intro _
     split
     ·decide
     ·have : (1 : Int) ≤ (a.natAbs : Int) := by omega
      have := Int.mul_le_mul_of_nonneg_left this (show (0 : Int) ≤ 9223372036854775807 by decide)
      omega
   ·rw [if_neg h1]
    by_cases h2 : a = -9223372036854775808
    ·subst h2
     rw [if_pos rfl]
     have e : (-9223372036854775808 : Int).natAbs = 9223372036854775808 := rfl
     rw [e]
     omega
    ·rw [if_neg h2, Nat.mul_comm]
     omega
  by_cases hov : 1152921504606846976 < a.natAbs * b.natAbs
  ·have e2 : decide (sizeI b > 1152921504606846976 / sizeI a) = true := decide_eq_true (hiff.2 (hkey.2 hov))
   simp only [e2, cond_true, timesS, if_pos hov]
  ·have e2 : decide (sizeI b > 1152921504606846976 / sizeI a) = false := decide_eq_false fun h => hov (hkey.1 (hiff.1 h))
   have : (a * b).natAbs ≤ 1152921504606846976 := by rw [Int.natAbs_mul]; omega
   simp only [e2, cond_false, timesS, if_neg hov]
   rw [w64 (by omega) (by omega)]
theorem small34_val (n : Int) : G_small34 n = some (wholeS n).isSome := by
 unfold G_small34 wholeS
 by_cases h1 : n ≥ -1152921504606846976
 ·by_cases h2 : n ≤ 1152921504606846976
  ·simp [h1, h2]
  ·simp [h1, h2]
 ·simp [h1]
abbrev SumT := (Int × (Int × (List (Int × Fm)) × Unit) × (Int × (List (Int × Fm)) × Unit) × Unit × Bool × Unit × Int × Int × Unit) × ((Int × Unit × Unit) × (Int × Unit × Unit) × (List (Int × Fm)) × Unit)
def sumSt (f k k' y : Int) (l l' : List (Int × Fm)) (ok : Bool) (i j : Nat) (out : List (Int × Fm)) : SumT := ((f, (k, l, ()), (k', l', ()), (), ok, (), (i : Int), (j : Int), ()), ((0, (), ()), (y, (), ()), out, ()))
theorem sum_tail {R : Type} {c : Int} {t : Fm} {out : List (Int × Fm)} {S : List (Int × Fm) → SumT} (hl : out.length ≤ 1000000000000) :
  cond (!decide (c = 0)) (cond (decide ((out.length + ([(c, t)]).length) * 64 ≤ 140737488355328)) (some (Step.next (R := R) (S (out ++ [(c, t)])))) none) (some (Step.next (S out))) = some (Step.next (S (appP out c t))) := by
 by_cases hc : c = 0
 ·simp [hc, appP]
 ·have e : decide ((out.length + ([(c, t)]).length) * 64 ≤ 140737488355328) = true := by apply decide_eq_true; simp only [List.length_cons, List.length_nil]; omega
  simp only [hc, decide_false, Bool.not_false, cond_true, e, appP, if_false]
theorem sum_val (a b : (Int × List (Int × Fm))) (f : Int) (ha : FitA a) (hb : FitB b) (hf : i64 f) : ∃ v, G_sum34 a b f = some v ∧ ∃ s, v = (s, (plusS a b f).isSome, ()) ∧ ∀ r, plusS a b f = some r → s = r := by
 obtain ⟨k, l⟩ := a
 obtain ⟨k', l'⟩ := b
 have hla := ha.len
 have hlb := hb.len
 have hka := ha.k
 have hca := ha.c
 have hcb := hb.c
 have hba := ha.big
 have hbb := hb.big
 simp only at hla hlb hka hca hcb hba hbb
 unfold i60 at hka
 unfold G_sum34
 simp only [times34_val hb.k hf, small34_val]
 obtain ⟨x, b0, e1, e2, e3⟩ : ∃ (x : Int) (b0 : Bool), (match timesS k' f with
  | some n => (n, true, ())
  | none => ((0 : Int), false, ())) = (x, b0, ()) ∧ (cond b0 (some (wholeS (IntKind.wrap .i64 (k + x))).isSome) (some false) = some true → plusS (k, l) (k', l') f = (mergeL f l l').map fun o => (IntKind.wrap .i64 (k + x), o)) ∧ (cond b0 (some (wholeS (IntKind.wrap .i64 (k + x))).isSome) (some false) = some false → plusS (k, l) (k', l') f = none) := by
  unfold plusS
  cases hx : timesS k' f with
  | none => exact ⟨0, _, rfl, (fun h => by cases h), fun _ => rfl⟩
  | some x =>
   obtain ⟨-, hx1, hx2⟩ := timesS_some hx
   refine ⟨x, _, rfl, fun h => ?_, fun h => ?_⟩
   ·rw [w64 (by omega) (by omega)] at h ⊢
    have h : (wholeS (k + x)).isSome = true := by simpa using h
    obtain ⟨y, hy⟩ := Option.isSome_iff_exists.1 h
    simp only [Option.bind_some, hy, (wholeS_some hy).1]
   ·rw [w64 (by omega) (by omega)] at h
    have h : (wholeS (k + x)).isSome = false := by simpa using h
    simp only [Option.bind_some, Option.isSome_eq_false_iff, Option.isNone_iff_eq_none] at h ⊢
    rw [h]; rfl
 rw [e1]
 simp only [Option.bind_some]
 generalize IntKind.wrap .i64 (k + x) = y at e2 e3 ⊢
 obtain ⟨ok, hok⟩ : ∃ ok : Bool, cond b0 (some (wholeS y).isSome) (some false) = some ok := by cases b0 <;> exact ⟨_, rfl⟩
 have hok2 : cond b0 ok false = ok := by
  cases b0 with
  | true => rfl
  | false => cases hok; rfl
 rw [hok] at e2 e3 ⊢
 simp only [Option.bind_some, hok2]
 have e2 : ok = true → _ := fun h => e2 (by rw [h])
 have e3 : ok = false → _ := fun h => e3 (by rw [h])
 refine bind_wp (fun d => ∃ (i j : Nat) (out : List (Int × Fm)) (ok : Bool), d = ((f, (k, l, ()), (k', l', ()), (), ok, (), (i : Int), (j : Int), ()), ((0, (), ()), (y, (), ()), out, ())) ∧ i ≤ l.length ∧ j ≤ l'.length ∧ out.length ≤ i + j ∧
   (ok = true → plusS (k, l) (k', l') f = (mergeL f (l.drop i) (l'.drop j)).map fun o => (y, out ++ o)) ∧ (ok = false → plusS (k, l) (k', l') f = none)) (fun d => (l.length - d.1.2.2.2.2.2.2.1.toNat) + (l'.length - d.1.2.2.2.2.2.2.2.1.toNat)) ?_ ⟨0, 0, [], ok, rfl, Nat.zero_le _, Nat.zero_le _, Nat.zero_le _, (fun h => by rw [e2 h]; simp), e3⟩
 rintro d ⟨i, j, out, ok, rfl, hi, hj, ho, hm, hn⟩
 simp only [Int.toNat_natCast]
 have step : ∀ (i' j' : Nat) (c : Int) (t : Fm), mergeL f (l.drop i) (l'.drop j) = (mergeL f (l.drop i') (l'.drop j')).map (consP c t) → (∀ o, ok = o → o = true → plusS (k, l) (k', l') f = (mergeL f (l.drop i') (l'.drop j')).map fun o => (y, appP out c t ++ o)) := fun i' j' c t h o ho1 ho2 => by
  rw [hm (by rw [ho1]; exact ho2), h]
  cases mergeL f (l.drop i') (l'.drop j') <;> simp [consP_app]
 cases ok with
 | false =>
  refine .inr ⟨_, by simp only [cond_false]; rfl, _, rfl, (y, out), ?_, fun r hr => ?_⟩
  ·rw [hn rfl]; rfl
  ·rw [hn rfl] at hr; cases hr
 | true =>
  have hm := hm rfl
  have stop : mergeL f (l.drop i) (l'.drop j) = none → plusS (k, l) (k', l') f = none := fun h => by rw [hm, h]; rfl
  have step : ∀ (i' j' : Nat) (c : Int) (t : Fm), mergeL f (l.drop i) (l'.drop j) = (mergeL f (l.drop i') (l'.drop j')).map (consP c t) → plusS (k, l) (k', l') f = (mergeL f (l.drop i') (l'.drop j')).map fun o => (y, appP out c t ++ o) := fun i' j' c t h => step i' j' c t h true rfl rfl
  by_cases hi' : i < l.length
  ·have e1 : decide ((i : Int) < (l.length : Int)) = true := by apply decide_eq_true; omega
   have e3 : decide ((i : Int) = (l.length : Int)) = false := by apply decide_eq_false; omega
   have x1 : ixOK (i : Int) l.length = true := ixOK_iff.2 (by omega)
   have g1 : l.getD i ((0 : Int), (Fm.mk 0 0 [] [])) = l[i] := getD_in hi' _
   have b1 : l[i].2.big ≤ 2000000000000 := hba _ (List.getElem_mem hi')
   have c1 : i60 l[i].1 := hca _ (List.getElem_mem hi')
   by_cases hj' : j < l'.length
   ·have e4 : decide ((j : Int) = (l'.length : Int)) = false := by apply decide_eq_false; omega
    have x2 : ixOK (j : Int) l'.length = true := ixOK_iff.2 (by omega)
    have g2 : l'.getD j ((0 : Int), (Fm.mk 0 0 [] [])) = l'[j] := getD_in hj' _
    have hcmp : L_refCompare l[i].2 l'[j].2 = some (cmpF l[i].2 l'[j].2) := refCompare_val (by omega)
    rw [← ord_in hi' hj'] at hcmp
    simp only [e1, e3, e4, x1, x2, g1, g2, hcmp, cond_true, cond_false, Fm.eta_eq, Option.bind_some, Int.toNat_natCast]
    generalize ho' : ordI l l' i j = o
    rcases Int.lt_trichotomy o 0 with h | h | h
    ·have f1 : decide (o ≤ 0) = true := by apply decide_eq_true; omega
     have f2 : decide (o ≥ 0) = false := by apply decide_eq_false; omega
     simp only [f1, f2, cond_true, cond_false, Option.bind_some, Fm.mk_eta, wrapN (show i < 4611686018427387904 by omega)]
     refine .inl ⟨sumSt f k k' y l l' true (i + 1) j (appP out l[i].1 l[i].2), sum_tail (S := sumSt f k k' y l l' true (i + 1) j) (out := out) (by omega), ⟨i + 1, j, _, true, rfl, by omega, by omega, ?_, fun _ => step _ _ _ _ (merge_less f hi' (by omega)), fun h => by cases h⟩, ?_⟩
     ·have := appP_len out l[i].1 l[i].2; omega
     ·simp only [sumSt, Int.toNat_natCast]; omega
    ·have f1 : decide (o ≤ 0) = true := by apply decide_eq_true; omega
     have f2 : decide (o ≥ 0) = true := by apply decide_eq_true; omega
     have hz0 := times34_val (hcb _ (List.getElem_mem hj')) hf
     cases hz : timesS l'[j].1 f with
     | none =>
      rw [hz] at hz0
      simp only [f1, f2, x2, g2, hz0, small34_val, cond_true, cond_false, Option.bind_some, Fm.mk_eta, Int.toNat_natCast, wrapN (show i < 4611686018427387904 by omega), wrapN (show j < 4611686018427387904 by omega)]
      have hst := stop (same_none hi' hj' (by omega) (by rw [hz]; rfl))
      refine .inl ⟨sumSt f k k' y l l' false (i + 1) (j + 1) (appP out (IntKind.wrap .i64 (l[i].1 + 0)) l'[j].2), sum_tail (S := sumSt f k k' y l l' false (i + 1) (j + 1)) (out := out) (by omega), ⟨(i + 1), j + 1, _, false, rfl, by omega, by omega, ?_, (fun h => by cases h), fun _ => hst⟩, ?_⟩
      ·have := appP_len out (IntKind.wrap .i64 (l[i].1 + 0)) l'[j].2; omega
      ·simp only [sumSt, Int.toNat_natCast]; omega
     | some z =>
      rw [hz] at hz0
      obtain ⟨-, z1, z2⟩ := timesS_some hz
      unfold i60 at c1
      simp only [f1, f2, x2, g2, hz0, small34_val, cond_true, cond_false, Option.bind_some, Fm.mk_eta, Int.toNat_natCast, wrapN (show i < 4611686018427387904 by omega), wrapN (show j < 4611686018427387904 by omega), w64 (show -9223372036854775808 ≤ l[i].1 + z by omega) (by omega)]
      cases hw : wholeS (l[i].1 + z) with
      | none =>
       have hst := stop (same_none hi' hj' (by omega) (by rw [hz]; exact hw))
       refine .inl ⟨sumSt f k k' y l l' false (i + 1) (j + 1) (appP out (l[i].1 + z) l'[j].2), sum_tail (S := sumSt f k k' y l l' false (i + 1) (j + 1)) (out := out) (by omega), ⟨(i + 1), j + 1, _, false, rfl, by omega, by omega, ?_, (fun h => by cases h), fun _ => hst⟩, ?_⟩
       ·have := appP_len out (l[i].1 + z) l'[j].2; omega
       ·simp only [sumSt, Int.toNat_natCast]; omega
      | some c =>
       have hc := (wholeS_some hw).1
       subst hc
       refine .inl ⟨sumSt f k k' y l l' true (i + 1) (j + 1) (appP out (l[i].1 + z) l'[j].2), sum_tail (S := sumSt f k k' y l l' true (i + 1) (j + 1)) (out := out) (by omega), ⟨(i + 1), j + 1, _, true, rfl, by omega, by omega, ?_, fun _ => step _ _ _ _ (same_some hi' hj' (by omega) hz hw), fun h => by cases h⟩, ?_⟩
       ·have := appP_len out (l[i].1 + z) l'[j].2; omega
       ·simp only [sumSt, Int.toNat_natCast]; omega
    ·have f1 : decide (o ≤ 0) = false := by apply decide_eq_false; omega
     have f2 : decide (o ≥ 0) = true := by apply decide_eq_true; omega
     have hz0 := times34_val (hcb _ (List.getElem_mem hj')) hf
     cases hz : timesS l'[j].1 f with
     | none =>
      rw [hz] at hz0
      simp only [f1, f2, x2, g2, hz0, small34_val, cond_true, cond_false, Option.bind_some, Fm.mk_eta, Int.toNat_natCast, wrapN (show j < 4611686018427387904 by omega)]
      have hst := stop (more_none hj' (by omega) (by rw [hz]; rfl))
      refine .inl ⟨sumSt f k k' y l l' false i (j + 1) (appP out (IntKind.wrap .i64 (0 + 0)) l'[j].2), sum_tail (S := sumSt f k k' y l l' false i (j + 1)) (out := out) (by omega), ⟨i, j + 1, _, false, rfl, by omega, by omega, ?_, (fun h => by cases h), fun _ => hst⟩, ?_⟩
      ·have := appP_len out (IntKind.wrap .i64 (0 + 0)) l'[j].2; omega
      ·simp only [sumSt, Int.toNat_natCast]; omega
     | some z =>
      rw [hz] at hz0
      obtain ⟨-, z1, z2⟩ := timesS_some hz
      skip
      simp only [f1, f2, x2, g2, hz0, small34_val, cond_true, cond_false, Option.bind_some, Fm.mk_eta, Int.toNat_natCast, wrapN (show j < 4611686018427387904 by omega), w64 (show -9223372036854775808 ≤ 0 + z by omega) (by omega)]
      cases hw : wholeS (0 + z) with
      | none =>
       have hst := stop (more_none hj' (by omega) (by rw [hz]; rw [Int.zero_add] at hw; exact hw))
       refine .inl ⟨sumSt f k k' y l l' false i (j + 1) (appP out (0 + z) l'[j].2), sum_tail (S := sumSt f k k' y l l' false i (j + 1)) (out := out) (by omega), ⟨i, j + 1, _, false, rfl, by omega, by omega, ?_, (fun h => by cases h), fun _ => hst⟩, ?_⟩
       ·have := appP_len out (0 + z) l'[j].2; omega
       ·simp only [sumSt, Int.toNat_natCast]; omega
      | some c =>
       have hc := (wholeS_some hw).1
       subst hc
       refine .inl ⟨sumSt f k k' y l l' true i (j + 1) (appP out (0 + z) l'[j].2), sum_tail (S := sumSt f k k' y l l' true i (j + 1)) (out := out) (by omega), ⟨i, j + 1, _, true, rfl, by omega, by omega, ?_, fun _ => step _ _ _ _ (more_some hj' (by omega) hz (by rw [Int.zero_add] at hw ⊢; exact hw)), fun h => by cases h⟩, ?_⟩
       ·have := appP_len out (0 + z) l'[j].2; omega
       ·simp only [sumSt, Int.toNat_natCast]; omega
   ·have e2 : decide ((j : Int) < (l'.length : Int)) = false := by apply decide_eq_false; omega
    have e4 : decide ((j : Int) = (l'.length : Int)) = true := by apply decide_eq_true; omega
    have f1 : decide ((-1 : Int) ≤ 0) = true := rfl
    have f2 : decide ((-1 : Int) ≥ 0) = false := rfl
    simp only [e1, e2, e3, e4, f1, f2, x1, g1, cond_true, cond_false, Fm.eta_eq, Option.bind_some, Fm.mk_eta, Int.toNat_natCast, wrapN (show i < 4611686018427387904 by omega)]
    refine .inl ⟨sumSt f k k' y l l' true (i + 1) j (appP out l[i].1 l[i].2), sum_tail (S := sumSt f k k' y l l' true (i + 1) j) (out := out) (by omega), ⟨i + 1, j, _, true, rfl, by omega, by omega, ?_, fun _ => step _ _ _ _ (merge_less f hi' (by rw [ord_end' hi' (by omega)]; decide)), fun h => by cases h⟩, ?_⟩
    ·have := appP_len out l[i].1 l[i].2; omega
    ·simp only [sumSt, Int.toNat_natCast]; omega
  ·have e1 : decide ((i : Int) < (l.length : Int)) = false := by apply decide_eq_false; omega
   have e3 : decide ((i : Int) = (l.length : Int)) = true := by apply decide_eq_true; omega
   by_cases hj' : j < l'.length
   ·have e2 : decide ((j : Int) < (l'.length : Int)) = true := by apply decide_eq_true; omega
    have x2 : ixOK (j : Int) l'.length = true := ixOK_iff.2 (by omega)
    have g2 : l'.getD j ((0 : Int), (Fm.mk 0 0 [] [])) = l'[j] := getD_in hj' _
    have ho' : 0 < ordI l l' i j := by rw [ord_end (by omega)]; decide
    have f1 : decide ((1 : Int) ≤ 0) = false := rfl
    have f2 : decide ((1 : Int) ≥ 0) = true := rfl
    have hz0 := times34_val (hcb _ (List.getElem_mem hj')) hf
    cases hz : timesS l'[j].1 f with
    | none =>
     rw [hz] at hz0
     simp only [e1, e2, e3, f1, f2, Fm.eta_eq, x2, g2, hz0, small34_val, cond_true, cond_false, Option.bind_some, Fm.mk_eta, Int.toNat_natCast, wrapN (show j < 4611686018427387904 by omega)]
     have hst := stop (more_none hj' ho' (by rw [hz]; rfl))
     refine .inl ⟨sumSt f k k' y l l' false i (j + 1) (appP out (IntKind.wrap .i64 (0 + 0)) l'[j].2), sum_tail (S := sumSt f k k' y l l' false i (j + 1)) (out := out) (by omega), ⟨i, j + 1, _, false, rfl, by omega, by omega, ?_, (fun h => by cases h), fun _ => hst⟩, ?_⟩
     ·have := appP_len out (IntKind.wrap .i64 (0 + 0)) l'[j].2; omega
     ·simp only [sumSt, Int.toNat_natCast]; omega
    | some z =>
     rw [hz] at hz0
     obtain ⟨-, z1, z2⟩ := timesS_some hz
     skip
     simp only [e1, e2, e3, f1, f2, Fm.eta_eq, x2, g2, hz0, small34_val, cond_true, cond_false, Option.bind_some, Fm.mk_eta, Int.toNat_natCast, wrapN (show j < 4611686018427387904 by omega), w64 (show -9223372036854775808 ≤ 0 + z by omega) (by omega)]
     cases hw : wholeS (0 + z) with
     | none =>
      have hst := stop (more_none hj' ho' (by rw [hz]; rw [Int.zero_add] at hw; exact hw))
      refine .inl ⟨sumSt f k k' y l l' false i (j + 1) (appP out (0 + z) l'[j].2), sum_tail (S := sumSt f k k' y l l' false i (j + 1)) (out := out) (by omega), ⟨i, j + 1, _, false, rfl, by omega, by omega, ?_, (fun h => by cases h), fun _ => hst⟩, ?_⟩
      ·have := appP_len out (0 + z) l'[j].2; omega
      ·simp only [sumSt, Int.toNat_natCast]; omega
     | some c =>
      have hc := (wholeS_some hw).1
      subst hc
      refine .inl ⟨sumSt f k k' y l l' true i (j + 1) (appP out (0 + z) l'[j].2), sum_tail (S := sumSt f k k' y l l' true i (j + 1)) (out := out) (by omega), ⟨i, j + 1, _, true, rfl, by omega, by omega, ?_, fun _ => step _ _ _ _ (more_some hj' ho' hz (by rw [Int.zero_add] at hw ⊢; exact hw)), fun h => by cases h⟩, ?_⟩
      ·have := appP_len out (0 + z) l'[j].2; omega
      ·simp only [sumSt, Int.toNat_natCast]; omega
   ·have e2 : decide ((j : Int) < (l'.length : Int)) = false := by apply decide_eq_false; omega
    have hend : plusS (k, l) (k', l') f = some (y, out) := by
     rw [hm, List.drop_of_length_le (by omega), List.drop_of_length_le (by omega), mergeL]
     simp
    refine .inr ⟨_, by simp only [e1, e2, cond_true, cond_false]; rfl, _, rfl, (y, out), ?_, fun r hr => ?_⟩
    ·rw [hend]; rfl
    ·rw [hend] at hr; cases hr; rfl
end Go.Ab

set_option maxRecDepth 100000
namespace Go.Ab
open Go Go.RowKit Go.Proofs
theorem within_val (n : Int) : G_within n = some (wholeS n).isSome := small34_val n
def gdP (l : List (Int × Fm)) (i : Nat) : Int × Fm := l.getD i ((0 : Int), (Fm.mk 0 0 [] []))
def goodAt (l : List (Int × Fm)) (i : Nat) : Bool := !decide ((gdP l i).1 = 0) && ((wholeS (gdP l i).1).isSome && (validF (gdP l i).2 && (decide (i = 0) || decide (cmpF (gdP l (i - 1)).2 (gdP l i).2 < 0))))
def validT (l : List (Int × Fm)) : Bool := (List.range l.length).all (goodAt l)
def validSm (s : Int × List (Int × Fm)) : Bool := validT s.2 && (wholeS s.1).isSome
theorem validT_iff {l : List (Int × Fm)} : validT l = true ↔ ∀ i, i < l.length → goodAt l i = true := by
 unfold validT; rw [List.all_eq_true]; simp
theorem validT_bad {l : List (Int × Fm)} {i : Nat} (h : i < l.length) (hb : goodAt l i = false) : validT l = false := by
 cases hv : validT l with
 | false => rfl
 | true => rw [validT_iff.1 hv i h] at hb; cases hb
structure Small (s : Int × List (Int × Fm)) : Prop where
 big : ∀ p ∈ s.2, p.2.big ≤ 2000000000000
 len : s.2.length ≤ 500000000000
theorem gdP_in {l : List (Int × Fm)} {i : Nat} (h : i < l.length) : gdP l i = l[i] := getD_in h _
theorem wm1 {i : Nat} (h : i < 4611686018427387904) : IntKind.wrap .i64 ((i : Int) - 1) = (i : Int) - 1 := w64 (by omega) (by omega)
theorem lvalid_val {s : Int × List (Int × Fm)} (hs : Small s) : G_lvalid s = some (validSm s) := by
 obtain ⟨k, l⟩ := s
 have hb := hs.big
 have hl := hs.len
 simp only at hb hl
 unfold G_lvalid validSm
 simp only [within_val]
 refine bind_loop (fun d => ∃ i : Nat, d = (((k, l, ()), l, (l.length : Int), (i : Int), ()), ()) ∧ i ≤ l.length ∧ ∀ j, j < i → goodAt l j = true) (fun d => l.length - d.1.2.2.2.1.toNat) ?_ ⟨0, rfl, Nat.zero_le _, fun j h => by omega⟩
 rintro d ⟨i, rfl, hi, hg⟩
 simp only [Int.toNat_natCast]
 by_cases hi' : i < l.length
 ·have e1 : decide ((i : Int) < (l.length : Int)) = true := by apply decide_eq_true; omega
  have x1 : ixOK (i : Int) l.length = true := ixOK_iff.2 (by omega)
  have hbi : (gdP l i).2.big ≤ 2000000000000 := by rw [gdP_in hi']; exact hb _ (List.getElem_mem hi')
  have g1 : l.getD i ((0 : Int), (Fm.mk 0 0 [] [])) = gdP l i := rfl
  have hrv : G_rvalid (gdP l i).2 = some (validF (gdP l i).2) := rvalid_val (by omega)
  simp only [e1, x1, g1, cond_true, cond_false, Fm.eta_eq, Option.bind_some, Int.toNat_natCast, hrv, wm1 (show i < 4611686018427387904 by omega), wrapN (show i < 4611686018427387904 by omega)]
  by_cases hc : (gdP l i).1 = 0
  ·have hbad : goodAt l i = false := by simp [goodAt, hc]
   simp only [hc, decide_true, Bool.not_true, cond_true, cond_false, Option.bind_some, Bool.false_and, Bool.not_false, Bool.or_true]
   exact .inr ⟨_, rfl, by rw [validT_bad hi' hbad]; rfl⟩
  ·cases hw : (wholeS (gdP l i).1).isSome with
   | false =>
    have hbad : goodAt l i = false := by simp [goodAt, hw]
    simp only [hc, hw, decide_false, Bool.not_true, cond_true, cond_false, Option.bind_some, Bool.false_and, Bool.not_false, Bool.or_true]
    exact .inr ⟨_, rfl, by rw [validT_bad hi' hbad]; rfl⟩
   | true =>
    cases hv : validF (gdP l i).2 with
    | false =>
     have hbad : goodAt l i = false := by simp [goodAt, hv]
     simp only [hc, hw, hv, decide_false, Bool.not_true, cond_true, cond_false, Option.bind_some, Bool.false_and, Bool.not_false, Bool.or_true]
     exact .inr ⟨_, rfl, by rw [validT_bad hi' hbad]; rfl⟩
    | true =>
     by_cases h0 : i = 0
     ·subst h0
      have hgood : goodAt l 0 = true := by simp [goodAt, hc, hw, hv]
      have e0 : decide (((0 : Nat) : Int) > 0) = false := rfl
      simp only [hc, hw, hv, e0, decide_false, Bool.not_true, cond_true, cond_false, Option.bind_some, Bool.and_false, Bool.not_false, Bool.or_true]
      refine .inl ⟨_, rfl, ⟨1, rfl, by omega, fun j hj => ?_⟩, ?_⟩
      ·obtain rfl : j = 0 := by omega
       exact hgood
      ·simp only [Int.toNat_natCast]; omega
     ·have e0 : decide ((i : Int) > 0) = true := by apply decide_eq_true; omega
      have x0 : ixOK ((i : Int) - 1) l.length = true := ixOK_iff.2 (by omega)
      have g0 : l.getD (((i : Int) - 1).toNat) ((0 : Int), (Fm.mk 0 0 [] [])) = gdP l (i - 1) := by
       rw [show ((i : Int) - 1).toNat = i - 1 by omega]; rfl
      have hcmp : L_compare (gdP l (i - 1)).2 (gdP l i).2 = some (cmpF (gdP l (i - 1)).2 (gdP l i).2) := by
       refine compare_val ?_
       rw [gdP_in (show i - 1 < l.length by omega)]
       have := hb _ (List.getElem_mem (show i - 1 < l.length by omega)); omega
      simp only [hc, hw, hv, e0, x0, g0, hcmp, decide_false, Bool.not_true, cond_true, cond_false, Option.bind_some, Bool.and_true, Bool.not_false, Bool.true_or]
      by_cases hlt : cmpF (gdP l (i - 1)).2 (gdP l i).2 < 0
      ·have hgood : goodAt l i = true := by simp [goodAt, hc, hw, hv, hlt]
       have e9 : decide (cmpF (gdP l (i - 1)).2 (gdP l i).2 ≥ 0) = false := by apply decide_eq_false; omega
       simp only [e9, cond_false]
       refine .inl ⟨_, rfl, ⟨i + 1, rfl, by omega, fun j hj => ?_⟩, ?_⟩
       ·by_cases hji : j = i
        ·subst hji; exact hgood
        ·exact hg j (by omega)
       ·simp only [Int.toNat_natCast]; omega
      ·have hbad : goodAt l i = false := by simp [goodAt, h0, hlt]
       have e9 : decide (cmpF (gdP l (i - 1)).2 (gdP l i).2 ≥ 0) = true := by apply decide_eq_true; omega
       simp only [e9, cond_true]
       exact .inr ⟨_, rfl, by rw [validT_bad hi' hbad]; rfl⟩
 ·have e1 : decide ((i : Int) < (l.length : Int)) = false := by apply decide_eq_false; omega
  refine .inr ⟨_, by simp only [e1, cond_false]; rfl, ?_⟩
  rw [validT_iff.2 fun j hj => hg j (by omega)]
  rfl
theorem valid34_val {s : Int × List (Int × Fm)} (hs : Small s) : G_valid34 s = some (validSm s) := by
 obtain ⟨k, l⟩ := s
 have hb := hs.big
 have hl := hs.len
 simp only at hb hl
 unfold G_valid34 validSm
 simp only [small34_val, Option.bind_some]
 cases hk : (wholeS k).isSome with
 | false => simp
 | true =>
  simp only [Bool.not_true, cond_false, Bool.and_true]
  refine bind_loop (fun d => ∃ i : Nat, d = (((k, l, ()), (i : Int), ()), ()) ∧ i ≤ l.length ∧ ∀ j, j < i → goodAt l j = true) (fun d => l.length - d.1.2.1.toNat) ?_ ⟨0, rfl, Nat.zero_le _, fun j h => by omega⟩
  rintro d ⟨i, rfl, hi, hg⟩
  simp only [Int.toNat_natCast]
  by_cases hi' : i < l.length
  ·have e1 : decide ((i : Int) < (l.length : Int)) = true := by apply decide_eq_true; omega
   have x1 : ixOK (i : Int) l.length = true := ixOK_iff.2 (by omega)
   have hbi : (gdP l i).2.big ≤ 2000000000000 := by rw [gdP_in hi']; exact hb _ (List.getElem_mem hi')
   have g1 : l.getD i ((0 : Int), (Fm.mk 0 0 [] [])) = gdP l i := rfl
   have hrv : G_refValid (gdP l i).2 = some (validF (gdP l i).2) := refValid_val (by omega)
   simp only [e1, x1, g1, cond_true, cond_false, Fm.eta_eq, Option.bind_some, Int.toNat_natCast, hrv, wm1 (show i < 4611686018427387904 by omega), wrapN (show i < 4611686018427387904 by omega)]
   by_cases hc : (gdP l i).1 = 0
   ·have hbad : goodAt l i = false := by simp [goodAt, hc]
    simp only [hc, decide_true, Bool.not_true, cond_true, cond_false, Option.bind_some, Bool.false_and, Bool.not_false, Bool.or_true]
    exact .inr ⟨_, rfl, by rw [validT_bad hi' hbad]⟩
   ·cases hw : (wholeS (gdP l i).1).isSome with
    | false =>
     have hbad : goodAt l i = false := by simp [goodAt, hw]
     simp only [hc, hw, decide_false, Bool.not_true, cond_true, cond_false, Option.bind_some, Bool.false_and, Bool.not_false, Bool.or_true]
     exact .inr ⟨_, rfl, by rw [validT_bad hi' hbad]⟩
    | true =>
     cases hv : validF (gdP l i).2 with
     | false =>
      have hbad : goodAt l i = false := by simp [goodAt, hv]
      simp only [hc, hw, hv, decide_false, Bool.not_true, cond_true, cond_false, Option.bind_some, Bool.false_and, Bool.not_false, Bool.or_true]
      exact .inr ⟨_, rfl, by rw [validT_bad hi' hbad]⟩
     | true =>
      by_cases h0 : i = 0
      ·subst h0
       have hgood : goodAt l 0 = true := by simp [goodAt, hc, hw, hv]
       have e0 : decide (((0 : Nat) : Int) > 0) = false := rfl
       simp only [hc, hw, hv, e0, decide_false, Bool.not_true, cond_true, cond_false, Option.bind_some, Bool.and_false, Bool.not_false, Bool.or_true]
       refine .inl ⟨_, rfl, ⟨1, rfl, by omega, fun j hj => ?_⟩, ?_⟩
       ·obtain rfl : j = 0 := by omega
        exact hgood
       ·simp only [Int.toNat_natCast]; omega
      ·have e0 : decide ((i : Int) > 0) = true := by apply decide_eq_true; omega
       have x0 : ixOK ((i : Int) - 1) l.length = true := ixOK_iff.2 (by omega)
       have g0 : l.getD (((i : Int) - 1).toNat) ((0 : Int), (Fm.mk 0 0 [] [])) = gdP l (i - 1) := by
        rw [show ((i : Int) - 1).toNat = i - 1 by omega]; rfl
       have hcmp : L_refCompare (gdP l (i - 1)).2 (gdP l i).2 = some (cmpF (gdP l (i - 1)).2 (gdP l i).2) := by
        refine refCompare_val ?_
        rw [gdP_in (show i - 1 < l.length by omega)]
        have := hb _ (List.getElem_mem (show i - 1 < l.length by omega)); omega
       simp only [hc, hw, hv, e0, x0, g0, hcmp, decide_false, Bool.not_true, cond_true, cond_false, Option.bind_some, Bool.and_true, Bool.not_false, Bool.true_or]
       by_cases hlt : cmpF (gdP l (i - 1)).2 (gdP l i).2 < 0
       ·have hgood : goodAt l i = true := by simp [goodAt, hc, hw, hv, hlt]
        have e9 : decide (cmpF (gdP l (i - 1)).2 (gdP l i).2 ≥ 0) = false := by apply decide_eq_false; omega
        simp only [e9, cond_false]
        refine .inl ⟨_, rfl, ⟨i + 1, rfl, by omega, fun j hj => ?_⟩, ?_⟩
        ·by_cases hji : j = i
         ·subst hji; exact hgood
         ·exact hg j (by omega)
        ·simp only [Int.toNat_natCast]; omega
       ·have hbad : goodAt l i = false := by simp [goodAt, h0, hlt]
        have e9 : decide (cmpF (gdP l (i - 1)).2 (gdP l i).2 ≥ 0) = true := by apply decide_eq_true; omega
        simp only [e9, cond_true]
        exact .inr ⟨_, rfl, by rw [validT_bad hi' hbad]⟩
  ·have e1 : decide ((i : Int) < (l.length : Int)) = false := by apply decide_eq_false; omega
   refine .inr ⟨_, by simp only [e1, cond_false]; rfl, ?_⟩
   rw [validT_iff.2 fun j hj => hg j (by omega)]
end Go.Ab

set_option maxRecDepth 100000
namespace Go.Ab
open Go Go.RowKit Go.Proofs
theorem requalQ_val {f g : Fm} (hb : f.big ≤ 4611686018427387000) : G_requalQ f g = some (decide (cmpF f g = 0)) := by
 unfold G_requalQ
 simp only [Fm.eta_eq, compare_val hb, Option.bind_some]
def ded (l : List Fm) : Nat → List Fm
 | 0 => []
 | n + 1 => if 1 ≤ n ∧ cmpF (atF' l n) (atF' l (n - 1)) = 0 then ded l n else ded l n ++ [atF' l n]
theorem ded_all (l : List Fm) (n : Nat) (hn : n ≤ l.length) (h : ∀ j, 1 ≤ j → j < n → ¬ cmpF (atF' l j) (atF' l (j - 1)) = 0) : ded l n = l.take n := by
 induction n with
 | zero => rfl
 | succ n ih =>
  unfold ded
  rw [ih (by omega) (fun j a b => h j a (by omega)), List.take_succ_eq_append_getElem (show n < l.length by omega)]
  have e : atF' l n = l[n] := getD_in (by omega) _
  by_cases h1 : 1 ≤ n
  ·rw [if_neg (fun hh => h n h1 (by omega) hh.2), e]
  ·rw [if_neg (fun hh => h1 hh.1), e]
theorem ded_props {l : List Fm} (hs : Srt 0 l.length l) : ∀ n, n ≤ l.length → (∀ f ∈ ded l n, ∃ i, i < n ∧ f = atF' l i) ∧ (∀ i, i < n → ∃ g ∈ ded l n, eqF (atF' l i) g) ∧ (ded l n).Pairwise ltF
 | 0, _ => ⟨by simp [ded], fun i h => by omega, by simp [ded]⟩
 | n + 1, hn => by
  obtain ⟨h1, h2, h3⟩ := ded_props hs n (by omega)
  unfold ded
  by_cases hc : 1 ≤ n ∧ cmpF (atF' l n) (atF' l (n - 1)) = 0
  ·rw [if_pos hc]
   refine ⟨fun f hf => ?_, fun i hi => ?_, h3⟩
   ·obtain ⟨i, a, b⟩ := h1 f hf; exact ⟨i, by omega, b⟩
   ·by_cases hin : i = n
    ·subst hin
     obtain ⟨g, a, b⟩ := h2 (i - 1) (by omega)
     exact ⟨g, a, eqF.trans hc.2 b⟩
    ·exact h2 i (by omega)
  ·rw [if_neg hc]
   refine ⟨fun f hf => ?_, fun i hi => ?_, ?_⟩
   ·rcases List.mem_append.1 hf with hf | hf
    ·obtain ⟨i, a, b⟩ := h1 f hf; exact ⟨i, by omega, b⟩
    ·simp at hf; exact ⟨n, by omega, hf⟩
   ·by_cases hin : i = n
    ·subst hin; exact ⟨atF' l i, by simp, cmpF_self _⟩
    ·obtain ⟨g, a, b⟩ := h2 i (by omega); exact ⟨g, by simp [a], b⟩
   ·rw [List.pairwise_append]
    refine ⟨h3, by simp, fun f hf g hg => ?_⟩
    simp at hg
    subst hg
    obtain ⟨i, a, rfl⟩ := h1 f hf
    have hn1 : 1 ≤ n := by omega
    have hne : ¬ cmpF (atF' l n) (atF' l (n - 1)) = 0 := fun h => hc ⟨hn1, h⟩
    have hle : le (atF' l (n - 1)) (atF' l n) := hs _ _ (Nat.zero_le _) (by omega) (by omega)
    have hlt : ltF (atF' l (n - 1)) (atF' l n) := by
     unfold le at hle
     unfold ltF
     rw [cmpF_neg (atF' l (n - 1)) (atF' l n)] at hne
     omega
    by_cases hi : i = n - 1
    ·subst hi; exact hlt
    ·have hl2 : le (atF' l i) (atF' l (n - 1)) := hs _ _ (Nat.zero_le _) (by omega) (by omega)
     exact (cmpF_tri _ _ _).2.2.1 hl2 hlt
theorem bind_eq {A B : Type} {o : Option A} {F : A → Option B} {v : A} {u : B} (h : o = some v) (k : F v = some u) : Option.bind o F = some u := by rw [h]; exact k
theorem at_drop {l m : List Fm} {p i : Nat} (h : m.drop p = l.drop p) (hi : p ≤ i) : atF' m i = atF' l i := by
 have h1 : (m.drop p)[i - p]? = (l.drop p)[i - p]? := by rw [h]
 rw [List.getElem?_drop, List.getElem?_drop, show p + (i - p) = i by omega] at h1
 unfold atF'
 rw [List.getD_eq_getElem?_getD, List.getD_eq_getElem?_getD, h1]
theorem compact_val {l : List Fm} (hln : l.length < 1000000000000) (hbig : bigAll l) : G_compact l = some ((), (ded l l.length, ())) := by
 unfold G_compact
 by_cases h2 : l.length < 2
 ·have e : decide ((l.length : Int) < 2) = true := by apply decide_eq_true; omega
  rw [e, cond_true, ded_all l l.length (Nat.le_refl _) (fun j a b => absurd b (by omega)), List.take_length]
 ·have e : decide ((l.length : Int) < 2) = false := by apply decide_eq_false; omega
  rw [e, cond_false]
  refine bind_loop (fun d => ∃ k : Nat, d = (((), (), (k : Int), ()), (l, ())) ∧ 1 ≤ k ∧ k ≤ l.length ∧ ∀ j, 1 ≤ j → j < k → ¬ cmpF (atF' l j) (atF' l (j - 1)) = 0) (fun d => l.length - d.1.2.2.1.toNat) ?_ ⟨1, rfl, Nat.le_refl _, by omega, fun j a b => by omega⟩
  rintro d ⟨k, rfl, hk1, hk, hd⟩
  simp only [Int.toNat_natCast]
  by_cases hk' : k < l.length
  ·have e1 : decide ((k : Int) < (l.length : Int)) = true := by apply decide_eq_true; omega
   have x1 : ixOK (k : Int) l.length = true := ixOK_iff.2 (by omega)
   have x2 : ixOK ((k - 1 : Nat) : Int) l.length = true := ixOK_iff.2 (by omega)
   have d1 : decide (k < l.length) = true := by apply decide_eq_true; omega
   have d2 : decide (k - 1 < l.length) = true := by apply decide_eq_true; omega
   have hcmp : G_requalQ (l.getD k (Fm.mk 0 0 [] [])) (l.getD (k - 1) (Fm.mk 0 0 [] [])) = some (decide (cmpF (atF' l k) (atF' l (k - 1)) = 0)) := requalQ_val (bigAll_at hbig (by omega))
   simp only [e1, x1, x2, d1, d2, hcmp, cond_true, cond_false, Fm.eta_eq, Option.bind_some, Int.toNat_natCast, wrapS (show k < 4611686018427387904 by omega) hk1, wrapN (show k < 4611686018427387904 by omega)]
   by_cases hc : cmpF (atF' l k) (atF' l (k - 1)) = 0
   ·simp only [hc, decide_true, cond_true]
    have s1 : slOK (k : Int) (l.length : Int) l.length = true := slOK_iff.2 (by omega)
    have hb2 : ∀ (m : List Fm), m.length = l.length → ∀ i, k ≤ i → i < l.length → ∀ p, m.drop p = l.drop p → p ≤ i → (atF' m i).big ≤ 4611686018427387000 := fun m hm i _ hi p hp hpi => by
     rw [at_drop hp hpi]; exact bigAll_at hbig hi
    simp only [s1, cond_true]
    refine .inr ⟨.done ((), (ded l l.length, ())), bind_eq (v := .done (.done (.done ((), (ded l l.length, ()))))) (bind_loop (fun d => ∃ (q j : Nat) (m : List Fm), d = (((), (), (q : Int), (k, l.length - k), (j : Int), ()), (m, ())) ∧ 1 ≤ j ∧ k + j ≤ l.length ∧ m.length = l.length ∧ q ≤ k + j - 1 ∧ m.drop (k + j - 1) = l.drop (k + j - 1) ∧ m.take q = ded l (k + j)) (fun d => l.length - d.1.2.2.2.2.1.toNat) ?_ ⟨k, 1, l, rfl, Nat.le_refl _, by omega, rfl, by omega, rfl, ?_⟩) rfl, rfl⟩
    ·rintro d ⟨q, j, m, rfl, hj1, hj, hm, hq, hdr, htk⟩
     simp only [Int.toNat_natCast]
     by_cases hj' : k + j < l.length
     ·have f1 : decide ((j : Int) < ((l.length - k : Nat) : Int)) = true := by apply decide_eq_true; omega
      have f2 : ixOK (j : Int) (l.length - k) = true := ixOK_iff.2 (by omega)
      have f3 : decide (k + j < m.length) = true := by apply decide_eq_true; omega
      have f4 : ixOK ((j - 1 : Nat) : Int) (l.length - k) = true := ixOK_iff.2 (by omega)
      have f5 : decide (k + (j - 1) < m.length) = true := by apply decide_eq_true; omega
      have f6 : ixOK (q : Int) m.length = true := ixOK_iff.2 (by omega)
      have f7 : decide (q < m.length) = true := by apply decide_eq_true; omega
      have a1 : atF' m (k + j) = atF' l (k + j) := at_drop hdr (by omega)
      have a2 : atF' m (k + (j - 1)) = atF' l (k + j - 1) := by rw [show k + (j - 1) = k + j - 1 by omega]; exact at_drop hdr (Nat.le_refl _)
      have hcmp2 : G_requalQ (m.getD (k + j) (Fm.mk 0 0 [] [])) (m.getD (k + (j - 1)) (Fm.mk 0 0 [] [])) = some (decide (cmpF (atF' l (k + j)) (atF' l (k + j - 1)) = 0)) := by
       rw [← a1, ← a2]
       exact requalQ_val (by rw [show m.getD (k + j) (Fm.mk 0 0 [] []) = atF' m (k + j) from rfl, a1]; exact bigAll_at hbig hj')
      have g1 : m.getD (k + j) (Fm.mk 0 0 [] []) = atF' l (k + j) := a1
      simp only [f1, f2, f3, f4, f5, f6, f7, hcmp2, cond_true, cond_false, Fm.eta_eq, Option.bind_some, Int.toNat_natCast, wrapS (show j < 4611686018427387904 by omega) hj1, wrapN (show j < 4611686018427387904 by omega), wrapN (show q < 4611686018427387904 by omega)]
      have hdr' : m.drop (k + j) = l.drop (k + j) := by
       have : (m.drop (k + j - 1)).drop 1 = (l.drop (k + j - 1)).drop 1 := by rw [hdr]
       rwa [List.drop_drop, List.drop_drop, show k + j - 1 + 1 = k + j by omega] at this
      by_cases hc2 : cmpF (atF' l (k + j)) (atF' l (k + j - 1)) = 0
      ·simp only [hc2, decide_true, Bool.not_true, cond_false, Option.bind_some, wrapN (show j < 4611686018427387904 by omega)]
       refine .inl ⟨_, rfl, ⟨q, j + 1, m, rfl, by omega, by omega, hm, by omega, by rw [show k + (j + 1) - 1 = k + j by omega]; exact hdr', ?_⟩, ?_⟩
       ·rw [show k + (j + 1) = (k + j) + 1 by omega, ded, if_pos ⟨by omega, hc2⟩]; exact htk
       ·simp only [Int.toNat_natCast]; omega
      ·simp only [hc2, decide_false, Bool.not_false, cond_true, Option.bind_some, wrapN (show j < 4611686018427387904 by omega)]
       refine .inl ⟨_, rfl, ⟨q + 1, j + 1, _, rfl, by omega, by omega, by rw [List.length_set]; exact hm, by omega, ?_, ?_⟩, ?_⟩
       ·rw [show k + (j + 1) - 1 = k + j by omega, List.drop_set_of_lt (by omega)]; exact hdr'
       ·rw [g1, show k + (j + 1) = (k + j) + 1 by omega, ded, if_neg (fun h => hc2 h.2), ← htk, List.take_succ_eq_append_getElem (by rw [List.length_set]; omega), List.take_set_of_le (Nat.le_refl _)]
        simp
       ·simp only [Int.toNat_natCast]; omega
     ·have f1 : decide ((j : Int) < ((l.length - k : Nat) : Int)) = false := by apply decide_eq_false; omega
      have hkj : k + j = l.length := by omega
      have s2 : slOK (q : Int) (m.length : Int) m.length = true := slOK_iff.2 (by omega)
      have s3 : decide (q + (m.length - q) ≤ m.length) = true := by apply decide_eq_true; omega
      have hlen3 : (m.take q ++ (List.replicate (m.length - q) (Fm.mk 0 0 [] []) ++ m.drop (q + (m.length - q)))).length = m.length := by simp; omega
      have s4 : hiOK (q : Int) m.length = true := hiOK_iff.2 (by omega)
      refine .inr ⟨_, by simp only [f1, cond_false]; rfl, ?_⟩
      simp only [s2, s3, s4, hlen3, cond_true, Int.toNat_natCast]
      rw [List.take_append_of_le_length (by simp; omega), List.take_take, Nat.min_self, htk, hkj]
    ·show l.take k = ded l (k + 1)
     rw [ded, if_pos ⟨hk1, hc⟩, ded_all l k (by omega) hd]
   ·simp only [hc, decide_false, cond_false, Option.bind_some, wrapN (show k < 4611686018427387904 by omega)]
    refine .inl ⟨_, rfl, ⟨k + 1, rfl, by omega, by omega, fun j a b => ?_⟩, ?_⟩
    ·by_cases hj : j = k
     ·subst hj; exact hc
     ·exact hd j a (by omega)
    ·simp only [Int.toNat_natCast]; omega
  ·have e1 : decide ((k : Int) < (l.length : Int)) = false := by apply decide_eq_false; omega
   refine .inr ⟨_, by simp only [e1, cond_false]; rfl, ?_⟩
   rw [ded_all l l.length (Nat.le_refl _) (fun j a b => hd j a (by omega)), List.take_length]
end Go.Ab

set_option maxRecDepth 100000
namespace Go.Ab
open Go Go.RowKit Go.Proofs
theorem own_loop {f : Fm} {N : Prop} (G : Fm → Option Fm) (hb : f.big ≤ 2000000000000) (hG : ∀ g ∈ f.l, Up N (G g) g) {A : Type} (F : (Unit × Unit × Unit × Unit) × ((Int × Int × (List UInt8) × (List Fm) × Unit) × (Int × Int × (List UInt8) × Unit × Unit) × (List Fm) × Unit) → Option A) (v : A)
  (hF : F (((), (), (), ()), ((f.k, f.n, f.t, f.l, ()), (0, 0, [], (), ()), f.l, ())) = some v) :
  Up N (Option.bind (α := (Unit × Unit × Unit × Unit) × ((Int × Int × (List UInt8) × (List Fm) × Unit) × (Int × Int × (List UInt8) × Unit × Unit) × (List Fm) × Unit))
 (loopM (L := (Unit × Unit × Unit × Int × Unit) × ((Int × Int × (List UInt8) × (List Fm) × Unit) × (Int × Int × (List UInt8) × Unit × Unit) × (List Fm) × Unit)) (R := (Unit × Unit × Unit × Unit) × ((Int × Int × (List UInt8) × (List Fm) × Unit) × (Int × Int × (List UInt8) × Unit × Unit) × (List Fm) × Unit)) (fun d1 => (
 let c2 := d1.2.1.1
 let c3 := d1.2.1.2.1
 let c4 := d1.2.1.2.2.1
 let c5 := d1.2.1.2.2.2.1
 let l6 := d1.2.2.2.1
 let v4_7 := d1.1.2.2.2.1
 cond (decide (v4_7 < (c5.length : Int))) (cond (ixOK v4_7 c5.length) (Option.bind (α := Fm) (G (Fm.eta (c5.getD v4_7.toNat (Fm.mk 0 0 [] [])))) fun r8 => (
 cond (decide ((l6.length + ([(Fm.eta r8)]).length) * 56 ≤ 140737488355328)) (some (Step.next (((), (), (), IntKind.wrap .i64 (v4_7 + 1), ()), ((c2, c3, c4, c5, ()), (d1.2.2.1.1, d1.2.2.1.2.1, d1.2.2.1.2.2.1, (), ()), l6 ++ ([(Fm.eta r8)]), ())))) none)) none) (some (Step.done (((), (), (), ()), ((c2, c3, c4, c5, ()), (d1.2.2.1.1, d1.2.2.1.2.1, d1.2.2.1.2.2.1, (), ()), l6, ())))))) (((), (), (), 0, ()), ((f.k, f.n, f.t, f.l, ()), (0, 0, [], (), ()), ([] : List Fm), ()))) F) v := by
 have hl := length_le_big f.l
 have hkb := big_kids f
 refine loop_ix (fun i => (((), (), (), (i : Int), ()), ((f.k, f.n, f.t, f.l, ()), (0, 0, [], (), ()), f.l.take i, ()))) (fun i => v) f.l.length (fun i hi => ?_) ?_
 ·have e1 : decide ((i : Int) < (f.l.length : Int)) = true := by simp [hi]
  have e2 : ixOK (i : Int) f.l.length = true := ixOK_iff.2 (by omega)
  simp only [e1, e2, cond_true, Int.toNat_natCast, getD_in hi, Fm.eta_eq, wrapN (show i < 4611686018427387904 by omega)]
  rcases hG f.l[i] (List.getElem_mem hi) with h | ⟨h, hn⟩
  ·rw [h]
   have e3 : decide (((f.l.take i).length + [f.l[i]].length) * 56 ≤ 140737488355328) = true := by
    apply decide_eq_true
    simp only [List.length_take, List.length_cons, List.length_nil]
    omega
   simp only [Option.bind_some, Fm.eta_eq, e3, cond_true]
   refine .inl ⟨?_, trivial⟩
   rw [List.take_succ_eq_append_getElem hi]
  ·rw [h]; exact .inr (.inr ⟨rfl, hn⟩)
 ·refine ⟨(((), (), (), ()), ((f.k, f.n, f.t, f.l, ()), (0, 0, [], (), ()), f.l, ())), by simp, .of hF⟩
theorem own_up : ∀ k, ∀ f : Fm, f.big ≤ 2000000000000 → Up (k < f.big) (G_own k f) f
 | 0 => fun f hb => .inr ⟨by unfold G_own; rfl, by have := big_pos f; omega⟩
 | k + 1 => fun f hb => by
  have hkb := big_kids f
  unfold G_own
  refine own_loop (G_own k) hb (fun g hg => ?_) _ f (by show some (Fm.eta f) = _; rw [Fm.eta_eq])
  have := big_mem hg
  exact (own_up k g (by omega)).mono fun h => by omega
theorem own_val {f : Fm} (hb : f.big ≤ 2000000000000) : L_own f = some f := limF_up (b := f.big) fun k => own_up k f hb
end Go.Ab

set_option maxRecDepth 100000
namespace Go.Ab
open Go Go.RowKit Go.Proofs
structure SortOf (l r : List Fm) : Prop where
 sub : ∀ f ∈ r, f ∈ l
 all : ∀ f ∈ l, ∃ g ∈ r, eqF f g
 ord : r.Pairwise ltF
theorem atF_in {l : List Fm} {i : Nat} (h : i < l.length) : atF' l i = l[i] := getD_in h _
theorem sorted_val {l : List Fm} (hln : l.length < 256) (hbig : bigAll l) : ∃ r, G_sorted l = some r ∧ SortOf l r := by
 obtain ⟨m, h1, h2, h3, h4⟩ := sortFunc_sorted hln hbig
 have hs : Srt 0 m.length m := fun p q _ hpq hq => by
  rw [atF_in (show p < m.length by omega), atF_in hq]
  exact List.pairwise_iff_getElem.1 h4 p q (by omega) hq hpq
 have hbm : bigAll m := fun f hf => hbig f ((h3 f).1 hf)
 obtain ⟨q1, q2, q3⟩ := ded_props hs m.length (Nat.le_refl _)
 refine ⟨ded m m.length, ?_, ⟨fun f hf => ?_, fun f hf => ?_, q3⟩⟩
 ·unfold G_sorted cloneF
  have e : decide (l.length * 56 ≤ 140737488355328) = true := by apply decide_eq_true; omega
  simp only [e, cond_true, Option.bind_some, h1, compact_val (show m.length < 1000000000000 by omega) hbm]
 ·obtain ⟨i, hi, rfl⟩ := q1 f hf
  rw [atF_in hi]
  exact (h3 _).1 (List.getElem_mem hi)
 ·obtain ⟨i, hi, rfl⟩ := List.getElem_of_mem ((h3 f).2 hf)
  obtain ⟨g, a, b⟩ := q2 i hi
  exact ⟨g, a, by rw [← atF_in hi]; exact b⟩
theorem SortOf.alike {l r r' : List Fm} (h : SortOf l r) (h' : SortOf l r') : eqAllF r r' :=
 strict_unique r r' h.ord h'.ord (fun f hf => h'.all f (h.sub f hf)) (fun g hg => h.all g (h'.sub g hg))
theorem eqAllF_len : ∀ {r r' : List Fm}, eqAllF r r' → r.length = r'.length
 | [], [], _ => rfl
 | f :: x, g :: y, h => by simp [eqAllF_len h.2]
 | [], _ :: _, h => by cases h
 | _ :: _, [], h => by cases h
theorem eqAllF_cmp : ∀ {r r' : List Fm}, eqAllF r r' → cmpL r r' = 0
 | [], [], _ => rfl
 | f :: x, g :: y, h => by
  have h1 : cmpF f g = 0 := h.1
  simp only [cmpL, h1, eqAllF_cmp h.2]; rfl
 | [], _ :: _, h => by cases h
 | _ :: _, [], h => by cases h
theorem refEqual1_val' {f g : Fm} (hb : f.big ≤ 4611686018427387000) : G_refEqual1 f g = some (decide (cmpF f g = 0)) := by
 unfold G_refEqual1
 simp only [Fm.eta_eq, refCompare_val hb, Option.bind_some]
theorem refEqualAll_val {r r' : List Fm} (hb : Fm.bigL r ≤ 4611686018427386000) (h : eqAllF r r') : G_refEqualAll r r' = some true := by
 have hl : ∀ x, G_refList x = some (.mk 3 0 [] x) := fun x => rfl
 unfold G_refEqualAll
 simp only [hl, Option.bind_some, Fm.eta_eq]
 rw [refEqual1_val' (by simp only [Fm.big]; simp; omega), cmpF_mk]
 simp [eqAllF_cmp h]
theorem bigL_mem_le {l : List Fm} {B : Nat} : (∀ f ∈ l, f.big ≤ B) → Fm.bigL l ≤ l.length * B := by
 induction l with
 | nil => intro _; simp [Fm.bigL]
 | cons f l ih =>
  intro h
  have h1 := h f (by simp)
  have h2 := ih fun g hg => h g (by simp [hg])
  simp only [Fm.bigL, List.length_cons, Nat.succ_mul]
  omega
theorem insert_ok {out : List Fm} {x : Fm} {p : Nat} (hp : p ≤ out.length) (ho : out.Pairwise ltF) (h1 : ∀ j (h : j < out.length), j < p → ltF out[j] x) (h2 : ∀ h : p < out.length, ltF x out[p]) : (out.take p ++ [x] ++ out.drop p).Pairwise ltF := by
 have hall : (out.take p ++ out.drop p).Pairwise ltF := by rw [List.take_append_drop]; exact ho
 obtain ⟨a1, a2, a3⟩ := List.pairwise_append.1 hall
 have hx : ∀ y ∈ out.drop p, ltF x y := fun y hy => by
  by_cases h : p < out.length
  ·rw [List.drop_eq_getElem_cons h] at hy a2
   rcases List.mem_cons.1 hy with rfl | hy
   ·exact h2 h
   ·exact cmpF_trans (h2 h) ((List.pairwise_cons.1 a2).1 y hy)
  ·rw [List.drop_of_length_le (by omega)] at hy; cases hy
 rw [List.append_assoc, List.pairwise_append]
 refine ⟨a1, ?_, fun y hy z hz => ?_⟩
 ·rw [List.singleton_append, List.pairwise_cons]; exact ⟨hx, a2⟩
 ·obtain ⟨j, hj, rfl⟩ := List.getElem_of_mem hy
  have hj1 : j < p := by simp at hj; omega
  have hj2 : j < out.length := by omega
  have e : (out.take p)[j] = out[j] := by simp
  rcases List.mem_append.1 hz with hz | hz
  ·simp at hz; subst hz; rw [e]; exact h1 j hj2 hj1
  ·exact a3 _ hy z hz
theorem refSort_val {l : List Fm} (hln : l.length ≤ 1000000) (hbig : ∀ f ∈ l, f.big ≤ 2000000000000) : ∃ r, G_refSort l = some r ∧ SortOf l r := by
 unfold G_refSort
 refine bind_wp (fun d => ∃ (i : Nat) (out : List Fm), d = ((l, (), (i : Int), ()), (out, ())) ∧ i ≤ l.length ∧ out.length ≤ i ∧ (∀ f ∈ out, f ∈ l) ∧ (∀ j (h : j < l.length), j < i → ∃ g ∈ out, eqF l[j] g) ∧ out.Pairwise ltF) (fun d => l.length - d.1.2.2.1.toNat) ?_ ⟨0, [], rfl, Nat.zero_le _, Nat.zero_le _, (fun f h => by cases h), (fun j h a => by omega), .nil⟩
 rintro d ⟨i, out, rfl, hi, hol, h1, h2, h3⟩
 simp only [Int.toNat_natCast]
 by_cases hi' : i < l.length
 ·have e1 : decide ((i : Int) < (l.length : Int)) = true := by apply decide_eq_true; omega
  have x1 : ixOK (i : Int) l.length = true := ixOK_iff.2 (by omega)
  have g1 : l.getD i (Fm.mk 0 0 [] []) = l[i] := getD_in hi' _
  have hbo : ∀ j (h : j < out.length), out[j].big ≤ 2000000000000 := fun j h => hbig _ (h1 _ (List.getElem_mem h))
  simp only [e1, cond_true]
  have inner : ∃ v, loopM (L := ((List Fm) × Unit × Int × Int × Unit) × ((List Fm) × Unit)) (R := ((List Fm) × Unit × Int × Int × Unit) × ((List Fm) × Unit)) (fun d5 => (
 let l6 := d5.2.1
 let v0_7 := d5.1.1
 let v4_8 := d5.1.2.2.1
 let v5_9 := d5.1.2.2.2.1
 cond ((ixOK v5_9 l6.length) || !(decide (v5_9 < (l6.length : Int)))) (cond ((decide (v5_9.toNat < l6.length)) || !(decide (v5_9 < (l6.length : Int)))) (cond ((ixOK v4_8 v0_7.length) || !(decide (v5_9 < (l6.length : Int)))) (Option.bind (α := Int) (cond (decide (v5_9 < (l6.length : Int))) (L_refCompare (Fm.eta (l6.getD v5_9.toNat (Fm.mk 0 0 [] []))) (Fm.eta (v0_7.getD v4_8.toNat (Fm.mk 0 0 [] [])))) (some (0 : Int))) fun r10 => (
 cond (cond (decide (v5_9 < (l6.length : Int))) (decide (r10 < 0)) false) (some (Step.next ((v0_7, (), v4_8, IntKind.wrap .i64 (v5_9 + 1), ()), (l6, ())))) (some (Step.done ((v0_7, (), v4_8, v5_9, ()), (l6, ())))))) none) none) none)) ((l, (), (i : Int), 0, ()), (out, ())) = some v ∧ ∃ p : Nat, v = ((l, (), (i : Int), (p : Int), ()), (out, ())) ∧ p ≤ out.length ∧ (∀ j (h : j < out.length), j < p → ltF out[j] l[i]) ∧ ∀ h : p < out.length, ¬ ltF out[p] l[i] := by
   refine loop_wp (fun d => ∃ p : Nat, d = ((l, (), (i : Int), (p : Int), ()), (out, ())) ∧ p ≤ out.length ∧ (∀ j (h : j < out.length), j < p → ltF out[j] l[i])) (fun d => out.length - d.1.2.2.2.1.toNat) _ ?_ _ ⟨0, rfl, Nat.zero_le _, fun j h a => by omega⟩
   rintro d ⟨p, rfl, hp, hlt⟩
   simp only [Int.toNat_natCast]
   by_cases hp' : p < out.length
   ·have f1 : decide ((p : Int) < (out.length : Int)) = true := by apply decide_eq_true; omega
    have f2 : ixOK (p : Int) out.length = true := ixOK_iff.2 (by omega)
    have f3 : decide (p < out.length) = true := by apply decide_eq_true; omega
    have g2 : out.getD p (Fm.mk 0 0 [] []) = out[p] := getD_in hp' _
    have hcmp : L_refCompare out[p] l[i] = some (cmpF out[p] l[i]) := refCompare_val (by have := hbo p hp'; omega)
    simp only [f1, f2, f3, x1, g1, g2, hcmp, Bool.true_or, cond_true, Fm.eta_eq, Option.bind_some, wrapN (show p < 4611686018427387904 by omega)]
    by_cases hc : cmpF out[p] l[i] < 0
    ·simp only [hc, decide_true, cond_true]
     refine .inl ⟨_, rfl, ⟨p + 1, rfl, by omega, fun j h a => ?_⟩, ?_⟩
     ·by_cases hj : j = p
      ·subst hj; exact hc
      ·exact hlt j h (by omega)
     ·simp only [Int.toNat_natCast]; omega
    ·simp only [hc, decide_false, cond_false]
     exact .inr ⟨_, rfl, p, rfl, by omega, hlt, fun _ => hc⟩
   ·have f1 : decide ((p : Int) < (out.length : Int)) = false := by apply decide_eq_false; omega
    simp only [f1, Bool.not_false, Bool.or_true, cond_true, cond_false, Option.bind_some]
    exact .inr ⟨_, rfl, p, rfl, by omega, hlt, fun h => absurd h hp'⟩
  obtain ⟨v, hv, p, rfl, hp, hlt, hnl⟩ := inner
  rw [hv]
  have hown : L_own l[i] = some l[i] := own_val (by have := hbig _ (List.getElem_mem hi'); omega)
  have c1 : slOK 0 (p : Int) out.length = true := slOK_iff.2 (by omega)
  have c2 : decide ((([] : List Fm).length + ((out.drop (0 : Int).toNat).take (p - (0 : Int).toNat)).length) * 56 ≤ 140737488355328) = true := by apply decide_eq_true; simp; omega
  have c3 : decide (((([] : List Fm) ++ ((out.drop (0 : Int).toNat).take (p - (0 : Int).toNat))).length + ([l[i]]).length) * 56 ≤ 140737488355328) = true := by apply decide_eq_true; simp; omega
  have c4 : slOK (p : Int) (out.length : Int) out.length = true := slOK_iff.2 (by omega)
  have c5 : decide ((((([] : List Fm) ++ ((out.drop (0 : Int).toNat).take (p - (0 : Int).toNat))) ++ ([l[i]])).length + ((out.drop p).take (out.length - p)).length) * 56 ≤ 140737488355328) = true := by apply decide_eq_true; simp; omega
  have e9 : (([] : List Fm) ++ ((out.drop (0 : Int).toNat).take (p - (0 : Int).toNat))) ++ [l[i]] ++ ((out.drop p).take (out.length - p)) = out.take p ++ [l[i]] ++ out.drop p := by
   have : (out.drop p).take (out.length - p) = out.drop p := List.take_of_length_le (by simp)
   rw [this]; simp
  have ins : (∀ h : p < out.length, ¬ cmpF out[p] l[i] = 0) → ∃ (i' : Nat) (out' : List Fm), ((l, (), ((i + 1 : Nat) : Int), ()), (out.take p ++ [l[i]] ++ out.drop p, ())) = ((l, (), (i' : Int), ()), (out', ())) ∧ i' ≤ l.length ∧ out'.length ≤ i' ∧ (∀ f ∈ out', f ∈ l) ∧ (∀ j (h : j < l.length), j < i' → ∃ g ∈ out', eqF l[j] g) ∧ out'.Pairwise ltF := fun hne => by
   have hmem : ∀ f, f ∈ out.take p ++ [l[i]] ++ out.drop p ↔ f ∈ out ∨ f = l[i] := fun f => by
    have : f ∈ out ↔ f ∈ out.take p ∨ f ∈ out.drop p := by rw [← List.mem_append, List.take_append_drop]
    simp only [List.mem_append, List.mem_singleton, this]
    constructor
    ·rintro ((h | h) | h)
     ·exact .inl (.inl h)
     ·exact .inr h
     ·exact .inl (.inr h)
    ·rintro ((h | h) | h)
     ·exact .inl (.inl h)
     ·exact .inr h
     ·exact .inl (.inr h)
   refine ⟨i + 1, _, rfl, by omega, by simp; omega, fun f hf => ?_, fun j h hj => ?_, insert_ok hp h3 hlt fun h => ?_⟩
   ·rcases (hmem f).1 hf with h | rfl
    ·exact h1 f h
    ·exact List.getElem_mem hi'
   ·by_cases hji : j = i
    ·subst hji; exact ⟨l[j], (hmem _).2 (.inr rfl), cmpF_self _⟩
    ·obtain ⟨g, a, b⟩ := h2 j h (by omega)
     exact ⟨g, (hmem _).2 (.inl a), b⟩
   ·have a := hnl h
    have b := hne h
    unfold ltF at a ⊢
    rw [cmpF_neg out[p] l[i]]
    omega
  by_cases hp' : p < out.length
  ·have f1 : decide ((p : Int) < (out.length : Int)) = true := by apply decide_eq_true; omega
   have f2 : ixOK (p : Int) out.length = true := ixOK_iff.2 (by omega)
   have f3 : decide (p < out.length) = true := by apply decide_eq_true; omega
   have g2 : out.getD p (Fm.mk 0 0 [] []) = out[p] := getD_in hp' _
   have heq : G_refEqual1 out[p] l[i] = some (decide (cmpF out[p] l[i] = 0)) := refEqual1_val' (by have := hbo p hp'; omega)
   simp only [Option.bind_some, f1, f2, f3, x1, g1, g2, heq, Bool.true_or, cond_true, Fm.eta_eq, Int.toNat_natCast]
   by_cases hc : cmpF out[p] l[i] = 0
   ·simp only [hc, decide_true, cond_true, Option.bind_some, wrapN (show i < 4611686018427387904 by omega)]
    refine .inl ⟨_, rfl, ⟨i + 1, out, rfl, by omega, by omega, h1, fun j h hj => ?_, h3⟩, ?_⟩
    ·by_cases hji : j = i
     ·subst hji; exact ⟨out[p], List.getElem_mem hp', eqF.symm hc⟩
     ·exact h2 j h (by omega)
    ·simp only [Int.toNat_natCast]; omega
   ·simp only [hc, decide_false, cond_false, c1, c2, hown, c3, c4, c5, e9, cond_true, Option.bind_some, Fm.eta_eq, wrapN (show i < 4611686018427387904 by omega)]
    refine .inl ⟨_, rfl, ins fun _ => hc, ?_⟩
    simp only [Int.toNat_natCast]; omega
  ·have f1 : decide ((p : Int) < (out.length : Int)) = false := by apply decide_eq_false; omega
   simp only [Option.bind_some, f1, x1, g1, Bool.not_false, Bool.or_true, cond_true, cond_false, Fm.eta_eq, Int.toNat_natCast, c1, c2, hown, c3, c4, c5, e9, wrapN (show i < 4611686018427387904 by omega)]
   refine .inl ⟨_, rfl, ins fun h => absurd h hp', ?_⟩
   simp only [Int.toNat_natCast]; omega
 ·have e1 : decide ((i : Int) < (l.length : Int)) = false := by apply decide_eq_false; omega
  refine .inr ⟨_, by simp only [e1, cond_false]; rfl, _, rfl, h1, fun f hf => ?_, h3⟩
  obtain ⟨j, hj, rfl⟩ := List.getElem_of_mem hf
  exact h2 j hj (by omega)
end Go.Ab
