/-
  TREES: the test as a whole.
-/
import Derived.Test.YtdagildojaagiaaGreatDoorZ18
set_option linter.unusedVariables false
set_option linter.unusedSimpArgs false
set_option maxRecDepth 100000
namespace Go.Ab
open Go Go.RowKit Go.Proofs
def namesL (rows : List (Int × List (Int × Fm))) : List Fm := rows.flatMap fun s => s.2.map (·.2)
theorem names_take {rows : List (Int × List (Int × Fm))} {i : Nat} (h : i < rows.length) : namesL (rows.take (i + 1)) = namesL (rows.take i) ++ rows[i].2.map (·.2) := by
 unfold namesL
 rw [List.take_succ_eq_append_getElem h, List.flatMap_append]
 simp
theorem names_le {rows : List (Int × List (Int × Fm))} (i : Nat) : (namesL (rows.take i)).length ≤ (namesL rows).length := by
 have : namesL rows = namesL (rows.take i) ++ namesL (rows.drop i) := by
  unfold namesL; rw [← List.flatMap_append, List.take_append_drop]
 rw [this, List.length_append]; omega
theorem names_big {rows : List (Int × List (Int × Fm))} {B : Nat} (h : ∀ s ∈ rows, ∀ p ∈ s.2, p.2.big ≤ B) : ∀ f ∈ namesL rows, f.big ≤ B := fun f hf => by
 unfold namesL at hf
 obtain ⟨s, hs, hf⟩ := List.mem_flatMap.1 hf
 obtain ⟨p, hp, rfl⟩ := List.mem_map.1 hf
 exact h s hs p hp
theorem lnames_val {rows : List (Int × List (Int × Fm))} {r : List Fm} (hn : (namesL rows).length ≤ 1000000) (hr : rows.length ≤ 1000000000) (hl : ∀ s ∈ rows, s.2.length ≤ 1000000) (hs : G_sorted (namesL rows) = some r) : G_lnames rows = some r := by
 unfold G_lnames
 refine bind_loop (fun d => ∃ i : Nat, d = (((), rows, (rows.length : Int), (i : Int), ()), (namesL (rows.take i), ())) ∧ i ≤ rows.length) (fun d => rows.length - d.1.2.2.2.1.toNat) ?_ ⟨0, rfl, Nat.zero_le _⟩
 rintro d ⟨i, rfl, hi⟩
 simp only [Int.toNat_natCast]
 by_cases hi' : i < rows.length
 ·have e1 : decide ((i : Int) < (rows.length : Int)) = true := by apply decide_eq_true; omega
  have x1 : ixOK (i : Int) rows.length = true := ixOK_iff.2 (by omega)
  have g1 : rows.getD i ((0 : Int), ([] : List (Int × Fm))) = rows[i] := getD_in hi' _
  have hlt := names_le (rows := rows) (i + 1)
  have hli := hl _ (List.getElem_mem hi')
  rw [names_take hi', List.length_append, List.length_map] at hlt
  simp only [e1, x1, g1, cond_true]
  refine .inl ⟨(((), rows, (rows.length : Int), ((i + 1 : Nat) : Int), ()), (namesL (rows.take (i + 1)), ())), loop_val0 (fun j => (((), rows, (rows.length : Int), (i : Int), rows[i].2, (rows[i].2.length : Int), (j : Int), ()), (namesL (rows.take i) ++ (rows[i].2.take j).map (·.2), ()))) rows[i].2.length (by simp) (fun j hj => .inl ?_) ?_, ⟨i + 1, rfl, by omega⟩, ?_⟩
  ·have f1 : decide ((j : Int) < (rows[i].2.length : Int)) = true := by apply decide_eq_true; omega
   have f2 : ixOK (j : Int) rows[i].2.length = true := ixOK_iff.2 (by omega)
   have g2 : rows[i].2.getD j ((0 : Int), (Fm.mk 0 0 [] [])) = rows[i].2[j] := getD_in hj _
   have f3 : decide (((namesL (rows.take i) ++ (rows[i].2.take j).map (·.2)).length + ([rows[i].2[j].2]).length) * 56 ≤ 140737488355328) = true := by
    apply decide_eq_true; simp only [List.length_append, List.length_map, List.length_take, List.length_cons, List.length_nil]; omega
   simp only [f1, f2, g2, f3, cond_true, Fm.eta_eq, Int.toNat_natCast, wrapN (show j < 4611686018427387904 by omega)]
   rw [List.take_succ_eq_append_getElem hj, List.map_append, ← List.append_assoc]
   rfl
  ·have f1 : decide ((rows[i].2.length : Int) < (rows[i].2.length : Int)) = false := by apply decide_eq_false; omega
   refine ⟨_, by simp only [f1, cond_false]; rfl, ?_⟩
   simp only [wrapN (show i < 4611686018427387904 by omega), List.take_length, names_take hi']
  ·simp only [Int.toNat_natCast]; omega
 ·have e1 : decide ((i : Int) < (rows.length : Int)) = false := by apply decide_eq_false; omega
  refine .inr ⟨_, by simp only [e1, cond_false]; rfl, ?_⟩
  simp only [List.take_of_length_le (show rows.length ≤ i by omega), hs, Option.bind_some]
theorem refNames_val {rows : List (Int × List (Int × Fm))} {r : List Fm} (hn : (namesL rows).length ≤ 1000000) (hr : rows.length ≤ 1000000000) (hl : ∀ s ∈ rows, s.2.length ≤ 1000000) (hs : G_refSort (namesL rows) = some r) : G_refNames rows = some r := by
 unfold G_refNames
 refine bind_loop (fun d => ∃ i : Nat, d = ((rows, (), (i : Int), ()), (namesL (rows.take i), ())) ∧ i ≤ rows.length) (fun d => rows.length - d.1.2.2.1.toNat) ?_ ⟨0, rfl, Nat.zero_le _⟩
 rintro d ⟨i, rfl, hi⟩
 simp only [Int.toNat_natCast]
 by_cases hi' : i < rows.length
 ·have e1 : decide ((i : Int) < (rows.length : Int)) = true := by apply decide_eq_true; omega
  have x1 : ixOK (i : Int) rows.length = true := ixOK_iff.2 (by omega)
  have g1 : rows.getD i ((0 : Int), ([] : List (Int × Fm))) = rows[i] := getD_in hi' _
  have hlt := names_le (rows := rows) (i + 1)
  have hli := hl _ (List.getElem_mem hi')
  rw [names_take hi', List.length_append, List.length_map] at hlt
  simp only [e1, cond_true]
  refine .inl ⟨((rows, (), ((i + 1 : Nat) : Int), ()), (namesL (rows.take (i + 1)), ())), loop_val0 (fun j => ((rows, (), (i : Int), (j : Int), ()), (namesL (rows.take i) ++ (rows[i].2.take j).map (·.2), ()))) rows[i].2.length (by simp) (fun j hj => .inl ?_) ?_, ⟨i + 1, rfl, by omega⟩, ?_⟩
  ·have f1 : decide ((j : Int) < (rows[i].2.length : Int)) = true := by apply decide_eq_true; omega
   have f2 : ixOK (j : Int) rows[i].2.length = true := ixOK_iff.2 (by omega)
   have g2 : rows[i].2.getD j ((0 : Int), (Fm.mk 0 0 [] [])) = rows[i].2[j] := getD_in hj _
   have f3 : decide (((namesL (rows.take i) ++ (rows[i].2.take j).map (·.2)).length + ([rows[i].2[j].2]).length) * 56 ≤ 140737488355328) = true := by
    apply decide_eq_true; simp only [List.length_append, List.length_map, List.length_take, List.length_cons, List.length_nil]; omega
   simp only [x1, g1, f1, f2, g2, f3, cond_true, Fm.eta_eq, Int.toNat_natCast, wrapN (show j < 4611686018427387904 by omega)]
   rw [List.take_succ_eq_append_getElem hj, List.map_append, ← List.append_assoc]
   rfl
  ·have f1 : decide ((rows[i].2.length : Int) < (rows[i].2.length : Int)) = false := by apply decide_eq_false; omega
   refine ⟨_, by simp only [x1, g1, f1, cond_true, cond_false, Int.toNat_natCast]; rfl, ?_⟩
   simp only [wrapN (show i < 4611686018427387904 by omega), List.take_length, names_take hi']
  ·simp only [Int.toNat_natCast]; omega
 ·have e1 : decide ((i : Int) < (rows.length : Int)) = false := by apply decide_eq_false; omega
  refine .inr ⟨_, by simp only [e1, cond_false]; rfl, ?_⟩
  simp only [List.take_of_length_le (show rows.length ≤ i by omega), hs, Option.bind_some]
theorem asked1_val {s : Int × List (Int × Fm)} (hs : Small s) : G_asked1 s = some (!validSm s) := by
 unfold G_asked1
 simp only [lvalid_val hs, Option.bind_some]
theorem idxSum_val {rows : List (Int × List (Int × Fm))} (hr : rows.length ≤ 1000) (hs : ∀ s ∈ rows, Small s) : ∃ r : Int, G_idxSum rows () = some r ∧ (0 ≤ r ↔ rows.all validSm = false) := by
 unfold G_idxSum
 refine bind_wp (fun d => ∃ i : Nat, d = ((rows, (), (rows.length : Int), (i : Int), ()), ()) ∧ i ≤ rows.length ∧ ∀ j (h : j < rows.length), j < i → validSm rows[j] = true) (fun d => rows.length - d.1.2.2.2.1.toNat) ?_ ⟨0, rfl, Nat.zero_le _, fun j h a => by omega⟩
 rintro d ⟨i, rfl, hi, hg⟩
 simp only [Int.toNat_natCast]
 by_cases hi' : i < rows.length
 ·have e1 : decide ((i : Int) < (rows.length : Int)) = true := by apply decide_eq_true; omega
  have x1 : ixOK (i : Int) rows.length = true := ixOK_iff.2 (by omega)
  have g1 : rows.getD i ((0 : Int), ([] : List (Int × Fm))) = rows[i] := getD_in hi' _
  have hv := asked1_val (hs _ (List.getElem_mem hi'))
  simp only [e1, x1, g1, hv, cond_true, Option.bind_some, Int.toNat_natCast, wrapN (show i < 4611686018427387904 by omega)]
  cases hc : validSm rows[i] with
  | true =>
   simp only [Bool.not_true, cond_false]
   refine .inl ⟨_, rfl, ⟨i + 1, rfl, by omega, fun j h a => ?_⟩, ?_⟩
   ·by_cases hj : j = i
    ·subst hj; exact hc
    ·exact hg j h (by omega)
   ·simp only [Int.toNat_natCast]; omega
  | false =>
   simp only [Bool.not_false, cond_true]
   refine .inr ⟨_, rfl, _, rfl, ?_⟩
   constructor
   ·intro _
    rw [List.all_eq_false]
    exact ⟨rows[i], List.getElem_mem hi', by rw [hc]; simp⟩
   ·intro _; omega
 ·have e1 : decide ((i : Int) < (rows.length : Int)) = false := by apply decide_eq_false; omega
  refine .inr ⟨_, by simp only [e1, cond_false]; rfl, _, rfl, ?_⟩
  constructor
  ·intro h; exact absurd h (by decide)
  ·intro h
   rw [List.all_eq_true.2 fun s hsm => by obtain ⟨j, hj, rfl⟩ := List.getElem_of_mem hsm; exact hg j hj (by omega)] at h
   cases h
def askI (rows : List (Int × List (Int × Fm))) (n : Nat) : Int := if rows.all validSm = false then 1 else if 60 < rows.length ∨ 40 < n then 2 else 0
theorem asked_val {rows : List (Int × List (Int × Fm))} {r : List Fm} (hr : rows.length ≤ 1000) (hs : ∀ s ∈ rows, Small s) (hn : G_lnames rows = some r) : G_asked rows = some (askI rows r.length) := by
 unfold G_asked G_cntSum askI
 obtain ⟨x, h1, h2⟩ := idxSum_val hr hs
 simp only [h1, Option.bind_some]
 by_cases h : 0 ≤ x
 ·have e : decide (x ≥ 0) = true := decide_eq_true h
  simp only [e, cond_true, if_pos (h2.1 h)]
 ·have e : decide (x ≥ 0) = false := decide_eq_false h
  simp only [e, cond_false, if_neg (fun hh => h (h2.2 hh))]
  by_cases h60 : 60 < rows.length
  ·have e : decide ((rows.length : Int) > 60) = true := by apply decide_eq_true; omega
   simp [e, h60]
  ·have e : decide ((rows.length : Int) > 60) = false := by apply decide_eq_false; omega
   simp only [e, Bool.not_false, cond_true, cond_false, hn, Option.bind_some, h60, false_or]
   by_cases h40 : 40 < r.length
   ·have e : decide ((r.length : Int) > 40) = true := by apply decide_eq_true; omega
    simp [e, h40]
   ·have e : decide ((r.length : Int) > 40) = false := by apply decide_eq_false; omega
    simp [e, h40]
theorem refCheck_val {rows : List (Int × List (Int × Fm))} {r : List Fm} (hr : rows.length ≤ 1000) (hs : ∀ s ∈ rows, Small s) (hn : G_refNames rows = some r) : G_refCheck rows = some (askI rows r.length) := by
 unfold G_refCheck askI
 refine bind_loop (fun d => ∃ i : Nat, d = ((rows, (i : Int), ()), ()) ∧ i ≤ rows.length ∧ ∀ j (h : j < rows.length), j < i → validSm rows[j] = true) (fun d => rows.length - d.1.2.1.toNat) ?_ ⟨0, rfl, Nat.zero_le _, fun j h a => by omega⟩
 rintro d ⟨i, rfl, hi, hg⟩
 simp only [Int.toNat_natCast]
 by_cases hi' : i < rows.length
 ·have e1 : decide ((i : Int) < (rows.length : Int)) = true := by apply decide_eq_true; omega
  have x1 : ixOK (i : Int) rows.length = true := ixOK_iff.2 (by omega)
  have g1 : rows.getD i ((0 : Int), ([] : List (Int × Fm))) = rows[i] := getD_in hi' _
  have hv := valid34_val (hs _ (List.getElem_mem hi'))
  simp only [e1, x1, g1, hv, cond_true, Option.bind_some, Int.toNat_natCast, wrapN (show i < 4611686018427387904 by omega)]
  cases hc : validSm rows[i] with
  | true =>
   simp only [Bool.not_true, cond_false]
   refine .inl ⟨_, rfl, ⟨i + 1, rfl, by omega, fun j h a => ?_⟩, ?_⟩
   ·by_cases hj : j = i
    ·subst hj; exact hc
    ·exact hg j h (by omega)
   ·simp only [Int.toNat_natCast]; omega
  | false =>
   simp only [Bool.not_false, cond_true]
   refine .inr ⟨_, rfl, ?_⟩
   rw [if_pos (List.all_eq_false.2 ⟨rows[i], List.getElem_mem hi', by rw [hc]; simp⟩)]
 ·have e1 : decide ((i : Int) < (rows.length : Int)) = false := by apply decide_eq_false; omega
  refine .inr ⟨_, by simp only [e1, cond_false]; rfl, ?_⟩
  have hall : rows.all validSm = true := List.all_eq_true.2 fun s hsm => by obtain ⟨j, hj, rfl⟩ := List.getElem_of_mem hsm; exact hg j hj (by omega)
  rw [if_neg (by rw [hall]; simp)]
  by_cases h60 : 60 < rows.length
  ·have e : decide ((rows.length : Int) > 60) = true := by apply decide_eq_true; omega
   simp [e, h60]
  ·have e : decide ((rows.length : Int) > 60) = false := by apply decide_eq_false; omega
   simp only [e, Bool.not_false, cond_true, cond_false, hn, Option.bind_some, h60, false_or]
   by_cases h40 : 40 < r.length
   ·have e : decide ((r.length : Int) > 40) = true := by apply decide_eq_true; omega
    simp [e, h40]
   ·have e : decide ((r.length : Int) > 40) = false := by apply decide_eq_false; omega
    simp [e, h40]
end Go.Ab

set_option maxRecDepth 100000
namespace Go.Ab
open Go Go.RowKit Go.Proofs
theorem consP_mem {c : Int} {t : Fm} {l : List (Int × Fm)} {p : Int × Fm} (h : p ∈ consP c t l) : p = (c, t) ∨ p ∈ l := by
 unfold consP at h
 split at h
 ·exact .inr h
 ·rcases List.mem_cons.1 h with h | h
  ·exact .inl h
  ·exact .inr h
theorem consP_len (c : Int) (t : Fm) (l : List (Int × Fm)) : (consP c t l).length ≤ l.length + 1 := by
 unfold consP; split <;> simp
theorem whole60 {n c : Int} (h : wholeS n = some c) : i60 c := by obtain ⟨rfl, a, b⟩ := wholeS_some h; exact ⟨a, b⟩
theorem mergeL_ok (f : Int) (B : Nat) : ∀ (l m o : List (Int × Fm)), mergeL f l m = some o → (∀ p ∈ l, i60 p.1 ∧ p.2.big ≤ B) → (∀ p ∈ m, p.2.big ≤ B) → (∀ p ∈ o, i60 p.1 ∧ p.2.big ≤ B) ∧ o.length ≤ l.length + m.length
 | [], [], o, h, _, _ => by rw [mergeL] at h; cases h; exact ⟨fun p hp => (by cases hp), by simp⟩
 | p :: r, [], o, h, hl, hm => by
  rw [mergeL] at h
  obtain ⟨o', h1, rfl⟩ := Option.map_eq_some_iff.1 h
  obtain ⟨a, b⟩ := mergeL_ok f B r [] o' h1 (fun q hq => hl q (by simp [hq])) hm
  refine ⟨fun q hq => ?_, ?_⟩
  ·rcases consP_mem hq with rfl | hq
   ·exact hl p (by simp)
   ·exact a q hq
  ·have := consP_len p.1 p.2 o'; simp only [List.length_cons] at *; omega
 | [], q :: s, o, h, hl, hm => by
  rw [mergeL] at h
  obtain ⟨x, hx, h⟩ := Option.bind_eq_some_iff.1 h
  obtain ⟨c, hc, h⟩ := Option.bind_eq_some_iff.1 h
  obtain ⟨o', h1, rfl⟩ := Option.map_eq_some_iff.1 h
  obtain ⟨a, b⟩ := mergeL_ok f B [] s o' h1 hl (fun q hq => hm q (by simp [hq]))
  refine ⟨fun p hp => ?_, ?_⟩
  ·rcases consP_mem hp with rfl | hp
   ·exact ⟨whole60 hc, hm q (by simp)⟩
   ·exact a p hp
  ·have := consP_len c q.2 o'; simp only [List.length_cons] at *; omega
 | p :: r, q :: s, o, h, hl, hm => by
  rw [mergeL] at h
  split at h
  ·obtain ⟨o', h1, rfl⟩ := Option.map_eq_some_iff.1 h
   obtain ⟨a, b⟩ := mergeL_ok f B r (q :: s) o' h1 (fun q hq => hl q (by simp [hq])) hm
   refine ⟨fun q hq => ?_, ?_⟩
   ·rcases consP_mem hq with rfl | hq
    ·exact hl p (by simp)
    ·exact a q hq
   ·have := consP_len p.1 p.2 o'; simp only [List.length_cons] at *; omega
  ·split at h
   ·obtain ⟨x, hx, h⟩ := Option.bind_eq_some_iff.1 h
    obtain ⟨c, hc, h⟩ := Option.bind_eq_some_iff.1 h
    obtain ⟨o', h1, rfl⟩ := Option.map_eq_some_iff.1 h
    obtain ⟨a, b⟩ := mergeL_ok f B (p :: r) s o' h1 hl (fun q hq => hm q (by simp [hq]))
    refine ⟨fun p hp => ?_, ?_⟩
    ·rcases consP_mem hp with rfl | hp
     ·exact ⟨whole60 hc, hm q (by simp)⟩
     ·exact a p hp
    ·have := consP_len c q.2 o'; simp only [List.length_cons] at *; omega
   ·obtain ⟨x, hx, h⟩ := Option.bind_eq_some_iff.1 h
    obtain ⟨c, hc, h⟩ := Option.bind_eq_some_iff.1 h
    obtain ⟨o', h1, rfl⟩ := Option.map_eq_some_iff.1 h
    obtain ⟨a, b⟩ := mergeL_ok f B r s o' h1 (fun q hq => hl q (by simp [hq])) (fun q hq => hm q (by simp [hq]))
    refine ⟨fun p hp => ?_, ?_⟩
    ·rcases consP_mem hp with rfl | hp
     ·exact ⟨whole60 hc, hm q (by simp)⟩
     ·exact a p hp
    ·have := consP_len c q.2 o'; simp only [List.length_cons] at *; omega
 termination_by l m => l.length + m.length
theorem plusS_fit {a b s : Int × List (Int × Fm)} {f : Int} (h : plusS a b f = some s) (ha : FitA a) (hb : FitB b) (hl : a.2.length + b.2.length ≤ 500000000000) : FitA s ∧ s.2.length ≤ a.2.length + b.2.length := by
 unfold plusS at h
 obtain ⟨x, hx, h⟩ := Option.bind_eq_some_iff.1 h
 obtain ⟨c, hc, h⟩ := Option.bind_eq_some_iff.1 h
 obtain ⟨o, h1, rfl⟩ := Option.map_eq_some_iff.1 h
 obtain ⟨p, q⟩ := mergeL_ok f 2000000000000 _ _ _ h1 (fun p hp => ⟨ha.c p hp, ha.big p hp⟩) hb.big
 exact ⟨⟨whole60 hc, fun r hr => (p r hr).1, fun r hr => (p r hr).2, by simp only; omega⟩, q⟩
structure Rws (rows : List (Int × List (Int × Fm))) : Prop where
 len : rows.length ≤ 1000
 fit : ∀ s ∈ rows, FitB s
 each : ∀ s ∈ rows, s.2.length ≤ 1000000
def gdS (rows : List (Int × List (Int × Fm))) (i : Nat) : Int × List (Int × Fm) := rows.getD i ((0 : Int), ([] : List (Int × Fm)))
def sumTo (rows : List (Int × List (Int × Fm))) (fs : List Int) : Nat → Option (Int × List (Int × Fm))
 | 0 => some (0, [])
 | n + 1 => (sumTo rows fs n).bind fun s => plusS s (gdS rows n) (fs.getD n 0)
theorem sumTo_none {rows : List (Int × List (Int × Fm))} {fs : List Int} {i : Nat} (h : sumTo rows fs i = none) : ∀ n, i ≤ n → sumTo rows fs n = none
 | 0, hn => by obtain rfl : i = 0 := by omega
               exact h
 | n + 1, hn => by
  by_cases hi : i = n + 1
  ·subst hi; exact h
  ·unfold sumTo
   rw [sumTo_none h n (by omega)]; rfl
theorem sumTo_fit {rows : List (Int × List (Int × Fm))} {fs : List Int} (hr : Rws rows) : ∀ n s, n ≤ rows.length → sumTo rows fs n = some s → FitA s ∧ s.2.length ≤ n * 1000000
 | 0, s, _, h => by
  cases h
  exact ⟨⟨⟨by decide, by decide⟩, fun p hp => (by cases hp), fun p hp => (by cases hp), by simp⟩, by simp⟩
 | n + 1, s, hn, h => by
  unfold sumTo at h
  obtain ⟨s', h1, h2⟩ := Option.bind_eq_some_iff.1 h
  obtain ⟨q1, q2⟩ := sumTo_fit hr n s' (by omega) h1
  have hm : gdS rows n ∈ rows := by unfold gdS; rw [getD_in (show n < rows.length by omega)]; exact List.getElem_mem _
  have hle := hr.each _ hm
  have hrl := hr.len
  have hmul : n * 1000000 ≤ 1000 * 1000000 := Nat.mul_le_mul_right _ (by omega)
  obtain ⟨p1, p2⟩ := plusS_fit h2 q1 (hr.fit _ hm) (by omega)
  exact ⟨p1, by rw [Nat.succ_mul]; omega⟩
def okS : Option (Int × List (Int × Fm)) → Bool
 | some s => decide ((s.2.length : Int) = 0) && decide (s.1 > 0)
 | none => false
def conB (rows : List (Int × List (Int × Fm))) (fs : List Int) : Bool := decide (fs.length = rows.length) && (fs.all (fun n => !decide (n < 0)) && okS (sumTo rows fs rows.length))
def I64s (fs : List Int) : Prop := ∀ n ∈ fs, i64 n
theorem getF {fs : List Int} (h : I64s fs) {i : Nat} : i64 (fs.getD i 0) := by
 rw [List.getD_eq_getElem?_getD]
 cases hx : fs[i]? with
 | none => exact ⟨by decide, by decide⟩
 | some n => exact h n (List.mem_of_getElem? hx)
theorem refConflict_val {rows : List (Int × List (Int × Fm))} {fs : List Int} (hr : Rws rows) (hf : I64s fs) : G_refConflict rows fs = some (conB rows fs) := by
 have hrl := hr.len
 unfold G_refConflict conB
 by_cases hlen : fs.length = rows.length
 ·have e0 : decide ((fs.length : Int) = (rows.length : Int)) = true := by apply decide_eq_true; omega
  simp only [e0, hlen, decide_true, Bool.not_true, cond_false, Bool.true_and]
  refine bind_loop (fun d => ∃ (i : Nat) (s : Int × List (Int × Fm)), d = ((rows, fs, (), (i : Int), ()), ((s.1, s.2, ()), ())) ∧ i ≤ rows.length ∧ sumTo rows fs i = some s ∧ ∀ j (h : j < fs.length), j < i → ¬ fs[j] < 0) (fun d => rows.length - d.1.2.2.2.1.toNat) ?_ ⟨0, (0, []), rfl, Nat.zero_le _, rfl, fun j h a => by omega⟩
  rintro d ⟨i, s, rfl, hi, hs, hpos⟩
  simp only [Int.toNat_natCast]
  by_cases hi' : i < rows.length
  ·have e1 : decide ((i : Int) < (rows.length : Int)) = true := by apply decide_eq_true; omega
   have x1 : ixOK (i : Int) rows.length = true := ixOK_iff.2 (by omega)
   have x2 : ixOK (i : Int) fs.length = true := ixOK_iff.2 (by omega)
   have g1 : rows.getD i ((0 : Int), ([] : List (Int × Fm))) = gdS rows i := rfl
   have g2 : fs.getD i (0 : Int) = fs[i]'(by omega) := getD_in (by omega) _
   have hmem : gdS rows i ∈ rows := by unfold gdS; rw [getD_in hi']; exact List.getElem_mem _
   have hnext : sumTo rows fs (i + 1) = plusS s (gdS rows i) (fs.getD i 0) := by rw [sumTo, hs]; rfl
   obtain ⟨v, h1, s', h2, h3⟩ := sum_val s (gdS rows i) (fs.getD i 0) (sumTo_fit hr i s hi hs).1 (hr.fit _ hmem) (getF hf)
   have h1 : G_sum34 (s.1, s.2) (gdS rows i) (fs.getD i 0) = some v := h1
   subst h2
   simp only [e1, x1, x2, g1, cond_true, Int.toNat_natCast]
   by_cases hneg : fs.getD i 0 < 0
   ·simp only [hneg, decide_true, cond_true]
    refine .inr ⟨_, rfl, ?_⟩
    have : fs.all (fun n => !decide (n < 0)) = false := by
     rw [List.all_eq_false]
     exact ⟨fs[i]'(by omega), List.getElem_mem _, by rw [← g2, decide_eq_true hneg]; simp⟩
    rw [this]; rfl
   ·simp only [hneg, decide_false, cond_false, h1, Option.bind_some, wrapN (show i < 4611686018427387904 by omega)]
    cases hp : plusS s (gdS rows i) (fs.getD i 0) with
    | none =>
     simp only [Option.isSome_none, Bool.not_false, cond_true]
     refine .inr ⟨_, rfl, ?_⟩
     rw [sumTo_none (i := i + 1) (by rw [hnext]; exact hp) rows.length (by omega)]
     simp [okS]
    | some r =>
     simp only [Option.isSome_some, Bool.not_true, cond_false]
     have := h3 r hp
     subst this
     refine .inl ⟨_, rfl, ⟨i + 1, s', rfl, by omega, by rw [hnext]; exact hp, fun j h a => ?_⟩, ?_⟩
     ·by_cases hj : j = i
      ·subst hj; rw [← g2]; exact hneg
      ·exact hpos j h (by omega)
     ·simp only [Int.toNat_natCast]; omega
  ·have e1 : decide ((i : Int) < (rows.length : Int)) = false := by apply decide_eq_false; omega
   refine .inr ⟨_, by simp only [e1, cond_false]; rfl, ?_⟩
   have : fs.all (fun n => !decide (n < 0)) = true := List.all_eq_true.2 fun n hn => by
    obtain ⟨j, hj, rfl⟩ := List.getElem_of_mem hn
    simp [hpos j hj (by omega)]
   rw [this, show rows.length = i by omega, hs]
   simp only [okS, Bool.true_and]
   cases decide ((s.2.length : Int) = 0) <;> rfl
 ·have e0 : decide ((fs.length : Int) = (rows.length : Int)) = false := by apply decide_eq_false; omega
  simp only [e0, hlen, decide_false, Bool.not_false, cond_true, Bool.false_and]
theorem idxNeg_val {fs : List Int} (hl : fs.length ≤ 4000000000) : ∃ r : Int, G_idxNeg fs () = some r ∧ (0 ≤ r ↔ fs.all (fun n => !decide (n < 0)) = false) := by
 unfold G_idxNeg G_isF1
 refine bind_wp (fun d => ∃ i : Nat, d = ((fs, (), (fs.length : Int), (i : Int), ()), ()) ∧ i ≤ fs.length ∧ ∀ j (h : j < fs.length), j < i → ¬ fs[j] < 0) (fun d => fs.length - d.1.2.2.2.1.toNat) ?_ ⟨0, rfl, Nat.zero_le _, fun j h a => by omega⟩
 rintro d ⟨i, rfl, hi, hg⟩
 simp only [Int.toNat_natCast]
 by_cases hi' : i < fs.length
 ·have e1 : decide ((i : Int) < (fs.length : Int)) = true := by apply decide_eq_true; omega
  have x1 : ixOK (i : Int) fs.length = true := ixOK_iff.2 (by omega)
  have g1 : fs.getD i (0 : Int) = fs[i] := getD_in hi' _
  simp only [e1, x1, g1, cond_true, Option.bind_some, Int.toNat_natCast, wrapN (show i < 4611686018427387904 by omega)]
  by_cases hc : fs[i] < 0
  ·simp only [hc, decide_true, cond_true]
   refine .inr ⟨_, rfl, _, rfl, ?_⟩
   constructor
   ·intro _
    rw [List.all_eq_false]
    exact ⟨fs[i], List.getElem_mem hi', by simp [hc]⟩
   ·intro _; omega
  ·simp only [hc, decide_false, cond_false]
   refine .inl ⟨_, rfl, ⟨i + 1, rfl, by omega, fun j h a => ?_⟩, ?_⟩
   ·by_cases hj : j = i
    ·subst hj; exact hc
    ·exact hg j h (by omega)
   ·simp only [Int.toNat_natCast]; omega
 ·have e1 : decide ((i : Int) < (fs.length : Int)) = false := by apply decide_eq_false; omega
  refine .inr ⟨_, by simp only [e1, cond_false]; rfl, _, rfl, ?_⟩
  constructor
  ·intro h; exact absurd h (by decide)
  ·intro h
   rw [List.all_eq_true.2 fun s hsm => by obtain ⟨j, hj, rfl⟩ := List.getElem_of_mem hsm; simp [hg j hj (by omega)]] at h
   cases h
theorem isF2_val {rows : List (Int × List (Int × Fm))} {fs : List Int} (hr : Rws rows) (hf : I64s fs) (hlen : fs.length = rows.length) : ∃ v, G_isF2 (rows, ()) (fs, ()) (0, [], ()) = some v ∧
  (∀ s, sumTo rows fs rows.length = some s → v = (OutD.ret (), ((s.1, s.2, ()), ()))) ∧ (sumTo rows fs rows.length = none → ∃ o, v = (OutD.pan (), o)) := by
 have hrl := hr.len
 unfold G_isF2
 refine loop_wp (fun d => ∃ (i : Nat) (s : Int × List (Int × Fm)), d = (((), (fs, ()), rows, (rows.length : Int), (i : Int), ()), ((s.1, s.2, ()), ())) ∧ i ≤ rows.length ∧ sumTo rows fs i = some s) (fun d => rows.length - d.1.2.2.2.2.1.toNat) _ ?_ _ ⟨0, (0, []), rfl, Nat.zero_le _, rfl⟩
 rintro d ⟨i, s, rfl, hi, hs⟩
 simp only [Int.toNat_natCast]
 by_cases hi' : i < rows.length
 ·have e1 : decide ((i : Int) < (rows.length : Int)) = true := by apply decide_eq_true; omega
  have x1 : ixOK (i : Int) rows.length = true := ixOK_iff.2 (by omega)
  have x2 : ixOK (i : Int) fs.length = true := ixOK_iff.2 (by omega)
  have g1 : rows.getD i ((0 : Int), ([] : List (Int × Fm))) = gdS rows i := rfl
  have hmem : gdS rows i ∈ rows := by unfold gdS; rw [getD_in hi']; exact List.getElem_mem _
  have hnext : sumTo rows fs (i + 1) = plusS s (gdS rows i) (fs.getD i 0) := by rw [sumTo, hs]; rfl
  have h1 : G_plus (s.1, s.2) (gdS rows i) (fs.getD i 0) = some (outP (plusS s (gdS rows i) (fs.getD i 0))) := plus_val s (gdS rows i) (fs.getD i 0) (sumTo_fit hr i s hi hs).1 (hr.fit _ hmem) (getF hf)
  simp only [e1, x1, x2, g1, h1, cond_true, Int.toNat_natCast, Option.bind_some]
  cases hp : plusS s (gdS rows i) (fs.getD i 0) with
  | none =>
   refine .inr ⟨_, rfl, fun s' hs' => ?_, fun _ => ⟨_, rfl⟩⟩
   rw [sumTo_none (i := i + 1) (by rw [hnext]; exact hp) rows.length (by omega)] at hs'; cases hs'
  | some r =>
   simp only [outP, wrapN (show i < 4611686018427387904 by omega)]
   refine .inl ⟨_, rfl, ⟨i + 1, r, rfl, by omega, by rw [hnext]; exact hp⟩, ?_⟩
   simp only [Int.toNat_natCast]; omega
 ·have e1 : decide ((i : Int) < (rows.length : Int)) = false := by apply decide_eq_false; omega
  refine .inr ⟨_, by simp only [e1, cond_false]; rfl, fun s' hs' => ?_, fun hn => ?_⟩
  ·rw [show rows.length = i by omega, hs] at hs'; cases hs'; rfl
  ·rw [show rows.length = i by omega, hs] at hn; cases hn
theorem isFactors_val {rows : List (Int × List (Int × Fm))} {fs : List Int} (hr : Rws rows) (hf : I64s fs) (hl : fs.length ≤ 4000000000) : G_isFactors rows fs = some (conB rows fs) := by
 have hrl := hr.len
 unfold G_isFactors conB G_cntNeg
 by_cases hlen : fs.length = rows.length
 ·have e0 : decide ((fs.length : Int) = (rows.length : Int)) = true := by apply decide_eq_true; omega
  obtain ⟨x, h1, h2⟩ := idxNeg_val hl
  simp only [e0, hlen, decide_true, Bool.not_true, Bool.not_false, cond_true, cond_false, Bool.true_and, h1, Option.bind_some]
  by_cases h : 0 ≤ x
  ·have e : decide (x ≥ 0) = true := decide_eq_true h
   simp only [e, cond_true, h2.1 h, Bool.false_and]
  ·have e : decide (x ≥ 0) = false := decide_eq_false h
   have hall : fs.all (fun n => !decide (n < 0)) = true := by
    cases hb : fs.all (fun n => !decide (n < 0)) with
    | true => rfl
    | false => exact absurd (h2.2 hb) h
   obtain ⟨v, q1, q2, q3⟩ := isF2_val hr hf hlen
   simp only [e, cond_false, hall, Bool.true_and, q1, Option.bind_some]
   cases hs : sumTo rows fs rows.length with
   | none =>
    obtain ⟨o, rfl⟩ := q3 hs
    simp [okS]
   | some s =>
    rw [q2 s hs]
    simp only [okS, cond_true]
    cases decide ((s.2.length : Int) = 0) <;> rfl
 ·have e0 : decide ((fs.length : Int) = (rows.length : Int)) = false := by apply decide_eq_false; omega
  simp only [e0, hlen, decide_false, Bool.not_false, Bool.not_true, cond_true, cond_false, Bool.false_and, Option.bind_some]
end Go.Ab

set_option maxRecDepth 100000
namespace Go.Ab
open Go Go.RowKit Go.Proofs
def headF (f : Fm) : List UInt8 := match (if f.k = 3 then f.l else []) with
 | [] => []
 | g :: _ => if g.k = 1 then g.t else []
theorem head_val' (f : Fm) : G_head f = some (headF f) := head_val f
theorem refHead_val (f : Fm) : G_refHead f = some (headF f) := by
 unfold G_refHead headF
 by_cases h3 : f.k = 3
 ·cases hl : f.l with
  | nil => simp [h3, ixOK]
  | cons g r =>
   have e : ixOK 0 (g :: r).length = true := ixOK_iff.2 (by simp only [List.length_cons]; omega)
   have e2 : decide (((g :: r).length : Int) = 0) = false := by apply decide_eq_false; simp only [List.length_cons]; omega
   simp only [h3, e, e2, decide_true, Bool.not_true, Bool.true_or, cond_true, cond_false, if_true]
   show cond (cond false true (!decide (g.k = 1))) (some []) (some g.t) = _
   by_cases h : g.k = 1 <;> simp [h]
 ·simp [h3]
theorem isp_val (f : Fm) (h : List UInt8) (c : Int) (hc : -1 ≤ c) (hc' : c ≤ 1000) (hh : h ≠ []) : G_isp f h c = some (decide (headF f = h) && (decide (c < 0) || decide ((f.l.length : Int) = c + 1))) := by
 unfold G_isp
 simp only [Fm.eta_eq, head_val', w64 (show -9223372036854775808 ≤ c + 1 by omega) (by omega)]
 by_cases h3 : f.k = 3
 ·by_cases hx : headF f = h
  ·by_cases hcc : c < 0 <;> simp [h3, hx, hcc]
  ·simp [h3, hx]
 ·have : headF f = [] := by unfold headF; rw [if_neg h3]
  have hx : ¬ headF f = h := by rw [this]; exact fun e => hh e.symm
  simp [h3, hx]
def badP (N : Nat) (p : Fm) (last : Int) : Bool := !decide (p.k = 3) || (!decide ((p.l.length : Int) = 2) || (!decide ((p.l.getD 0 (Fm.mk 0 0 [] [])).k = 0) || (!decide ((p.l.getD 1 (Fm.mk 0 0 [] [])).k = 0) || (decide ((p.l.getD 0 (Fm.mk 0 0 [] [])).n ≤ last) || (decide ((p.l.getD 0 (Fm.mk 0 0 [] [])).n ≥ (N : Int)) || decide ((p.l.getD 1 (Fm.mk 0 0 [] [])).n < 1))))))
def facS (N : Nat) : List Fm → Int → List Int → Option (List Int)
 | [], _, fs => some fs
 | p :: r, last, fs => if badP N p last = true then none else facS N r (p.l.getD 0 (Fm.mk 0 0 [] [])).n (fs.set (p.l.getD 0 (Fm.mk 0 0 [] [])).n.toNat (p.l.getD 1 (Fm.mk 0 0 [] [])).n)
def resB (rows : List (Int × List (Int × Fm))) : Option (List Int) → Bool
 | some fs => conB rows fs
 | none => false
def leafB (rows : List (Int × List (Int × Fm))) (ks : List Fm) : Bool := resB rows (facS rows.length ks (-1) (List.replicate rows.length 0))
theorem fields_kid {f g : Fm} (h : fieldsF f = true) (hg : g ∈ f.l) : fieldsF g = true := by
 rw [fieldsF_eq, Bool.and_eq_true] at h
 have : ∀ l : List Fm, fieldsL l = true → ∀ g ∈ l, fieldsF g = true := by
  intro l
  induction l with
  | nil => intro _ g hg; cases hg
  | cons a l ih =>
   intro h g hg
   simp only [fieldsL, Bool.and_eq_true] at h
   rcases List.mem_cons.1 hg with rfl | hg
   ·exact h.1
   ·exact ih h.2 g hg
 exact this _ h.2 g hg
theorem fields_n {f : Fm} (h : fieldsF f = true) : i64 f.n := by
 rw [fieldsF_eq, Bool.and_eq_true] at h
 have := h.1
 unfold leafS at this
 unfold i64
 split at this
 ·simp only [Bool.and_eq_true, decide_eq_true_eq] at this; omega
 ·split at this
  ·simp only [Bool.and_eq_true, decide_eq_true_eq] at this; omega
  ·split at this
   ·simp only [Bool.and_eq_true, decide_eq_true_eq] at this; omega
   ·split at this
    ·simp only [Bool.and_eq_true, decide_eq_true_eq] at this; omega
    ·cases this
theorem I64s.set {fs : List Int} (h : I64s fs) {i : Nat} {x : Int} (hx : i64 x) : I64s (fs.set i x) := fun n hn => by
 rcases List.mem_or_eq_of_mem_set hn with h' | rfl
 ·exact h n h'
 ·exact hx
theorem I64s.zero (n : Nat) : I64s (List.replicate n 0) := fun x hx => by
 rw [List.mem_replicate] at hx
 rw [hx.2]; exact ⟨by decide, by decide⟩
theorem leafO_val {rows : List (Int × List (Int × Fm))} {ks : List Fm} (hr : Rws rows) (hks : ∀ p ∈ ks, fieldsF p = true) (hkl : ks.length ≤ 1000000000) {F : Step ((Unit × Unit × Unit) × ((List (Int × List (Int × Fm))) × (List Int) × Unit)) (Step ((Unit) × ((List (Int × List (Int × Fm))) × Unit)) ((Bool) × (Unit))) → Option (Step ((Unit) × ((List (Int × List (Int × Fm))) × Unit)) ((Bool) × (Unit)))} (hF1 : ∀ fs, F (.next (((), (), ()), (rows, fs, ()))) = Option.bind (α := Bool) (G_isFactors rows fs) fun r => some (.done (r, ()))) (hF2 : ∀ r, F (.done r) = some r) : Option.bind (loopM (L := (Unit × Unit × Int × (List Fm) × Int × Int × Unit) × ((List (Int × List (Int × Fm))) × (List Int) × Unit)) (R := Step ((Unit × Unit × Unit) × ((List (Int × List (Int × Fm))) × (List Int) × Unit)) (Step ((Unit) × ((List (Int × List (Int × Fm))) × Unit)) ((Bool) × (Unit)))) (fun d2 => (
 let l3 := d2.2.1
 let l4 := d2.2.2.1
 let v8_5 := d2.1.2.2.1
 let v21_6 := d2.1.2.2.2.1
 let v22_7 := d2.1.2.2.2.2.1
 let v23_8 := d2.1.2.2.2.2.2.1
 cond (decide (v23_8 < v22_7)) (cond (ixOK v23_8 v21_6.length) (cond ((ixOK 0 ((v21_6.getD v23_8.toNat (Fm.mk 0 0 [] [])).l).length) || !(!(cond (!decide ((v21_6.getD v23_8.toNat (Fm.mk 0 0 [] [])).k = 3)) true (!decide ((((v21_6.getD v23_8.toNat (Fm.mk 0 0 [] [])).l).length : Int) = 2))))) (cond ((ixOK 1 ((v21_6.getD v23_8.toNat (Fm.mk 0 0 [] [])).l).length) || !(!(cond (cond (!decide ((v21_6.getD v23_8.toNat (Fm.mk 0 0 [] [])).k = 3)) true (!decide ((((v21_6.getD v23_8.toNat (Fm.mk 0 0 [] [])).l).length : Int) = 2))) true (!decide ((((v21_6.getD v23_8.toNat (Fm.mk 0 0 [] [])).l).getD (0 : Int).toNat (Fm.mk 0 0 [] [])).k = 0))))) (cond ((ixOK 0 ((v21_6.getD v23_8.toNat (Fm.mk 0 0 [] [])).l).length) || !(!(cond (cond (cond (!decide ((v21_6.getD v23_8.toNat (Fm.mk 0 0 [] [])).k = 3)) true (!decide ((((v21_6.getD v23_8.toNat (Fm.mk 0 0 [] [])).l).length : Int) = 2))) true (!decide ((((v21_6.getD v23_8.toNat (Fm.mk 0 0 [] [])).l).getD (0 : Int).toNat (Fm.mk 0 0 [] [])).k = 0))) true (!decide ((((v21_6.getD v23_8.toNat (Fm.mk 0 0 [] [])).l).getD (1 : Int).toNat (Fm.mk 0 0 [] [])).k = 0))))) (cond ((ixOK 0 ((v21_6.getD v23_8.toNat (Fm.mk 0 0 [] [])).l).length) || !(!(cond (cond (cond (cond (!decide ((v21_6.getD v23_8.toNat (Fm.mk 0 0 [] [])).k = 3)) true (!decide ((((v21_6.getD v23_8.toNat (Fm.mk 0 0 [] [])).l).length : Int) = 2))) true (!decide ((((v21_6.getD v23_8.toNat (Fm.mk 0 0 [] [])).l).getD (0 : Int).toNat (Fm.mk 0 0 [] [])).k = 0))) true (!decide ((((v21_6.getD v23_8.toNat (Fm.mk 0 0 [] [])).l).getD (1 : Int).toNat (Fm.mk 0 0 [] [])).k = 0))) true (decide ((((v21_6.getD v23_8.toNat (Fm.mk 0 0 [] [])).l).getD (0 : Int).toNat (Fm.mk 0 0 [] [])).n ≤ v8_5))))) (cond ((ixOK 1 ((v21_6.getD v23_8.toNat (Fm.mk 0 0 [] [])).l).length) || !(!(cond (cond (cond (cond (cond (!decide ((v21_6.getD v23_8.toNat (Fm.mk 0 0 [] [])).k = 3)) true (!decide ((((v21_6.getD v23_8.toNat (Fm.mk 0 0 [] [])).l).length : Int) = 2))) true (!decide ((((v21_6.getD v23_8.toNat (Fm.mk 0 0 [] [])).l).getD (0 : Int).toNat (Fm.mk 0 0 [] [])).k = 0))) true (!decide ((((v21_6.getD v23_8.toNat (Fm.mk 0 0 [] [])).l).getD (1 : Int).toNat (Fm.mk 0 0 [] [])).k = 0))) true (decide ((((v21_6.getD v23_8.toNat (Fm.mk 0 0 [] [])).l).getD (0 : Int).toNat (Fm.mk 0 0 [] [])).n ≤ v8_5))) true (decide ((((v21_6.getD v23_8.toNat (Fm.mk 0 0 [] [])).l).getD (0 : Int).toNat (Fm.mk 0 0 [] [])).n ≥ (l3.length : Int)))))) (cond (cond (cond (cond (cond (cond (cond (!decide ((v21_6.getD v23_8.toNat (Fm.mk 0 0 [] [])).k = 3)) true (!decide ((((v21_6.getD v23_8.toNat (Fm.mk 0 0 [] [])).l).length : Int) = 2))) true (!decide ((((v21_6.getD v23_8.toNat (Fm.mk 0 0 [] [])).l).getD (0 : Int).toNat (Fm.mk 0 0 [] [])).k = 0))) true (!decide ((((v21_6.getD v23_8.toNat (Fm.mk 0 0 [] [])).l).getD (1 : Int).toNat (Fm.mk 0 0 [] [])).k = 0))) true (decide ((((v21_6.getD v23_8.toNat (Fm.mk 0 0 [] [])).l).getD (0 : Int).toNat (Fm.mk 0 0 [] [])).n ≤ v8_5))) true (decide ((((v21_6.getD v23_8.toNat (Fm.mk 0 0 [] [])).l).getD (0 : Int).toNat (Fm.mk 0 0 [] [])).n ≥ (l3.length : Int)))) true (decide ((((v21_6.getD v23_8.toNat (Fm.mk 0 0 [] [])).l).getD (1 : Int).toNat (Fm.mk 0 0 [] [])).n < 1))) (some (Step.done (Step.done (Step.done (false, ()))))) (cond (ixOK 0 ((v21_6.getD v23_8.toNat (Fm.mk 0 0 [] [])).l).length) (cond (ixOK 1 ((v21_6.getD v23_8.toNat (Fm.mk 0 0 [] [])).l).length) (cond (ixOK ((((v21_6.getD v23_8.toNat (Fm.mk 0 0 [] [])).l).getD (0 : Int).toNat (Fm.mk 0 0 [] [])).n) l4.length) (cond (decide (((((v21_6.getD v23_8.toNat (Fm.mk 0 0 [] [])).l).getD (0 : Int).toNat (Fm.mk 0 0 [] [])).n).toNat < l4.length)) (some (Step.next (((), (), (((v21_6.getD v23_8.toNat (Fm.mk 0 0 [] [])).l).getD (0 : Int).toNat (Fm.mk 0 0 [] [])).n, v21_6, v22_7, IntKind.wrap .i64 (v23_8 + 1), ()), (l3, l4.set (((((v21_6.getD v23_8.toNat (Fm.mk 0 0 [] [])).l).getD (0 : Int).toNat (Fm.mk 0 0 [] [])).n).toNat) ((((v21_6.getD v23_8.toNat (Fm.mk 0 0 [] [])).l).getD (1 : Int).toNat (Fm.mk 0 0 [] [])).n), ())))) none) none) none) none)) none) none) none) none) none) none) (some (Step.done (Step.next (((), (), ()), (l3, l4, ()))))))) (((), (), (-1), ks, (ks.length : Int), 0, ()), (rows, List.replicate rows.length 0, ()))) F = some (Step.done (leafB rows ks, ())) := by
 have hrl := hr.len
 unfold leafB
 refine bind_loop (fun d => ∃ (i : Nat) (last : Int) (fs : List Int), d = (((), (), last, ks, (ks.length : Int), (i : Int), ()), (rows, fs, ())) ∧ i ≤ ks.length ∧ -1 ≤ last ∧ facS rows.length ks (-1) (List.replicate rows.length 0) = facS rows.length (ks.drop i) last fs ∧ fs.length = rows.length ∧ I64s fs) (fun d => ks.length - d.1.2.2.2.2.2.1.toNat) ?_ ⟨0, -1, _, rfl, Nat.zero_le _, Int.le_refl _, rfl, by simp, I64s.zero _⟩
 rintro d ⟨i, last, fs, rfl, hi, hlast, hm, hlen, hf⟩
 simp only [Int.toNat_natCast]
 by_cases hi' : i < ks.length
 ·have e1 : decide ((i : Int) < (ks.length : Int)) = true := by apply decide_eq_true; omega
  have x1 : ixOK ((i : Int) : Int) ks.length = true := ixOK_iff.2 (by omega)
  have g1 : ks.getD i (Fm.mk 0 0 [] []) = ks[i] := getD_in hi' _
  have hdr : facS rows.length (ks.drop i) last fs = if badP rows.length ks[i] last = true then none else facS rows.length (ks.drop (i + 1)) (ks[i].l.getD 0 (Fm.mk 0 0 [] [])).n (fs.set (ks[i].l.getD 0 (Fm.mk 0 0 [] [])).n.toNat (ks[i].l.getD 1 (Fm.mk 0 0 [] [])).n) := by
   rw [List.drop_eq_getElem_cons hi']; rfl
  have hfp : fieldsF ks[i] = true := hks _ (List.getElem_mem hi')
  simp only [e1, x1, g1, cond_true, Int.toNat_natCast, wrapN (show i < 4611686018427387904 by omega)]
  generalize ks[i] = p at hdr hfp
  have bad : badP rows.length p last = true → facS rows.length ks (-1) (List.replicate rows.length 0) = none := fun h => by rw [hm, hdr, if_pos h]
  by_cases h1 : p.k = 3
  ·by_cases h2 : (p.l.length : Int) = 2
   ·obtain ⟨a, b, hl⟩ : ∃ a b, p.l = [a, b] := by
     match hq : p.l, h2 with
     | [a, b], _ => exact ⟨a, b, rfl⟩
     | [], h => simp at h
     | [a], h => simp at h
     | a :: b :: c :: r, h => simp only [List.length_cons] at h; omega
    have x3 : ixOK 0 ([a, b] : List Fm).length = true := rfl
    have x4 : ixOK 1 ([a, b] : List Fm).length = true := rfl
    have y2 : decide ((([a, b] : List Fm).length : Int) = 2) = true := rfl
    have y0 : ([a, b] : List Fm).getD (0 : Int).toNat (Fm.mk 0 0 [] []) = a := rfl
    have y1 : ([a, b] : List Fm).getD (1 : Int).toNat (Fm.mk 0 0 [] []) = b := rfl
    have z0 : ([a, b] : List Fm).getD 0 (Fm.mk 0 0 [] []) = a := rfl
    have z1 : ([a, b] : List Fm).getD 1 (Fm.mk 0 0 [] []) = b := rfl
    rw [hl, z0, z1] at hdr
    have hbad : badP rows.length p last = (!decide (a.k = 0) || (!decide (b.k = 0) || (decide (a.n ≤ last) || (decide (a.n ≥ (rows.length : Int)) || decide (b.n < 1))))) := by
     unfold badP
     simp only [h1, hl, y2, z0, z1, decide_true, Bool.not_true, Bool.false_or]
    rw [hbad] at bad hdr
    simp only [h1, hl, x3, x4, y2, y0, y1, decide_true, Bool.not_true, cond_false, Bool.true_or, cond_true]
    by_cases k0 : a.k = 0
    ·by_cases k1 : b.k = 0
     ·by_cases n0 : a.n ≤ last
      ·simp only [k0, k1, n0, decide_true, Bool.not_true, cond_false, cond_true]
       exact .inr ⟨_, rfl, by rw [bad (by simp [n0])]; exact hF2 _⟩
      ·by_cases n1 : a.n ≥ (rows.length : Int)
       ·simp only [k0, k1, n0, n1, decide_true, decide_false, Bool.not_true, cond_false, cond_true]
        exact .inr ⟨_, rfl, by rw [bad (by simp [n1])]; exact hF2 _⟩
       ·by_cases n2 : b.n < 1
        ·simp only [k0, k1, n0, n1, n2, decide_true, decide_false, Bool.not_true, cond_false, cond_true]
         exact .inr ⟨_, rfl, by rw [bad (by simp [n2])]; exact hF2 _⟩
        ·have x5 : ixOK a.n fs.length = true := ixOK_iff.2 (by omega)
         have y5 : decide (a.n.toNat < fs.length) = true := by apply decide_eq_true; omega
         simp only [k0, k1, n0, n1, n2, x5, y5, decide_true, decide_false, Bool.not_true, cond_false, cond_true]
         have hb : i64 b.n := fields_n (fields_kid hfp (by rw [hl]; simp))
         rw [if_neg (by simp [k0, k1, n0, n1, n2])] at hdr
         refine .inl ⟨_, rfl, ⟨i + 1, a.n, _, rfl, by omega, by omega, by rw [hm, hdr], by rw [List.length_set]; exact hlen, I64s.set hf hb⟩, ?_⟩
         simp only [Int.toNat_natCast]; omega
     ·simp only [k0, k1, decide_true, decide_false, Bool.not_true, Bool.not_false, cond_false, cond_true]
      exact .inr ⟨_, rfl, by rw [bad (by simp [k1])]; exact hF2 _⟩
    ·simp only [k0, decide_false, Bool.not_true, Bool.not_false, cond_false, cond_true]
     exact .inr ⟨_, rfl, by rw [bad (by simp [k0])]; exact hF2 _⟩
   ·have hb : badP rows.length p last = true := by unfold badP; simp [h2]
    simp only [h1, h2, decide_true, decide_false, Bool.not_true, Bool.not_false, cond_false, cond_true, Bool.or_true]
    exact .inr ⟨_, rfl, by rw [bad hb]; exact hF2 _⟩
  ·have hb : badP rows.length p last = true := by unfold badP; simp [h1]
   simp only [h1, decide_false, Bool.not_true, Bool.not_false, cond_false, cond_true, Bool.or_true]
   exact .inr ⟨_, rfl, by rw [bad hb]; exact hF2 _⟩
 ·have e1 : decide ((i : Int) < (ks.length : Int)) = false := by apply decide_eq_false; omega
  refine .inr ⟨_, by simp only [e1, cond_false]; rfl, ?_⟩
  rw [hm, List.drop_of_length_le (by omega)]
  refine (hF1 _).trans ?_
  simp only [facS, resB, isFactors_val hr hf (by omega), Option.bind_some]
theorem leafW_val {rows : List (Int × List (Int × Fm))} {ks : List Fm} (hr : Rws rows) (hks : ∀ p ∈ ks, fieldsF p = true) (hkl : ks.length ≤ 1000000000) {F : Step (((List (Int × List (Int × Fm))) × Unit × Unit) × ((List Int) × Unit)) (Step ((Unit) × (Unit)) (Bool)) → Option (Step ((Unit) × (Unit)) (Bool))} (hF1 : ∀ fs, F (.next ((rows, (), ()), (fs, ()))) = Option.bind (α := Bool) (G_isFactors rows fs) fun r => some (.done r)) (hF2 : ∀ r, F (.done r) = some r) : Option.bind (loopM (L := ((List (Int × List (Int × Fm))) × Unit × Int × (List Fm) × Int × Int × Unit) × ((List Int) × Unit)) (R := Step (((List (Int × List (Int × Fm))) × Unit × Unit) × ((List Int) × Unit)) (Step ((Unit) × (Unit)) (Bool))) (fun d2 => (
 let l3 := d2.2.1
 let v0_4 := d2.1.1
 let v8_5 := d2.1.2.2.1
 let v21_6 := d2.1.2.2.2.1
 let v22_7 := d2.1.2.2.2.2.1
 let v23_8 := d2.1.2.2.2.2.2.1
 cond (decide (v23_8 < v22_7)) (cond (ixOK v23_8 v21_6.length) (cond ((ixOK 0 ((v21_6.getD v23_8.toNat (Fm.mk 0 0 [] [])).l).length) || !(!(cond (!decide ((v21_6.getD v23_8.toNat (Fm.mk 0 0 [] [])).k = 3)) true (!decide ((((v21_6.getD v23_8.toNat (Fm.mk 0 0 [] [])).l).length : Int) = 2))))) (cond ((ixOK 1 ((v21_6.getD v23_8.toNat (Fm.mk 0 0 [] [])).l).length) || !(!(cond (cond (!decide ((v21_6.getD v23_8.toNat (Fm.mk 0 0 [] [])).k = 3)) true (!decide ((((v21_6.getD v23_8.toNat (Fm.mk 0 0 [] [])).l).length : Int) = 2))) true (!decide ((((v21_6.getD v23_8.toNat (Fm.mk 0 0 [] [])).l).getD (0 : Int).toNat (Fm.mk 0 0 [] [])).k = 0))))) (cond ((ixOK 0 ((v21_6.getD v23_8.toNat (Fm.mk 0 0 [] [])).l).length) || !(!(cond (cond (cond (!decide ((v21_6.getD v23_8.toNat (Fm.mk 0 0 [] [])).k = 3)) true (!decide ((((v21_6.getD v23_8.toNat (Fm.mk 0 0 [] [])).l).length : Int) = 2))) true (!decide ((((v21_6.getD v23_8.toNat (Fm.mk 0 0 [] [])).l).getD (0 : Int).toNat (Fm.mk 0 0 [] [])).k = 0))) true (!decide ((((v21_6.getD v23_8.toNat (Fm.mk 0 0 [] [])).l).getD (1 : Int).toNat (Fm.mk 0 0 [] [])).k = 0))))) (cond ((ixOK 0 ((v21_6.getD v23_8.toNat (Fm.mk 0 0 [] [])).l).length) || !(!(cond (cond (cond (cond (!decide ((v21_6.getD v23_8.toNat (Fm.mk 0 0 [] [])).k = 3)) true (!decide ((((v21_6.getD v23_8.toNat (Fm.mk 0 0 [] [])).l).length : Int) = 2))) true (!decide ((((v21_6.getD v23_8.toNat (Fm.mk 0 0 [] [])).l).getD (0 : Int).toNat (Fm.mk 0 0 [] [])).k = 0))) true (!decide ((((v21_6.getD v23_8.toNat (Fm.mk 0 0 [] [])).l).getD (1 : Int).toNat (Fm.mk 0 0 [] [])).k = 0))) true (decide ((((v21_6.getD v23_8.toNat (Fm.mk 0 0 [] [])).l).getD (0 : Int).toNat (Fm.mk 0 0 [] [])).n ≤ v8_5))))) (cond ((ixOK 1 ((v21_6.getD v23_8.toNat (Fm.mk 0 0 [] [])).l).length) || !(!(cond (cond (cond (cond (cond (!decide ((v21_6.getD v23_8.toNat (Fm.mk 0 0 [] [])).k = 3)) true (!decide ((((v21_6.getD v23_8.toNat (Fm.mk 0 0 [] [])).l).length : Int) = 2))) true (!decide ((((v21_6.getD v23_8.toNat (Fm.mk 0 0 [] [])).l).getD (0 : Int).toNat (Fm.mk 0 0 [] [])).k = 0))) true (!decide ((((v21_6.getD v23_8.toNat (Fm.mk 0 0 [] [])).l).getD (1 : Int).toNat (Fm.mk 0 0 [] [])).k = 0))) true (decide ((((v21_6.getD v23_8.toNat (Fm.mk 0 0 [] [])).l).getD (0 : Int).toNat (Fm.mk 0 0 [] [])).n ≤ v8_5))) true (decide ((((v21_6.getD v23_8.toNat (Fm.mk 0 0 [] [])).l).getD (0 : Int).toNat (Fm.mk 0 0 [] [])).n ≥ (v0_4.length : Int)))))) (cond (cond (cond (cond (cond (cond (cond (!decide ((v21_6.getD v23_8.toNat (Fm.mk 0 0 [] [])).k = 3)) true (!decide ((((v21_6.getD v23_8.toNat (Fm.mk 0 0 [] [])).l).length : Int) = 2))) true (!decide ((((v21_6.getD v23_8.toNat (Fm.mk 0 0 [] [])).l).getD (0 : Int).toNat (Fm.mk 0 0 [] [])).k = 0))) true (!decide ((((v21_6.getD v23_8.toNat (Fm.mk 0 0 [] [])).l).getD (1 : Int).toNat (Fm.mk 0 0 [] [])).k = 0))) true (decide ((((v21_6.getD v23_8.toNat (Fm.mk 0 0 [] [])).l).getD (0 : Int).toNat (Fm.mk 0 0 [] [])).n ≤ v8_5))) true (decide ((((v21_6.getD v23_8.toNat (Fm.mk 0 0 [] [])).l).getD (0 : Int).toNat (Fm.mk 0 0 [] [])).n ≥ (v0_4.length : Int)))) true (decide ((((v21_6.getD v23_8.toNat (Fm.mk 0 0 [] [])).l).getD (1 : Int).toNat (Fm.mk 0 0 [] [])).n < 1))) (some (Step.done (Step.done (Step.done false)))) (cond (ixOK 0 ((v21_6.getD v23_8.toNat (Fm.mk 0 0 [] [])).l).length) (cond (ixOK 1 ((v21_6.getD v23_8.toNat (Fm.mk 0 0 [] [])).l).length) (cond (ixOK ((((v21_6.getD v23_8.toNat (Fm.mk 0 0 [] [])).l).getD (0 : Int).toNat (Fm.mk 0 0 [] [])).n) l3.length) (cond (decide (((((v21_6.getD v23_8.toNat (Fm.mk 0 0 [] [])).l).getD (0 : Int).toNat (Fm.mk 0 0 [] [])).n).toNat < l3.length)) (some (Step.next ((v0_4, (), (((v21_6.getD v23_8.toNat (Fm.mk 0 0 [] [])).l).getD (0 : Int).toNat (Fm.mk 0 0 [] [])).n, v21_6, v22_7, IntKind.wrap .i64 (v23_8 + 1), ()), (l3.set (((((v21_6.getD v23_8.toNat (Fm.mk 0 0 [] [])).l).getD (0 : Int).toNat (Fm.mk 0 0 [] [])).n).toNat) ((((v21_6.getD v23_8.toNat (Fm.mk 0 0 [] [])).l).getD (1 : Int).toNat (Fm.mk 0 0 [] [])).n), ())))) none) none) none) none)) none) none) none) none) none) none) (some (Step.done (Step.next ((v0_4, (), ()), (l3, ()))))))) ((rows, (), (-1), ks, (ks.length : Int), 0, ()), (List.replicate rows.length 0, ()))) F = some (Step.done (leafB rows ks)) := by
 have hrl := hr.len
 unfold leafB
 refine bind_loop (fun d => ∃ (i : Nat) (last : Int) (fs : List Int), d = ((rows, (), last, ks, (ks.length : Int), (i : Int), ()), (fs, ())) ∧ i ≤ ks.length ∧ -1 ≤ last ∧ facS rows.length ks (-1) (List.replicate rows.length 0) = facS rows.length (ks.drop i) last fs ∧ fs.length = rows.length ∧ I64s fs) (fun d => ks.length - d.1.2.2.2.2.2.1.toNat) ?_ ⟨0, -1, _, rfl, Nat.zero_le _, Int.le_refl _, rfl, by simp, I64s.zero _⟩
 rintro d ⟨i, last, fs, rfl, hi, hlast, hm, hlen, hf⟩
 simp only [Int.toNat_natCast]
 by_cases hi' : i < ks.length
 ·have e1 : decide ((i : Int) < (ks.length : Int)) = true := by apply decide_eq_true; omega
  have x1 : ixOK ((i : Int) : Int) ks.length = true := ixOK_iff.2 (by omega)
  have g1 : ks.getD i (Fm.mk 0 0 [] []) = ks[i] := getD_in hi' _
  have hdr : facS rows.length (ks.drop i) last fs = if badP rows.length ks[i] last = true then none else facS rows.length (ks.drop (i + 1)) (ks[i].l.getD 0 (Fm.mk 0 0 [] [])).n (fs.set (ks[i].l.getD 0 (Fm.mk 0 0 [] [])).n.toNat (ks[i].l.getD 1 (Fm.mk 0 0 [] [])).n) := by
   rw [List.drop_eq_getElem_cons hi']; rfl
  have hfp : fieldsF ks[i] = true := hks _ (List.getElem_mem hi')
  simp only [e1, x1, g1, cond_true, Int.toNat_natCast, wrapN (show i < 4611686018427387904 by omega)]
  generalize ks[i] = p at hdr hfp
  have bad : badP rows.length p last = true → facS rows.length ks (-1) (List.replicate rows.length 0) = none := fun h => by rw [hm, hdr, if_pos h]
  by_cases h1 : p.k = 3
  ·by_cases h2 : (p.l.length : Int) = 2
   ·obtain ⟨a, b, hl⟩ : ∃ a b, p.l = [a, b] := by
     match hq : p.l, h2 with
     | [a, b], _ => exact ⟨a, b, rfl⟩
     | [], h => simp at h
     | [a], h => simp at h
     | a :: b :: c :: r, h => simp only [List.length_cons] at h; omega
    have x3 : ixOK 0 ([a, b] : List Fm).length = true := rfl
    have x4 : ixOK 1 ([a, b] : List Fm).length = true := rfl
    have y2 : decide ((([a, b] : List Fm).length : Int) = 2) = true := rfl
    have y0 : ([a, b] : List Fm).getD (0 : Int).toNat (Fm.mk 0 0 [] []) = a := rfl
    have y1 : ([a, b] : List Fm).getD (1 : Int).toNat (Fm.mk 0 0 [] []) = b := rfl
    have z0 : ([a, b] : List Fm).getD 0 (Fm.mk 0 0 [] []) = a := rfl
    have z1 : ([a, b] : List Fm).getD 1 (Fm.mk 0 0 [] []) = b := rfl
    rw [hl, z0, z1] at hdr
    have hbad : badP rows.length p last = (!decide (a.k = 0) || (!decide (b.k = 0) || (decide (a.n ≤ last) || (decide (a.n ≥ (rows.length : Int)) || decide (b.n < 1))))) := by
     unfold badP
     simp only [h1, hl, y2, z0, z1, decide_true, Bool.not_true, Bool.false_or]
    rw [hbad] at bad hdr
    simp only [h1, hl, x3, x4, y2, y0, y1, decide_true, Bool.not_true, cond_false, Bool.true_or, cond_true]
    by_cases k0 : a.k = 0
    ·by_cases k1 : b.k = 0
     ·by_cases n0 : a.n ≤ last
      ·simp only [k0, k1, n0, decide_true, Bool.not_true, cond_false, cond_true]
       exact .inr ⟨_, rfl, by rw [bad (by simp [n0])]; exact hF2 _⟩
      ·by_cases n1 : a.n ≥ (rows.length : Int)
       ·simp only [k0, k1, n0, n1, decide_true, decide_false, Bool.not_true, cond_false, cond_true]
        exact .inr ⟨_, rfl, by rw [bad (by simp [n1])]; exact hF2 _⟩
       ·by_cases n2 : b.n < 1
        ·simp only [k0, k1, n0, n1, n2, decide_true, decide_false, Bool.not_true, cond_false, cond_true]
         exact .inr ⟨_, rfl, by rw [bad (by simp [n2])]; exact hF2 _⟩
        ·have x5 : ixOK a.n fs.length = true := ixOK_iff.2 (by omega)
         have y5 : decide (a.n.toNat < fs.length) = true := by apply decide_eq_true; omega
         simp only [k0, k1, n0, n1, n2, x5, y5, decide_true, decide_false, Bool.not_true, cond_false, cond_true]
         have hb : i64 b.n := fields_n (fields_kid hfp (by rw [hl]; simp))
         rw [if_neg (by simp [k0, k1, n0, n1, n2])] at hdr
         refine .inl ⟨_, rfl, ⟨i + 1, a.n, _, rfl, by omega, by omega, by rw [hm, hdr], by rw [List.length_set]; exact hlen, I64s.set hf hb⟩, ?_⟩
         simp only [Int.toNat_natCast]; omega
     ·simp only [k0, k1, decide_true, decide_false, Bool.not_true, Bool.not_false, cond_false, cond_true]
      exact .inr ⟨_, rfl, by rw [bad (by simp [k1])]; exact hF2 _⟩
    ·simp only [k0, decide_false, Bool.not_true, Bool.not_false, cond_false, cond_true]
     exact .inr ⟨_, rfl, by rw [bad (by simp [k0])]; exact hF2 _⟩
   ·have hb : badP rows.length p last = true := by unfold badP; simp [h2]
    simp only [h1, h2, decide_true, decide_false, Bool.not_true, Bool.not_false, cond_false, cond_true, Bool.or_true]
    exact .inr ⟨_, rfl, by rw [bad hb]; exact hF2 _⟩
  ·have hb : badP rows.length p last = true := by unfold badP; simp [h1]
   simp only [h1, decide_false, Bool.not_true, Bool.not_false, cond_false, cond_true, Bool.or_true]
   exact .inr ⟨_, rfl, by rw [bad hb]; exact hF2 _⟩
 ·have e1 : decide ((i : Int) < (ks.length : Int)) = false := by apply decide_eq_false; omega
  refine .inr ⟨_, by simp only [e1, cond_false]; rfl, ?_⟩
  rw [hm, List.drop_of_length_le (by omega)]
  refine (hF1 _).trans ?_
  simp only [facS, resB, isFactors_val hr hf (by omega), Option.bind_some]
theorem leafR_val {rows : List (Int × List (Int × Fm))} {ks : List Fm} {k0 : Fm} (hr : Rws rows) (hks : ∀ p ∈ ks, fieldsF p = true) (hkl : ks.length ≤ 1000000000) {F : Step (((List (Int × List (Int × Fm))) × Unit × Unit) × ((List Int) × Unit)) (Step ((Unit) × (Unit)) (Bool)) → Option (Step ((Unit) × (Unit)) (Bool))} (hF1 : ∀ fs, F (.next ((rows, (), ()), (fs, ()))) = Option.bind (α := Bool) (G_refConflict rows fs) fun r => some (.done r)) (hF2 : ∀ r, F (.done r) = some r) : Option.bind (loopM (L := ((List (Int × List (Int × Fm))) × (List Fm) × Unit × Int × Int × Unit) × ((List Int) × Unit)) (R := Step (((List (Int × List (Int × Fm))) × Unit × Unit) × ((List Int) × Unit)) (Step ((Unit) × (Unit)) (Bool))) (fun d2 => (
 let l3 := d2.2.1
 let v0_4 := d2.1.1
 let v7_5 := d2.1.2.1
 let v9_6 := d2.1.2.2.2.1
 let v10_7 := d2.1.2.2.2.2.1
 cond (decide (v10_7 < (v7_5.length : Int))) (cond (ixOK v10_7 v7_5.length) (cond ((ixOK 0 ((v7_5.getD v10_7.toNat (Fm.mk 0 0 [] [])).l).length) || !(!(cond (!decide ((v7_5.getD v10_7.toNat (Fm.mk 0 0 [] [])).k = 3)) true (!decide ((((v7_5.getD v10_7.toNat (Fm.mk 0 0 [] [])).l).length : Int) = 2))))) (cond ((ixOK 1 ((v7_5.getD v10_7.toNat (Fm.mk 0 0 [] [])).l).length) || !(!(cond (cond (!decide ((v7_5.getD v10_7.toNat (Fm.mk 0 0 [] [])).k = 3)) true (!decide ((((v7_5.getD v10_7.toNat (Fm.mk 0 0 [] [])).l).length : Int) = 2))) true (!decide ((((v7_5.getD v10_7.toNat (Fm.mk 0 0 [] [])).l).getD (0 : Int).toNat (Fm.mk 0 0 [] [])).k = 0))))) (cond (cond (cond (cond (!decide ((v7_5.getD v10_7.toNat (Fm.mk 0 0 [] [])).k = 3)) true (!decide ((((v7_5.getD v10_7.toNat (Fm.mk 0 0 [] [])).l).length : Int) = 2))) true (!decide ((((v7_5.getD v10_7.toNat (Fm.mk 0 0 [] [])).l).getD (0 : Int).toNat (Fm.mk 0 0 [] [])).k = 0))) true (!decide ((((v7_5.getD v10_7.toNat (Fm.mk 0 0 [] [])).l).getD (1 : Int).toNat (Fm.mk 0 0 [] [])).k = 0))) (some (Step.done (Step.done (Step.done false)))) (cond (ixOK 0 ((v7_5.getD v10_7.toNat (Fm.mk 0 0 [] [])).l).length) (cond ((ixOK 1 ((v7_5.getD v10_7.toNat (Fm.mk 0 0 [] [])).l).length) || !(!(cond (decide ((((v7_5.getD v10_7.toNat (Fm.mk 0 0 [] [])).l).getD (0 : Int).toNat (Fm.mk 0 0 [] [])).n ≤ v9_6)) true (decide ((((v7_5.getD v10_7.toNat (Fm.mk 0 0 [] [])).l).getD (0 : Int).toNat (Fm.mk 0 0 [] [])).n ≥ (v0_4.length : Int)))))) (cond (cond (cond (decide ((((v7_5.getD v10_7.toNat (Fm.mk 0 0 [] [])).l).getD (0 : Int).toNat (Fm.mk 0 0 [] [])).n ≤ v9_6)) true (decide ((((v7_5.getD v10_7.toNat (Fm.mk 0 0 [] [])).l).getD (0 : Int).toNat (Fm.mk 0 0 [] [])).n ≥ (v0_4.length : Int)))) true (decide ((((v7_5.getD v10_7.toNat (Fm.mk 0 0 [] [])).l).getD (1 : Int).toNat (Fm.mk 0 0 [] [])).n < 1))) (some (Step.done (Step.done (Step.done false)))) (cond (ixOK 1 ((v7_5.getD v10_7.toNat (Fm.mk 0 0 [] [])).l).length) (cond (ixOK ((((v7_5.getD v10_7.toNat (Fm.mk 0 0 [] [])).l).getD (0 : Int).toNat (Fm.mk 0 0 [] [])).n) l3.length) (cond (decide (((((v7_5.getD v10_7.toNat (Fm.mk 0 0 [] [])).l).getD (0 : Int).toNat (Fm.mk 0 0 [] [])).n).toNat < l3.length)) (some (Step.next ((v0_4, v7_5, (), (((v7_5.getD v10_7.toNat (Fm.mk 0 0 [] [])).l).getD (0 : Int).toNat (Fm.mk 0 0 [] [])).n, IntKind.wrap .i64 (v10_7 + 1), ()), (l3.set (((((v7_5.getD v10_7.toNat (Fm.mk 0 0 [] [])).l).getD (0 : Int).toNat (Fm.mk 0 0 [] [])).n).toNat) ((((v7_5.getD v10_7.toNat (Fm.mk 0 0 [] [])).l).getD (1 : Int).toNat (Fm.mk 0 0 [] [])).n), ())))) none) none) none)) none) none)) none) none) none) (some (Step.done (Step.next ((v0_4, (), ()), (l3, ()))))))) ((rows, k0 :: ks, (), (-1), 1, ()), (List.replicate rows.length 0, ()))) F = some (Step.done (leafB rows ks)) := by
 have hrl := hr.len
 unfold leafB
 refine bind_loop (fun d => ∃ (i : Nat) (last : Int) (fs : List Int), d = ((rows, k0 :: ks, (), last, ((i + 1 : Nat) : Int), ()), (fs, ())) ∧ i ≤ ks.length ∧ -1 ≤ last ∧ facS rows.length ks (-1) (List.replicate rows.length 0) = facS rows.length (ks.drop i) last fs ∧ fs.length = rows.length ∧ I64s fs) (fun d => ks.length - (d.1.2.2.2.2.1.toNat - 1)) ?_ ⟨0, -1, _, rfl, Nat.zero_le _, Int.le_refl _, rfl, by simp, I64s.zero _⟩
 rintro d ⟨i, last, fs, rfl, hi, hlast, hm, hlen, hf⟩
 simp only [Int.toNat_natCast]
 by_cases hi' : i < ks.length
 ·have e1 : decide (((i + 1 : Nat) : Int) < ((k0 :: ks).length : Int)) = true := by apply decide_eq_true; simp only [List.length_cons]; omega
  have x1 : ixOK (((i + 1 : Nat) : Int) : Int) (k0 :: ks).length = true := ixOK_iff.2 (by simp only [List.length_cons]; omega)
  have g1 : (k0 :: ks).getD (i + 1) (Fm.mk 0 0 [] []) = ks[i] := (getD_in (by simp only [List.length_cons]; omega) _)
  have hdr : facS rows.length (ks.drop i) last fs = if badP rows.length ks[i] last = true then none else facS rows.length (ks.drop (i + 1)) (ks[i].l.getD 0 (Fm.mk 0 0 [] [])).n (fs.set (ks[i].l.getD 0 (Fm.mk 0 0 [] [])).n.toNat (ks[i].l.getD 1 (Fm.mk 0 0 [] [])).n) := by
   rw [List.drop_eq_getElem_cons hi']; rfl
  have hfp : fieldsF ks[i] = true := hks _ (List.getElem_mem hi')
  simp only [e1, x1, g1, cond_true, Int.toNat_natCast, wrapN (show (i + 1) < 4611686018427387904 by omega)]
  generalize ks[i] = p at hdr hfp
  have bad : badP rows.length p last = true → facS rows.length ks (-1) (List.replicate rows.length 0) = none := fun h => by rw [hm, hdr, if_pos h]
  by_cases h1 : p.k = 3
  ·by_cases h2 : (p.l.length : Int) = 2
   ·obtain ⟨a, b, hl⟩ : ∃ a b, p.l = [a, b] := by
     match hq : p.l, h2 with
     | [a, b], _ => exact ⟨a, b, rfl⟩
     | [], h => simp at h
     | [a], h => simp at h
     | a :: b :: c :: r, h => simp only [List.length_cons] at h; omega
    have x3 : ixOK 0 ([a, b] : List Fm).length = true := rfl
    have x4 : ixOK 1 ([a, b] : List Fm).length = true := rfl
    have y2 : decide ((([a, b] : List Fm).length : Int) = 2) = true := rfl
    have y0 : ([a, b] : List Fm).getD (0 : Int).toNat (Fm.mk 0 0 [] []) = a := rfl
    have y1 : ([a, b] : List Fm).getD (1 : Int).toNat (Fm.mk 0 0 [] []) = b := rfl
    have z0 : ([a, b] : List Fm).getD 0 (Fm.mk 0 0 [] []) = a := rfl
    have z1 : ([a, b] : List Fm).getD 1 (Fm.mk 0 0 [] []) = b := rfl
    rw [hl, z0, z1] at hdr
    have hbad : badP rows.length p last = (!decide (a.k = 0) || (!decide (b.k = 0) || (decide (a.n ≤ last) || (decide (a.n ≥ (rows.length : Int)) || decide (b.n < 1))))) := by
     unfold badP
     simp only [h1, hl, y2, z0, z1, decide_true, Bool.not_true, Bool.false_or]
    rw [hbad] at bad hdr
    simp only [h1, hl, x3, x4, y2, y0, y1, decide_true, Bool.not_true, cond_false, Bool.true_or, cond_true]
    by_cases k0 : a.k = 0
    ·by_cases k1 : b.k = 0
     ·by_cases n0 : a.n ≤ last
      ·simp only [k0, k1, n0, decide_true, Bool.not_true, cond_false, cond_true]
       exact .inr ⟨_, rfl, by rw [bad (by simp [n0])]; exact hF2 _⟩
      ·by_cases n1 : a.n ≥ (rows.length : Int)
       ·simp only [k0, k1, n0, n1, decide_true, decide_false, Bool.not_true, cond_false, cond_true]
        exact .inr ⟨_, rfl, by rw [bad (by simp [n1])]; exact hF2 _⟩
       ·by_cases n2 : b.n < 1
        ·simp only [k0, k1, n0, n1, n2, decide_true, decide_false, Bool.not_true, cond_false, cond_true]
         exact .inr ⟨_, rfl, by rw [bad (by simp [n2])]; exact hF2 _⟩
        ·have x5 : ixOK a.n fs.length = true := ixOK_iff.2 (by omega)
         have y5 : decide (a.n.toNat < fs.length) = true := by apply decide_eq_true; omega
         simp only [k0, k1, n0, n1, n2, x5, y5, decide_true, decide_false, Bool.not_true, cond_false, cond_true]
         have hb : i64 b.n := fields_n (fields_kid hfp (by rw [hl]; simp))
         rw [if_neg (by simp [k0, k1, n0, n1, n2])] at hdr
         refine .inl ⟨_, rfl, ⟨i + 1, a.n, _, rfl, by omega, by omega, by rw [hm, hdr], by rw [List.length_set]; exact hlen, I64s.set hf hb⟩, ?_⟩
         simp only [Int.toNat_natCast]; omega
     ·simp only [k0, k1, decide_true, decide_false, Bool.not_true, Bool.not_false, cond_false, cond_true]
      exact .inr ⟨_, rfl, by rw [bad (by simp [k1])]; exact hF2 _⟩
    ·simp only [k0, decide_false, Bool.not_true, Bool.not_false, cond_false, cond_true]
     exact .inr ⟨_, rfl, by rw [bad (by simp [k0])]; exact hF2 _⟩
   ·have hb : badP rows.length p last = true := by unfold badP; simp [h2]
    simp only [h1, h2, decide_true, decide_false, Bool.not_true, Bool.not_false, cond_false, cond_true, Bool.or_true]
    exact .inr ⟨_, rfl, by rw [bad hb]; exact hF2 _⟩
  ·have hb : badP rows.length p last = true := by unfold badP; simp [h1]
   simp only [h1, decide_false, Bool.not_true, Bool.not_false, cond_false, cond_true, Bool.or_true]
   exact .inr ⟨_, rfl, by rw [bad hb]; exact hF2 _⟩
 ·have e1 : decide (((i + 1 : Nat) : Int) < ((k0 :: ks).length : Int)) = false := by apply decide_eq_false; simp only [List.length_cons]; omega
  refine .inr ⟨_, by simp only [e1, cond_false]; rfl, ?_⟩
  rw [hm, List.drop_of_length_le (by omega)]
  refine (hF1 _).trans ?_
  simp only [facS, resB, refConflict_val hr hf, Option.bind_some]
end Go.Ab

set_option maxRecDepth 100000
namespace Go.Ab
open Go Go.RowKit Go.Proofs
theorem wrap_range (n : Int) : i64 (IntKind.wrap .i64 n) := by unfold i64; rw [IntKind.wrap_i64]; omega
def factorsB : List UInt8 := [102, 97, 99, 116, 111, 114, 115]
def cutB : List UInt8 := [99, 117, 116]
theorem Rws.snoc {rows : List (Int × List (Int × Fm))} (h : Rws rows) (hl : rows.length < 1000) {k c : Int} {t : Fm} (hk : i64 k) (hc : i64 c) (ht : t.big ≤ 2000000000000) : Rws (rows ++ [(k, [(c, t)])]) := by
 refine ⟨by simp; omega, fun s hs => ?_, fun s hs => ?_⟩
 ·rcases List.mem_append.1 hs with hs | hs
  ·exact h.fit s hs
  ·simp at hs
   subst hs
   exact ⟨hk, by simp; exact hc, by simp; exact ht, by simp⟩
 ·rcases List.mem_append.1 hs with hs | hs
  ·exact h.each s hs
  ·simp at hs; subst hs; simp
theorem cond_of {α : Type} {b : Bool} {x y v : α} (h : b = true) (hx : x = v) : cond b x y = v := by subst h; exact hx
theorem cond_not {α : Type} {b : Bool} {x y v : α} (h : b = false) (hy : y = v) : cond b x y = v := by subst h; exact hy
theorem bind_cond_of {A B : Type} {b : Bool} {x y : Option A} {F : A → Option B} {v : Option B} (h : b = true) (hx : Option.bind x F = v) : Option.bind (cond b x y) F = v := by subst h; exact hx
theorem big_kid {f g : Fm} (h : g ∈ f.l) : g.big < f.big := by
 have := big_kids f; have := big_mem h; omega
theorem trees : ∀ f : Fm, fieldsF f = true → f.big ≤ 1000000000 → ∀ (rows : List (Int × List (Int × Fm))) (c : Int), Rws rows → 0 ≤ c → c ≤ 40 → rows.length ≤ 100 + c.toNat →
  ∃ b : Bool, (∀ k, Up (k < f.big) (G_showsO k f c rows) (b, ())) ∧ (∀ k, Up (k < f.big) (G_refIsTreeR k rows f c) b) := Fm.ind fun k0 n0 t0 kids ih hv hb rows c hr hc0 hc40 hlen => by
 generalize hf : Fm.mk k0 n0 t0 kids = f at hv hb
 have hfl : f.l = kids := by rw [← hf]; rfl
 have hrl := hr.len
 have hkl : kids.length < f.big := by have := length_le_big f.l; have := big_kids f; rw [hfl] at *; omega
 have z1 : ∀ (g : Nat → Option (Bool × Unit)) (b : Bool), g 0 = none → (∀ k, Up (k + 1 < f.big) (g (k + 1)) (b, ())) → ∀ k, Up (k < f.big) (g k) (b, ()) := fun g b h0 h k => by
  cases k with
  | zero => exact .inr ⟨h0, by have := big_pos f; omega⟩
  | succ k => exact h k
 have z2 : ∀ (g : Nat → Option Bool) (b : Bool), g 0 = none → (∀ k, Up (k + 1 < f.big) (g (k + 1)) b) → ∀ k, Up (k < f.big) (g k) b := fun g b h0 h k => by
  cases k with
  | zero => exact .inr ⟨h0, by have := big_pos f; omega⟩
  | succ k => exact h k
 have i1 : G_isp f [102, 97, 99, 116, 111, 114, 115] (-1) = some (decide (headF f = factorsB) && (decide ((-1 : Int) < 0) || decide ((f.l.length : Int) = -1 + 1))) := isp_val f _ (-1) (by decide) (by decide) (by simp)
 have i2 : G_isp f [99, 117, 116] 4 = some (decide (headF f = cutB) && (decide ((4 : Int) < 0) || decide ((f.l.length : Int) = 4 + 1))) := isp_val f _ 4 (by decide) (by decide) (by simp)
 have hks : ∀ p ∈ kids, fieldsF p = true := fun p hp => fields_kid hv (by rw [hfl]; exact hp)
 have e0 : decide ((0 : Int) ≤ (rows.length : Int) ∧ ((rows.length : Int) : Int) ≤ (rows.length : Int) ∧ ((rows.length : Int) : Int) * 8 ≤ 281474976710656) = true := by apply decide_eq_true; omega
 by_cases h1 : headF f = factorsB
 ·
  obtain ⟨a0, ks, hkk⟩ : ∃ a0 ks, kids = a0 :: ks := by
   cases hx : kids with
   | nil =>
    exfalso
    unfold headF at h1
    rw [hfl, hx] at h1
    simp [factorsB] at h1
   | cons a0 ks => exact ⟨a0, ks, rfl⟩
  have s1 : slOK 1 (f.l.length : Int) f.l.length = true := slOK_iff.2 (by rw [hfl, hkk]; simp only [List.length_cons]; omega)
  have s2 : (f.l.drop (1 : Int).toNat).take ((f.l.length : Int).toNat - (1 : Int).toNat) = ks := by
   rw [hfl, hkk]; show (ks.take (((a0 :: ks).length : Int).toNat - 1)) = ks
   exact List.take_of_length_le (by simp only [List.length_cons]; omega)
  have hksl : ks.length ≤ 1000000000 := by rw [hkk] at hkl; simp only [List.length_cons] at hkl; omega
  have hks' : ∀ p ∈ ks, fieldsF p = true := fun p hp => hks p (by rw [hkk]; simp [hp])
  refine ⟨leafB rows ks, z1 _ _ rfl fun k => .of ?_, z2 _ _ rfl fun k => .of ?_⟩
  ·show G_showsO (k + 1) f c rows = _
   unfold G_showsO
   refine bind_eq (v := .done (leafB rows ks, ())) (bind_eq (v := true) (by rw [Fm.eta_eq, i1, h1]; rfl) (cond_of rfl (cond_of e0 (bind_cond_of s1 ?_)))) rfl
   rw [s2]
   exact leafO_val hr hks' hksl (fun _ => rfl) (fun _ => rfl)
  ·show G_refIsTreeR (k + 1) rows f c = _
   unfold G_refIsTreeR
   have d2 : decide (headF f = [102, 97, 99, 116, 111, 114, 115]) = true := decide_eq_true h1
   refine bind_eq (v := .done (leafB rows ks)) (bind_eq (v := headF f) (by rw [Fm.eta_eq, refHead_val]) (cond_of d2 (cond_of e0 ?_))) rfl
   rw [hfl, hkk]
   exact leafR_val hr hks' hksl (fun _ => rfl) (fun _ => rfl)
 have d1 : (decide (headF f = factorsB)) = false := decide_eq_false h1
 have d1' : (decide (headF f = [102, 97, 99, 116, 111, 114, 115])) = false := d1
 have j1 : G_isp f [102, 97, 99, 116, 111, 114, 115] (-1) = some false := by rw [i1, d1]; rfl
 by_cases hc : headF f = cutB
 ·have d2 : (decide (headF f = cutB)) = true := decide_eq_true hc
  have d2' : (decide (headF f = [99, 117, 116])) = true := d2
  by_cases hl5 : kids.length = 5
  ·obtain ⟨a, t, z, d, e, hl⟩ : ∃ a t z d e, kids = [a, t, z, d, e] := by
    match kids, hl5 with
    | [a, t, z, d, e], _ => exact ⟨a, t, z, d, e, rfl⟩
   have hl' : f.l = [a, t, z, d, e] := by rw [hfl, hl]
   have j2 : G_isp f [99, 117, 116] 4 = some true := by rw [i2, d2, hl']; rfl
   have x1 : ixOK 1 ([a, t, z, d, e] : List Fm).length = true := rfl
   have x2 : ixOK 2 ([a, t, z, d, e] : List Fm).length = true := rfl
   have x3 : ixOK 3 ([a, t, z, d, e] : List Fm).length = true := rfl
   have x4 : ixOK 4 ([a, t, z, d, e] : List Fm).length = true := rfl
   have y1 : ([a, t, z, d, e] : List Fm).getD (1 : Int).toNat (Fm.mk 0 0 [] []) = t := rfl
   have y2 : ([a, t, z, d, e] : List Fm).getD (2 : Int).toNat (Fm.mk 0 0 [] []) = z := rfl
   have y3 : ([a, t, z, d, e] : List Fm).getD (3 : Int).toNat (Fm.mk 0 0 [] []) = d := rfl
   have y4 : ([a, t, z, d, e] : List Fm).getD (4 : Int).toNat (Fm.mk 0 0 [] []) = e := rfl
   have l5 : decide (((([a, t, z, d, e] : List Fm).length : Nat) : Int) = 5) = true := rfl
   by_cases hz : z.k = 0
   ·by_cases hw : (wholeS (IntKind.wrap .i64 (z.n + 1))).isSome = true
    ·by_cases h40 : c ≥ 40
     ·refine ⟨false, z1 _ _ rfl fun k => .of ?_, z2 _ _ rfl fun k => .of ?_⟩
      ·show G_showsO (k + 1) f c rows = _
       unfold G_showsO
       simp only [Fm.eta_eq, j1, j2, hl', x1, x2, y2, hz, h40, within_val, decide_true, Bool.not_true, Bool.not_false, Option.bind_some, cond_true, cond_false, hw]
      ·show G_refIsTreeR (k + 1) rows f c = _
       unfold G_refIsTreeR
       simp only [Fm.eta_eq, refHead_val, d1', d2', hl', l5, x1, x2, y2, hz, h40, decide_true, Bool.not_true, Bool.not_false, Bool.true_or, Option.bind_some, cond_true, cond_false]
     ·have hc1 : IntKind.wrap .i64 (c + 1) = c + 1 := w64 (by omega) (by omega)
      have hkid : ∀ g ∈ kids, g.big ≤ 1000000000 := fun g hg => by have := big_kid (f := f) (g := g) (by rw [hfl]; exact hg); omega
      have hbig : ∀ g ∈ kids, g.big < f.big := fun g hg => big_kid (by rw [hfl]; exact hg)
      have mt : t ∈ kids := by rw [hl]; simp
      have md : d ∈ kids := by rw [hl]; simp
      have me : e ∈ kids := by rw [hl]; simp
      have r1 : Rws (rows ++ [(IntKind.wrap .i64 (0 - z.n), [(1, t)])]) := hr.snoc (by omega) (wrap_range _) ⟨by decide, by decide⟩ (by have := hkid t mt; omega)
      have r2 : Rws (rows ++ [(IntKind.wrap .i64 (z.n + 1), [(-1, t)])]) := hr.snoc (by omega) (wrap_range _) ⟨by decide, by decide⟩ (by have := hkid t mt; omega)
      obtain ⟨b1, p1, q1⟩ := ih d md (hks d md) (hkid d md) _ (c + 1) r1 (by omega) (by omega) (by simp only [List.length_append, List.length_cons, List.length_nil]; omega)
      obtain ⟨b2, p2, q2⟩ := ih e me (hks e me) (hkid e me) _ (c + 1) r2 (by omega) (by omega) (by simp only [List.length_append, List.length_cons, List.length_nil]; omega)
      have hcl : cloneF 32 rows = some ((), (rows, ())) := by
       unfold cloneF
       exact cond_of (by apply decide_eq_true; omega) rfl
      have hap : ∀ {α : Type} (r : α) (i : Decidable ((rows.length + ([r] : List α).length) * 32 ≤ 140737488355328)), @decide _ i = true := fun r i => by apply decide_eq_true; simp only [List.length_cons, List.length_nil]; omega
      have hap3 : decide ((([] : List (Int × List (Int × Fm))).length + rows.length) * 32 ≤ 140737488355328) = true := by apply decide_eq_true; simp only [List.length_nil]; omega
      refine ⟨b1 && b2, z1 _ _ rfl fun k => ?_, z2 _ _ rfl fun k => ?_⟩
      ·show Up _ (G_showsO (k + 1) f c rows) _
       unfold G_showsO
       have d40 : decide (c ≥ 40) = false := decide_eq_false h40
       simp only [Fm.eta_eq, j1, j2, hl', x1, x2, x3, x4, y1, y2, y3, y4, hz, d40, within_val, decide_true, Bool.not_true, Bool.not_false, Bool.true_or, Option.bind_some, cond_true, cond_false, hw, hcl, G_lcut, hap, hc1]
       refine Up.bind (v := .done (b1 && b2, ())) (Up.bind (v := (b1, ())) ((p1 k).mono fun h => by have := hbig d md; omega) ?_) (.of rfl)
       cases b1 with
       | false => exact .of rfl
       | true => exact Up.bind (v := (b2, ())) ((p2 k).mono fun h => by have := hbig e me; omega) (.of rfl)
      ·show Up _ (G_refIsTreeR (k + 1) rows f c) _
       unfold G_refIsTreeR
       have d40 : decide (c ≥ 40) = false := decide_eq_false h40
       simp only [Fm.eta_eq, refHead_val, d1', d2', hl', l5, x1, x2, x3, x4, y1, y2, y3, y4, hz, d40, small34_val, decide_true, Bool.not_true, Bool.not_false, Bool.true_or, Option.bind_some, cond_true, cond_false, hw, List.nil_append, hap, hap3, hc1]
       refine Up.bind (v := .done (b1 && b2)) ?_ (.of rfl)
       refine (Up.bind (v := b1) ((q1 k).mono fun h => by have := hbig d md; omega) ?_)
       cases b1 with
       | false => exact .of rfl
       | true => exact Up.bind (v := b2) ((q2 k).mono fun h => by have := hbig e me; omega) (.of rfl)
    ·have hw' : (wholeS (IntKind.wrap .i64 (z.n + 1))).isSome = false := by simpa using hw
     refine ⟨false, z1 _ _ rfl fun k => .of ?_, z2 _ _ rfl fun k => .of ?_⟩
     ·show G_showsO (k + 1) f c rows = _
      unfold G_showsO
      simp only [Fm.eta_eq, j1, j2, hl', x1, x2, y2, hz, within_val, decide_true, Bool.not_true, Bool.not_false, Option.bind_some, cond_true, cond_false, hw']
     ·show G_refIsTreeR (k + 1) rows f c = _
      unfold G_refIsTreeR
      by_cases h40 : c ≥ 40
      ·simp only [Fm.eta_eq, refHead_val, d1', d2', hl', l5, x1, x2, y2, hz, h40, decide_true, Bool.not_true, Bool.not_false, Bool.true_or, Option.bind_some, cond_true, cond_false]
      ·simp only [Fm.eta_eq, refHead_val, d1', d2', hl', l5, x1, x2, y2, hz, h40, small34_val, decide_true, decide_false, Bool.not_true, Bool.not_false, Bool.true_or, Option.bind_some, cond_true, cond_false, hw']
   ·refine ⟨false, z1 _ _ rfl fun k => .of ?_, z2 _ _ rfl fun k => .of ?_⟩
    ·show G_showsO (k + 1) f c rows = _
     unfold G_showsO
     simp only [Fm.eta_eq, j1, j2, hl', x1, x2, y2, hz, decide_false, Bool.not_true, Bool.not_false, Option.bind_some, cond_true, cond_false]
    ·show G_refIsTreeR (k + 1) rows f c = _
     unfold G_refIsTreeR
     simp only [Fm.eta_eq, refHead_val, d1', d2', hl', l5, x1, x2, y2, hz, decide_false, decide_true, Bool.not_true, Bool.not_false, Bool.true_or, Option.bind_some, cond_true, cond_false]
  ·have dl : decide ((f.l.length : Int) = 4 + 1) = false := by apply decide_eq_false; rw [hfl]; omega
   have dl' : decide ((f.l.length : Int) = 5) = false := by apply decide_eq_false; rw [hfl]; omega
   have j2 : G_isp f [99, 117, 116] 4 = some false := by rw [i2, d2, dl]; rfl
   refine ⟨false, z1 _ _ rfl fun k => .of ?_, z2 _ _ rfl fun k => .of ?_⟩
   ·show G_showsO (k + 1) f c rows = _
    unfold G_showsO
    simp only [Fm.eta_eq, j1, j2, Option.bind_some, cond_false]
   ·show G_refIsTreeR (k + 1) rows f c = _
    unfold G_refIsTreeR
    simp only [Fm.eta_eq, refHead_val, d1', d2', dl', Bool.not_false, Bool.not_true, Bool.or_true, Option.bind_some, cond_true, cond_false]
 ·have d2 : (decide (headF f = cutB)) = false := decide_eq_false hc
  have d2' : (decide (headF f = [99, 117, 116])) = false := d2
  have j2 : G_isp f [99, 117, 116] 4 = some false := by rw [i2, d2]; rfl
  refine ⟨false, z1 _ _ rfl fun k => .of ?_, z2 _ _ rfl fun k => .of ?_⟩
  ·show G_showsO (k + 1) f c rows = _
   unfold G_showsO
   simp only [Fm.eta_eq, j1, j2, Option.bind_some, cond_false]
  ·show G_refIsTreeR (k + 1) rows f c = _
   unfold G_refIsTreeR
   simp only [Fm.eta_eq, refHead_val, d1', d2', Option.bind_some, cond_false]
end Go.Ab

set_option maxRecDepth 100000
namespace Go.Ab
open Go Go.RowKit Go.Proofs
theorem shows_val (f : Fm) (hv : fieldsF f = true) (hb : f.big ≤ 1000000000) (rows : List (Int × List (Int × Fm))) (c : Int) (hr : Rws rows) (hc0 : 0 ≤ c) (hc40 : c ≤ 40) (hlen : rows.length ≤ 100 + c.toNat) : ∃ b : Bool, G_shows rows f c = some b ∧ (∀ k, Up (k < f.big) (G_refIsTreeR k rows f c) b) := by
 obtain ⟨kids, hk0⟩ : ∃ kids, f.l = kids := ⟨_, rfl⟩
 have hfl : f.l = kids := hk0
 have hrl := hr.len
 have hkl : kids.length < f.big := by have := length_le_big f.l; have := big_kids f; rw [hfl] at *; omega
 have ih : ∀ g ∈ kids, fieldsF g = true → g.big ≤ 1000000000 → ∀ (rows : List (Int × List (Int × Fm))) (c : Int), Rws rows → 0 ≤ c → c ≤ 40 → rows.length ≤ 100 + c.toNat → ∃ b : Bool, (∀ k, Up (k < g.big) (G_showsO k g c rows) (b, ())) ∧ (∀ k, Up (k < g.big) (G_refIsTreeR k rows g c) b) := fun g _ => trees g
 have z2 : ∀ (g : Nat → Option Bool) (b : Bool), g 0 = none → (∀ k, Up (k + 1 < f.big) (g (k + 1)) b) → ∀ k, Up (k < f.big) (g k) b := fun g b h0 h k => by
  cases k with
  | zero => exact .inr ⟨h0, by have := big_pos f; omega⟩
  | succ k => exact h k
 have i1 : G_isp f [102, 97, 99, 116, 111, 114, 115] (-1) = some (decide (headF f = factorsB) && (decide ((-1 : Int) < 0) || decide ((f.l.length : Int) = -1 + 1))) := isp_val f _ (-1) (by decide) (by decide) (by simp)
 have i2 : G_isp f [99, 117, 116] 4 = some (decide (headF f = cutB) && (decide ((4 : Int) < 0) || decide ((f.l.length : Int) = 4 + 1))) := isp_val f _ 4 (by decide) (by decide) (by simp)
 have hks : ∀ p ∈ kids, fieldsF p = true := fun p hp => fields_kid hv (by rw [hfl]; exact hp)
 have e0 : decide ((0 : Int) ≤ (rows.length : Int) ∧ ((rows.length : Int) : Int) ≤ (rows.length : Int) ∧ ((rows.length : Int) : Int) * 8 ≤ 281474976710656) = true := by apply decide_eq_true; omega
 by_cases h1 : headF f = factorsB
 ·
  obtain ⟨a0, ks, hkk⟩ : ∃ a0 ks, kids = a0 :: ks := by
   cases hx : kids with
   | nil =>
    exfalso
    unfold headF at h1
    rw [hfl, hx] at h1
    simp [factorsB] at h1
   | cons a0 ks => exact ⟨a0, ks, rfl⟩
  have s1 : slOK 1 (f.l.length : Int) f.l.length = true := slOK_iff.2 (by rw [hfl, hkk]; simp only [List.length_cons]; omega)
  have s2 : (f.l.drop (1 : Int).toNat).take ((f.l.length : Int).toNat - (1 : Int).toNat) = ks := by
   rw [hfl, hkk]; show (ks.take (((a0 :: ks).length : Int).toNat - 1)) = ks
   exact List.take_of_length_le (by simp only [List.length_cons]; omega)
  have hksl : ks.length ≤ 1000000000 := by rw [hkk] at hkl; simp only [List.length_cons] at hkl; omega
  have hks' : ∀ p ∈ ks, fieldsF p = true := fun p hp => hks p (by rw [hkk]; simp [hp])
  refine ⟨leafB rows ks, ?_, z2 _ _ rfl fun k => .of ?_⟩
  ·show G_shows rows f c = _
   unfold G_shows
   refine bind_eq (v := .done (leafB rows ks)) (bind_eq (v := true) (by rw [Fm.eta_eq, i1, h1]; rfl) (cond_of rfl (cond_of e0 (bind_cond_of s1 ?_)))) rfl
   rw [s2]
   exact leafW_val hr hks' hksl (fun _ => rfl) (fun _ => rfl)
  ·show G_refIsTreeR (k + 1) rows f c = _
   unfold G_refIsTreeR
   have d2 : decide (headF f = [102, 97, 99, 116, 111, 114, 115]) = true := decide_eq_true h1
   refine bind_eq (v := .done (leafB rows ks)) (bind_eq (v := headF f) (by rw [Fm.eta_eq, refHead_val]) (cond_of d2 (cond_of e0 ?_))) rfl
   rw [hfl, hkk]
   exact leafR_val hr hks' hksl (fun _ => rfl) (fun _ => rfl)
 have d1 : (decide (headF f = factorsB)) = false := decide_eq_false h1
 have d1' : (decide (headF f = [102, 97, 99, 116, 111, 114, 115])) = false := d1
 have j1 : G_isp f [102, 97, 99, 116, 111, 114, 115] (-1) = some false := by rw [i1, d1]; rfl
 by_cases hc : headF f = cutB
 ·have d2 : (decide (headF f = cutB)) = true := decide_eq_true hc
  have d2' : (decide (headF f = [99, 117, 116])) = true := d2
  by_cases hl5 : kids.length = 5
  ·obtain ⟨a, t, z, d, e, hl⟩ : ∃ a t z d e, kids = [a, t, z, d, e] := by
    match kids, hl5 with
    | [a, t, z, d, e], _ => exact ⟨a, t, z, d, e, rfl⟩
   have hl' : f.l = [a, t, z, d, e] := by rw [hfl, hl]
   have j2 : G_isp f [99, 117, 116] 4 = some true := by rw [i2, d2, hl']; rfl
   have x1 : ixOK 1 ([a, t, z, d, e] : List Fm).length = true := rfl
   have x2 : ixOK 2 ([a, t, z, d, e] : List Fm).length = true := rfl
   have x3 : ixOK 3 ([a, t, z, d, e] : List Fm).length = true := rfl
   have x4 : ixOK 4 ([a, t, z, d, e] : List Fm).length = true := rfl
   have y1 : ([a, t, z, d, e] : List Fm).getD (1 : Int).toNat (Fm.mk 0 0 [] []) = t := rfl
   have y2 : ([a, t, z, d, e] : List Fm).getD (2 : Int).toNat (Fm.mk 0 0 [] []) = z := rfl
   have y3 : ([a, t, z, d, e] : List Fm).getD (3 : Int).toNat (Fm.mk 0 0 [] []) = d := rfl
   have y4 : ([a, t, z, d, e] : List Fm).getD (4 : Int).toNat (Fm.mk 0 0 [] []) = e := rfl
   have l5 : decide (((([a, t, z, d, e] : List Fm).length : Nat) : Int) = 5) = true := rfl
   by_cases hz : z.k = 0
   ·by_cases hw : (wholeS (IntKind.wrap .i64 (z.n + 1))).isSome = true
    ·by_cases h40 : c ≥ 40
     ·refine ⟨false, ?_, z2 _ _ rfl fun k => .of ?_⟩
      ·show G_shows rows f c = _
       unfold G_shows
       simp only [Fm.eta_eq, j1, j2, hl', x1, x2, y2, hz, h40, within_val, decide_true, Bool.not_true, Bool.not_false, Option.bind_some, cond_true, cond_false, hw]
      ·show G_refIsTreeR (k + 1) rows f c = _
       unfold G_refIsTreeR
       simp only [Fm.eta_eq, refHead_val, d1', d2', hl', l5, x1, x2, y2, hz, h40, decide_true, Bool.not_true, Bool.not_false, Bool.true_or, Option.bind_some, cond_true, cond_false]
     ·have hc1 : IntKind.wrap .i64 (c + 1) = c + 1 := w64 (by omega) (by omega)
      have hkid : ∀ g ∈ kids, g.big ≤ 1000000000 := fun g hg => by have := big_kid (f := f) (g := g) (by rw [hfl]; exact hg); omega
      have hbig : ∀ g ∈ kids, g.big < f.big := fun g hg => big_kid (by rw [hfl]; exact hg)
      have mt : t ∈ kids := by rw [hl]; simp
      have md : d ∈ kids := by rw [hl]; simp
      have me : e ∈ kids := by rw [hl]; simp
      have r1 : Rws (rows ++ [(IntKind.wrap .i64 (0 - z.n), [(1, t)])]) := hr.snoc (by omega) (wrap_range _) ⟨by decide, by decide⟩ (by have := hkid t mt; omega)
      have r2 : Rws (rows ++ [(IntKind.wrap .i64 (z.n + 1), [(-1, t)])]) := hr.snoc (by omega) (wrap_range _) ⟨by decide, by decide⟩ (by have := hkid t mt; omega)
      obtain ⟨b1, p1, q1⟩ := ih d md (hks d md) (hkid d md) _ (c + 1) r1 (by omega) (by omega) (by simp only [List.length_append, List.length_cons, List.length_nil]; omega)
      obtain ⟨b2, p2, q2⟩ := ih e me (hks e me) (hkid e me) _ (c + 1) r2 (by omega) (by omega) (by simp only [List.length_append, List.length_cons, List.length_nil]; omega)
      have hcl : cloneF 32 rows = some ((), (rows, ())) := by
       unfold cloneF
       exact cond_of (by apply decide_eq_true; omega) rfl
      have hap : ∀ {α : Type} (r : α) (i : Decidable ((rows.length + ([r] : List α).length) * 32 ≤ 140737488355328)), @decide _ i = true := fun r i => by apply decide_eq_true; simp only [List.length_cons, List.length_nil]; omega
      have hap3 : decide ((([] : List (Int × List (Int × Fm))).length + rows.length) * 32 ≤ 140737488355328) = true := by apply decide_eq_true; simp only [List.length_nil]; omega
      refine ⟨b1 && b2, ?_, z2 _ _ rfl fun k => ?_⟩
      ·show G_shows rows f c = _
       unfold G_shows
       have d40 : decide (c ≥ 40) = false := decide_eq_false h40
       simp only [Fm.eta_eq, j1, j2, hl', x1, x2, x3, x4, y1, y2, y3, y4, hz, d40, within_val, decide_true, Bool.not_true, Bool.not_false, Bool.true_or, Option.bind_some, cond_true, cond_false, hw, hcl, G_lcut, hap, hc1]
       refine bind_eq (v := .done (b1 && b2)) (bind_eq (v := (b1, ())) (limF_up p1) ?_) rfl
       cases b1 with
       | false => rfl
       | true => exact bind_eq (v := (b2, ())) (limF_up p2) rfl
      ·show Up _ (G_refIsTreeR (k + 1) rows f c) _
       unfold G_refIsTreeR
       have d40 : decide (c ≥ 40) = false := decide_eq_false h40
       simp only [Fm.eta_eq, refHead_val, d1', d2', hl', l5, x1, x2, x3, x4, y1, y2, y3, y4, hz, d40, small34_val, decide_true, Bool.not_true, Bool.not_false, Bool.true_or, Option.bind_some, cond_true, cond_false, hw, List.nil_append, hap, hap3, hc1]
       refine Up.bind (v := .done (b1 && b2)) ?_ (.of rfl)
       refine (Up.bind (v := b1) ((q1 k).mono fun h => by have := hbig d md; omega) ?_)
       cases b1 with
       | false => exact .of rfl
       | true => exact Up.bind (v := b2) ((q2 k).mono fun h => by have := hbig e me; omega) (.of rfl)
    ·have hw' : (wholeS (IntKind.wrap .i64 (z.n + 1))).isSome = false := by simpa using hw
     refine ⟨false, ?_, z2 _ _ rfl fun k => .of ?_⟩
     ·show G_shows rows f c = _
      unfold G_shows
      simp only [Fm.eta_eq, j1, j2, hl', x1, x2, y2, hz, within_val, decide_true, Bool.not_true, Bool.not_false, Option.bind_some, cond_true, cond_false, hw']
     ·show G_refIsTreeR (k + 1) rows f c = _
      unfold G_refIsTreeR
      by_cases h40 : c ≥ 40
      ·simp only [Fm.eta_eq, refHead_val, d1', d2', hl', l5, x1, x2, y2, hz, h40, decide_true, Bool.not_true, Bool.not_false, Bool.true_or, Option.bind_some, cond_true, cond_false]
      ·simp only [Fm.eta_eq, refHead_val, d1', d2', hl', l5, x1, x2, y2, hz, h40, small34_val, decide_true, decide_false, Bool.not_true, Bool.not_false, Bool.true_or, Option.bind_some, cond_true, cond_false, hw']
   ·refine ⟨false, ?_, z2 _ _ rfl fun k => .of ?_⟩
    ·show G_shows rows f c = _
     unfold G_shows
     simp only [Fm.eta_eq, j1, j2, hl', x1, x2, y2, hz, decide_false, Bool.not_true, Bool.not_false, Option.bind_some, cond_true, cond_false]
    ·show G_refIsTreeR (k + 1) rows f c = _
     unfold G_refIsTreeR
     simp only [Fm.eta_eq, refHead_val, d1', d2', hl', l5, x1, x2, y2, hz, decide_false, decide_true, Bool.not_true, Bool.not_false, Bool.true_or, Option.bind_some, cond_true, cond_false]
  ·have dl : decide ((f.l.length : Int) = 4 + 1) = false := by apply decide_eq_false; rw [hfl]; omega
   have dl' : decide ((f.l.length : Int) = 5) = false := by apply decide_eq_false; rw [hfl]; omega
   have j2 : G_isp f [99, 117, 116] 4 = some false := by rw [i2, d2, dl]; rfl
   refine ⟨false, ?_, z2 _ _ rfl fun k => .of ?_⟩
   ·show G_shows rows f c = _
    unfold G_shows
    simp only [Fm.eta_eq, j1, j2, Option.bind_some, cond_false]
   ·show G_refIsTreeR (k + 1) rows f c = _
    unfold G_refIsTreeR
    simp only [Fm.eta_eq, refHead_val, d1', d2', dl', Bool.not_false, Bool.not_true, Bool.or_true, Option.bind_some, cond_true, cond_false]
 ·have d2 : (decide (headF f = cutB)) = false := decide_eq_false hc
  have d2' : (decide (headF f = [99, 117, 116])) = false := d2
  have j2 : G_isp f [99, 117, 116] 4 = some false := by rw [i2, d2]; rfl
  refine ⟨false, ?_, z2 _ _ rfl fun k => .of ?_⟩
  ·show G_shows rows f c = _
   unfold G_shows
   simp only [Fm.eta_eq, j1, j2, Option.bind_some, cond_false]
  ·show G_refIsTreeR (k + 1) rows f c = _
   unfold G_refIsTreeR
   simp only [Fm.eta_eq, refHead_val, d1', d2', Option.bind_some, cond_false]
end Go.Ab
