/-
  LAYOUT: the library's functions as signatures; the program's and the reference's functions.
-/
import Derived.Test.YthbkbjlfghikfaaGreatDoorZ15
import Derived.Test.YthbkbjlfghikfaaGreatDoorZ14
import Derived.Test.YthbkbjlfghikfaaGreatDoorZ13
import Derived.Shelf.Strings.Repeat
set_option linter.unusedVariables false
set_option linter.unusedSimpArgs false
set_option maxRecDepth 100000
namespace Go.Ab
open Go Go.RowKit Go.Proofs
theorem fieldsL_memX : ∀ {l : List Fm}, fieldsL l = true → ∀ f ∈ l, fieldsF f = true
 | [], _, f, h => by cases h
 | g :: r, hl, f, h => by
  simp only [fieldsL, Bool.and_eq_true] at hl
  rcases List.mem_cons.1 h with rfl | h
  ·exact hl.1
  ·exact fieldsL_memX hl.2 f h
theorem fieldsL_of {l : List Fm} (h : ∀ f ∈ l, fieldsF f = true) : fieldsL l = true := by
 induction l with
 | nil => simp [fieldsL]
 | cons f r ih => simp only [fieldsL, Bool.and_eq_true]; exact ⟨h f (by simp), ih fun g hg => h g (List.mem_cons_of_mem _ hg)⟩
theorem fieldsL_take {l : List Fm} (h : fieldsL l = true) (i : Nat) : fieldsL (l.take i) = true := fieldsL_of fun f hf => fieldsL_memX h f (List.mem_of_mem_take hf)
theorem newRep_val : G_newRep ([[92], [92, 92], [34], [92, 34], [10], [92, 110]]) = some ((), ((0, 0, 0, (), (), ()), old6, ())) := by
 unfold G_newRep
 rfl
theorem replF_val {s : List UInt8} (h : s.length ≤ 1000000) : replF (0, 0, 0, (), (), ()) old6 s = some (escS s, ()) := by
 unfold replF
 rw [if_pos ⟨rfl, rfl, rfl, h⟩]
theorem itoaF_val {n : Int} (h1 : -1152921504606846976 ≤ n) (h2 : n ≤ 1152921504606846976) : itoaF n = some (Lib.itoa n) := by
 unfold itoaF
 rw [if_pos ⟨by omega, by omega⟩]
theorem write_up : ∀ k, ∀ (f : Fm) (b : Bool) (l : List Int), fieldsF f = true → f.big ≤ 4611686018427387000 → l.length + 4101 * f.size ≤ 100000000000 → Up (k < f.big) (G_write k f (b, (), ()) l) ((), ((true, (), ()), l ++ intsOf (wr f), ()))
 | 0 => fun f b l hf hb hl => .inr ⟨by unfold G_write; rfl, by have := big_pos f; omega⟩
 | k + 1 => fun f b l hf hb hl => by
  have hlen := wr_len f hf
  have hw := wr_eq f
  have hf' := hf
  rw [fieldsF_eq] at hf'
  simp only [Bool.and_eq_true] at hf'
  obtain ⟨h1, h2⟩ := hf'
  unfold leafS at h1
  unfold G_write
  by_cases c0 : f.k = 0
  ·rw [if_pos c0] at h1 hw
   simp only [Bool.and_eq_true, decide_eq_true_eq] at h1
   rw [decide_eq_true c0, cond_true, itoaF_val h1.2.2.1 h1.2.2.2]
   simp only [Option.bind_some]
   rw [hw] at hlen ⊢
   rw [bldStr_val (by omega)]
   exact .of rfl
  ·rw [if_neg c0] at h1 hw
   rw [decide_eq_false c0, cond_false]
   by_cases c1 : f.k = 1
   ·rw [if_pos c1] at h1 hw
    rw [decide_eq_true c1, cond_true]
    rw [hw] at hlen ⊢
    rw [bldStr_val (by omega)]
    exact .of rfl
   ·rw [if_neg c1] at h1 hw
    rw [decide_eq_false c1, cond_false]
    by_cases c2 : f.k = 2
    ·rw [if_pos c2] at h1 hw
     simp only [Bool.and_eq_true, decide_eq_true_eq] at h1
     rw [decide_eq_true c2, cond_true]
     rw [hw] at hlen ⊢
     simp only [List.length_cons, List.length_append, List.length_nil] at hlen
     rw [bldByte_val (by omega)]
     simp only [Option.bind_some, newRep_val]
     rw [replF_val (by omega)]
     simp only [Option.bind_some]
     rw [bldStr_val (by simp only [List.length_append, List.length_cons, List.length_nil]; omega)]
     simp only [Option.bind_some]
     rw [bldByte_val (by simp only [List.length_append, List.length_cons, List.length_nil, ints_len]; omega)]
     refine .of ?_
     simp only [Option.bind_some]
     have : l ++ [34] ++ intsOf (escS f.t) ++ [34] = l ++ intsOf (34 :: (escS f.t ++ [34])) := by
      have e1 : intsOf (34 :: (escS f.t ++ [34])) = [34] ++ (intsOf (escS f.t) ++ [34]) := by
       rw [show (34 :: (escS f.t ++ [34]) : List UInt8) = [34] ++ (escS f.t ++ [34]) from rfl, ← ints_append, ← ints_append]
       rfl
      rw [e1]
      simp only [List.append_assoc]
     rw [this]
    ·rw [if_neg c2] at h1 hw
     rw [decide_eq_false c2, cond_false]
     have c3 : f.k = 3 := by
      by_cases c3 : f.k = 3
      ·exact c3
      ·rw [if_neg c3] at h1; cases h1
     have hsz : f.size = 1 + Fm.sizeL f.l := by rw [Fm.size_eq, if_pos c3]
     have hbk := big_kids f
     have hll := length_le_big f.l
     rw [hw] at hlen ⊢
     simp only [List.length_cons, List.length_append, List.length_nil] at hlen
     rw [bldByte_val (by omega)]
     simp only [Option.bind_some]
     refine loop_ix (A := Unit × ((Bool × Unit × Unit) × (List Int) × Unit)) (fun i => (((), f.l, (f.l.length : Int), (i : Int), ()), ((true, (), ()), l ++ intsOf (40 :: wrL true (f.l.take i)), ()))) (fun i => ((), ((true, (), ()), l ++ intsOf (40 :: (wrL true f.l ++ [41])), ()))) f.l.length (fun i hi => ?_) ?_
     ·have e1 : decide ((i : Int) < (f.l.length : Int)) = true := by simp [hi]
      have e2 : ixOK (i : Int) f.l.length = true := ixOK_iff.2 (by omega)
      have hg := big_mem (List.getElem_mem hi)
      have hgf := fieldsL_memX h2 _ (List.getElem_mem hi)
      have hs1 := sizeL_take f.l hi
      have hs2 := sizeL_take_le f.l (i + 1)
      have hw1 := wrL_len (f.l.take i) true (fieldsL_take h2 i)
      simp only [e1, e2, cond_true, Int.toNat_natCast, getD_in hi]
      have step : ∀ (l' : List Int), l'.length + 4101 * f.l[i].size ≤ 100000000000 → l' ++ intsOf (wr f.l[i]) = l ++ intsOf (40 :: wrL true (f.l.take (i + 1))) →
        (Option.bind (α := Unit × ((Bool × Unit × Unit) × (List Int) × Unit)) (G_write k (Fm.mk f.l[i].k f.l[i].n f.l[i].t f.l[i].l) (true, (), ()) l') fun r25 =>
         some (Step.next (R := (Unit × Unit) × ((Bool × Unit × Unit) × (List Int) × Unit)) (((), f.l, (f.l.length : Int), IntKind.wrap .i64 ((i : Int) + 1), ()), ((r25.2.1.1, (), ()), r25.2.2.1, ())))) =
         some (.next (((), f.l, (f.l.length : Int), ((i + 1 : Nat) : Int), ()), ((true, (), ()), l ++ intsOf (40 :: wrL true (f.l.take (i + 1))), ()))) ∨
        (Option.bind (α := Unit × ((Bool × Unit × Unit) × (List Int) × Unit)) (G_write k (Fm.mk f.l[i].k f.l[i].n f.l[i].t f.l[i].l) (true, (), ()) l') fun r25 =>
         some (Step.next (R := (Unit × Unit) × ((Bool × Unit × Unit) × (List Int) × Unit)) (((), f.l, (f.l.length : Int), IntKind.wrap .i64 ((i : Int) + 1), ()), ((r25.2.1.1, (), ()), r25.2.2.1, ())))) = none ∧ k + 1 < f.big := by
       intro l' hl' he
       rw [show Fm.mk f.l[i].k f.l[i].n f.l[i].t f.l[i].l = f.l[i] from Fm.eta_eq _, wrapN (show i < 4611686018427387904 by omega)]
       rcases write_up k f.l[i] true l' hgf (by omega) hl' with h | ⟨h, hn⟩
       ·rw [h, he]; exact .inl rfl
       ·rw [h]; exact .inr ⟨rfl, by omega⟩
      have hcl : (l ++ intsOf (40 :: wrL true (f.l.take i))).length = l.length + 1 + (wrL true (f.l.take i)).length := by
       rw [List.length_append, ints_len, List.length_cons]; omega
      have htk := wrL_take f.l hi
      by_cases hi0 : i = 0
      ·subst hi0
       have e3 : decide (((0 : Nat) : Int) > 0) = false := rfl
       rw [e3, cond_false]
       simp only [Option.bind_some]
       rcases step (l ++ intsOf (40 :: wrL true (f.l.take 0))) (by rw [hcl]; omega) (by
        rw [List.append_assoc, ints_append]
        congr 2
        rw [htk]
        simp) with h | h
       ·rw [h]; exact .inl ⟨rfl, trivial⟩
       ·rw [h.1]; exact .inr (.inr ⟨rfl, h.2⟩)
      ·have e3 : decide ((i : Int) > 0) = true := decide_eq_true (by omega)
       rw [e3, cond_true, bldByte_val (by rw [hcl]; omega)]
       simp only [Option.bind_some]
       rcases step (l ++ intsOf (40 :: wrL true (f.l.take i)) ++ [32]) (by rw [List.length_append, hcl]; simp only [List.length_cons, List.length_nil]; omega) (by
        rw [htk, if_neg hi0]
        rw [show (40 :: (wrL true (f.l.take i) ++ ([32] ++ wr f.l[i])) : List UInt8) = (40 :: wrL true (f.l.take i)) ++ ([32] ++ wr f.l[i]) from rfl, ← ints_append, ← ints_append]
        simp only [List.append_assoc]
        rfl) with h | h
       ·rw [h]; exact .inl ⟨rfl, trivial⟩
       ·rw [h.1]; exact .inr (.inr ⟨rfl, h.2⟩)
     ·have e1 : decide ((f.l.length : Int) < (f.l.length : Int)) = false := by simp
      refine ⟨_, by simp only [e1, cond_false]; rfl, ?_⟩
      simp only [List.take_length]
      rw [bldByte_val (by rw [List.length_append, ints_len, List.length_cons]; omega)]
      refine .of ?_
      simp only [Option.bind_some]
      rw [show (40 :: (wrL true f.l ++ [41]) : List UInt8) = (40 :: wrL true f.l) ++ [41] from rfl, ← ints_append, ← List.append_assoc]
      rfl
theorem write_val {f : Fm} {b : Bool} {l : List Int} (hf : fieldsF f = true) (hb : f.big ≤ 4611686018427387000) (hl : l.length + 4101 * f.size ≤ 100000000000) : L_write f (b, (), ()) l = some ((), ((true, (), ()), l ++ intsOf (wr f), ())) := limF_up (b := f.big) fun k => write_up k f b l hf hb hl
end Go.Ab

set_option maxRecDepth 100000
namespace Go.Ab
open Go Go.RowKit Go.Proofs
end Go.Ab

set_option maxRecDepth 100000
namespace Go.Ab
open Go Go.RowKit Go.Proofs
def wrV (f : Fm) : List UInt8 := if validF f = true then wr f else []
theorem validF_iff (f : Fm) : validF f = (fieldsF f && (decide ((f.size : Int) ≤ 20000) && decide ((f.depth : Int) ≤ 100))) := (validS_iff f 20000 100 (by omega) (by omega)).1
theorem validF_of {f : Fm} (h : validF f = true) : fieldsF f = true ∧ f.size ≤ 20000 := by
 rw [validF_iff] at h
 simp only [Bool.and_eq_true, decide_eq_true_eq] at h
 exact ⟨h.1, by omega⟩
theorem rWrite_val {f : Fm} (hb : f.big ≤ 4611686018427387000) : G_rWrite f = some (wrV f) := by
 unfold G_rWrite wrV
 simp only [Fm.eta_eq, rvalid_val hb, Option.bind_some]
 by_cases hv : validF f = true
 ·obtain ⟨h1, h2⟩ := validF_of hv
  rw [hv, if_pos rfl]
  simp only [Bool.not_true, cond_false]
  rw [write_val h1 hb (by simp only [List.length_nil]; omega)]
  simp only [Option.bind_some, List.nil_append, bytes_ints, Option.map_some]
 ·rw [if_neg hv, eq_false_of_ne_true hv]
  rfl
def hdW (f : Fm) : List UInt8 := match (if f.k = 3 then f.l else []) with | [] => [] | g :: _ => if g.k = 1 then g.t else []
end Go.Ab

set_option maxRecDepth 100000
namespace Go.Ab
open Go Go.RowKit Go.Proofs
noncomputable def G_numberA (x0 : List UInt8) : Option (Int × Int × Unit) := (
 cond ((ixOK 0 (trimPrefixF (x0) ([45])).length) || !(decide (((trimPrefixF (x0) ([45])).length : Int) > 1))) (cond (cond (cond (decide (((trimPrefixF (x0) ([45])).length : Int) > 1)) (decide (byteAt (trimPrefixF (x0) ([45])) 0 = 48)) false) true (decide (x0 = [45, 48]))) (some (0, 4, ())) (Option.bind (α := Int × Bool × Unit) (atoiF (x0)) fun r1 => (
 cond (cond (cond (!r1.2.1) true (decide (r1.1 < (-1152921504606846976)))) true (decide (r1.1 > 1152921504606846976))) (some (0, 5, ())) (some (r1.1, 0, ()))))) none)
def A_numberA : An := .leaf
def H_numberA : Nat → RH := fun _ => {}
noncomputable def S_numberA : Sig := .n [(.d .str)] (.tup [(.d (.int .i64)), (.d (.int .i64))]) (fun x => G_numberA x.1)
theorem S_numberA_ok : SigOK CX 125 S_numberA := sigN_of (l := [(129, S_trimPrefix), (143, S_atoiAll)]) ⟨S_trimPrefix_ok, S_atoiAll_ok, trivial⟩ (hint := H_numberA) (an := A_numberA) (fun x => by kernel_rfl)
noncomputable def G_nextA (o0 : (List UInt8) × Int × Unit) : Option (((Int × Fm) × Bool × Int × Unit) × (((List UInt8) × Int × Unit) × Unit)) := (
 Option.bind (α := (Unit) × (((List UInt8) × Int × Unit) × Unit)) (G_skip (o0.1, o0.2.1, ())) fun r1 => (
 cond (decide (r1.2.1.2.1 = (r1.2.1.1.length : Int))) (some (((0, (Fm.mk 0 0 ([]) ([] : List Fm))), false, 0, ()), ((r1.2.1.1, r1.2.1.2.1, ()), ()))) (cond (ixOK r1.2.1.2.1 r1.2.1.1.length) (cond (cond (decide (byteAt r1.2.1.1 r1.2.1.2.1 = 40)) true (decide (byteAt r1.2.1.1 r1.2.1.2.1 = 41))) (some (((byteAt r1.2.1.1 r1.2.1.2.1, (Fm.mk 0 0 ([]) ([] : List Fm))), true, 0, ()), ((r1.2.1.1, IntKind.wrap .i64 (r1.2.1.2.1 + 1), ()), ()))) (cond (decide (byteAt r1.2.1.1 r1.2.1.2.1 = 34)) (Option.bind (α := ((List UInt8) × Int × Unit) × (((List UInt8) × Int × Unit) × Unit)) (G_text (r1.2.1.1, r1.2.1.2.1, ())) fun r2 => (
 some (((0, (Fm.mk 2 0 r2.1.1 ([] : List Fm))), true, r2.1.2.1, ()), ((r2.2.1.1, r2.2.1.2.1, ()), ())))) (Option.bind (α := Bool) (outsideF (byteAt r1.2.1.1 r1.2.1.2.1)) fun r3 => (
 cond r3 (some (((0, (Fm.mk 0 0 ([]) ([] : List Fm))), true, 4, ()), ((r1.2.1.1, r1.2.1.2.1, ()), ()))) (Option.bind (α := (Unit × Unit × Int × Unit) × (((List UInt8) × Int × Unit) × (Int × Int × Int × (List UInt8) × Unit × Unit) × Unit))
 (loopM (L := (Unit × Unit × Int × Unit) × (((List UInt8) × Int × Unit) × (Int × Int × Int × (List UInt8) × Unit × Unit) × Unit)) (R := (Unit × Unit × Int × Unit) × (((List UInt8) × Int × Unit) × (Int × Int × Int × (List UInt8) × Unit × Unit) × Unit)) (fun d4 => (
 let c5 := d4.2.1.1
 let c6 := d4.2.1.2.1
 let v8_7 := d4.1.2.2.1
 cond ((ixOK c6 c5.length) || !(decide (c6 < (c5.length : Int)))) (Option.bind (α := Bool) (cond (decide (c6 < (c5.length : Int))) (outsideF (byteAt c5 c6)) (some false)) fun r8 => (
 cond (cond (decide (c6 < (c5.length : Int))) (!r8) false) (some (Step.next (((), (), v8_7, ()), ((c5, IntKind.wrap .i64 (c6 + 1), ()), (d4.2.2.1.1, d4.2.2.1.2.1, d4.2.2.1.2.2.1, d4.2.2.1.2.2.2.1, (), ()), ())))) (some (Step.done (((), (), v8_7, ()), ((c5, c6, ()), (d4.2.2.1.1, d4.2.2.1.2.1, d4.2.2.1.2.2.1, d4.2.2.1.2.2.2.1, (), ()), ())))))) none)) (((), (), r1.2.1.2.1, ()), ((r1.2.1.1, r1.2.1.2.1, ()), (0, 0, 0, [], (), ()), ()))) fun d9 => (
 let c10 := d9.2.1.1
 let c11 := d9.2.1.2.1
 let v8_12 := d9.1.2.2.1
 cond (slOK v8_12 c11 c10.length) (Option.bind (α := Bool) (numericF ((c10.drop v8_12.toNat).take (c11.toNat - v8_12.toNat))) fun r13 => (
 cond r13 (Option.bind (α := Int × Int × Unit) (G_numberA ((c10.drop v8_12.toNat).take (c11.toNat - v8_12.toNat))) fun r14 => (
 some (((0, (Fm.mk 0 r14.1 ([]) ([] : List Fm))), true, r14.2.1, ()), ((c10, c11, ()), ())))) (cond (decide ((((c10.drop v8_12.toNat).take (c11.toNat - v8_12.toNat)).length : Int) > 30)) (some (((d9.2.2.1.1, (Fm.mk d9.2.2.1.2.1 d9.2.2.1.2.2.1 d9.2.2.1.2.2.2.1 ([] : List Fm))), true, 4, ()), ((c10, c11, ()), ()))) (some (((0, (Fm.mk 1 0 ((c10.drop v8_12.toNat).take (c11.toNat - v8_12.toNat)) ([] : List Fm))), true, 0, ()), ((c10, c11, ()), ())))))) none)))))) none)))
def A_nextA : An := .seq (.leaf) (.seq (.leaf) (.seq (.leaf) (.seq (.leaf) (.seq (.leaf) (.join false { env := [(0, (.ref 0 0)), (2, (.ref 1 0)), (8, (.d (.int .i64)))], objs := [(true, .cells 110 [(.d .str), (.d (.int .i64))]), (false, .cells 112 [(.d (.int .u8)), (.d (.int .i64)), (.d (.int .i64)), (.d .str), (.c (.base (.slice none 0 0)))])] } (.block (.loop { env := [(0, (.ref 0 0)), (2, (.ref 1 0)), (8, (.d (.int .i64)))], objs := [(true, .cells 110 [(.d .str), (.d (.int .i64))]), (false, .cells 112 [(.d (.int .u8)), (.d (.int .i64)), (.d (.int .i64)), (.d .str), (.c (.base (.slice none 0 0)))])] } (.leaf))) (.leaf))))))
def H_nextA : Nat → RH := fun r => match r with
 | 1 => { H := { ac := [13] } }
 | 9 => { H := { ac := [55] } }
 | _ => {}
noncomputable def S_nextA : Sig := .o { pre := [(false, .cells 110 [(.d .str), (.d (.int .i64))])], args := [(.ref 0 0)], post := [(true, .cells 110 [(.d .str), (.d (.int .i64))])], res := (.tup [(.d (.pr (.int .u8) .form)), (.d .bool), (.d (.int .i64))]), f := fun x => G_nextA x.2.1 }
theorem S_nextA_ok : SigOK CX 86 S_nextA := sigO_of (l := [(123, S_skip), (124, S_text), (95, S_outside), (94, S_numeric), (125, S_numberA)]) ⟨S_skip_ok, S_text_ok, S_outside_ok, S_numeric_ok, S_numberA_ok, trivial⟩ (hint := H_nextA) (an := A_nextA) (by kernel_rfl) (fun x => by kernel_rfl)
end Go.Ab

set_option maxRecDepth 100000
namespace Go.Ab
open Go Go.RowKit Go.Proofs
end Go.Ab

set_option maxRecDepth 100000
namespace Go.Ab
open Go Go.RowKit Go.Proofs
noncomputable def G_parse (x0 : List UInt8) : Option ((List Fm) × Int × Unit) := (
 loopM (L := (Unit × Unit × Unit) × (((List UInt8) × Int × Unit) × (List (List Fm)) × Unit)) (R := (List Fm) × Int × Unit) (fun d1 => (
 let c2 := d1.2.1.1
 let c3 := d1.2.1.2.1
 let l4 := d1.2.2.1
 Option.bind (α := ((Int × Fm) × Bool × Int × Unit) × (((List UInt8) × Int × Unit) × Unit)) (G_nextA (c2, c3, ())) fun r5 => (
 Option.bind (α := Step ((Unit × Unit × (Int × Int × Int × (List UInt8) × (List Fm) × Unit) × Unit) × (((List UInt8) × Int × Unit) × (List (List Fm)) × Unit)) (Step ((Unit × Unit × Unit) × (((List UInt8) × Int × Unit) × (List (List Fm)) × Unit)) ((List Fm) × Int × Unit)))
 (cond (!decide (r5.1.2.2.1 = 0)) (some (Step.done (Step.done (([] : List Fm), r5.1.2.2.1, ())))) (cond (cond (!r5.1.2.1) (decide (IntKind.wrap .i64 ((l4.length : Int) - 1) > 0)) false) (some (Step.done (Step.done (([] : List Fm), 12, ())))) (cond (!r5.1.2.1) (cond (ixOK 0 l4.length) (cond (decide ((0 : Int).toNat < l4.length)) (some (Step.done (Step.done ((l4.getD ((0 : Int).toNat) ([] : List Fm)), 0, ())))) none) none) (cond (decide (r5.1.1.1 = 40)) (cond (decide ((l4.length + 1) * 24 ≤ 140737488355328)) (some (Step.next (((), (), (r5.1.1.1, r5.1.1.2.k, r5.1.1.2.n, r5.1.1.2.t, r5.1.1.2.l, ()), ()), ((r5.2.1.1, r5.2.1.2.1, ()), l4 ++ [([] : List Fm)], ())))) none) (cond (cond (decide (r5.1.1.1 = 41)) (decide (IntKind.wrap .i64 ((l4.length : Int) - 1) = 0)) false) (some (Step.done (Step.done (([] : List Fm), 4, ())))) (cond (decide (r5.1.1.1 = 41)) (cond (ixOK (IntKind.wrap .i64 ((l4.length : Int) - 1)) l4.length) (cond (decide ((IntKind.wrap .i64 ((l4.length : Int) - 1)).toNat < l4.length)) (cond (hiOK (IntKind.wrap .i64 ((l4.length : Int) - 1)) l4.length) (mgC (cond (ixOK (IntKind.wrap .i64 (IntKind.wrap .i64 ((l4.length : Int) - 1) - 1)) ((IntKind.wrap .i64 ((l4.length : Int) - 1)).toNat)) (cond (decide ((IntKind.wrap .i64 (IntKind.wrap .i64 ((l4.length : Int) - 1) - 1)).toNat < (l4.take (IntKind.wrap .i64 ((l4.length : Int) - 1)).toNat).length)) (cond (decide ((IntKind.wrap .i64 (IntKind.wrap .i64 ((l4.length : Int) - 1) - 1)).toNat < (l4.take (IntKind.wrap .i64 ((l4.length : Int) - 1)).toNat).length) && decide ((((l4.take (IntKind.wrap .i64 ((l4.length : Int) - 1)).toNat).getD ((IntKind.wrap .i64 (IntKind.wrap .i64 ((l4.length : Int) - 1) - 1)).toNat) ([] : List Fm)).length + ([(Fm.mk 3 0 ([]) (l4.getD ((IntKind.wrap .i64 ((l4.length : Int) - 1)).toNat) ([] : List Fm)))]).length) * 56 ≤ 140737488355328)) (cond (ixOK (IntKind.wrap .i64 (IntKind.wrap .i64 ((l4.length : Int) - 1) - 1)) ((IntKind.wrap .i64 ((l4.length : Int) - 1)).toNat)) (cond (decide ((IntKind.wrap .i64 (IntKind.wrap .i64 ((l4.length : Int) - 1) - 1)).toNat = (IntKind.wrap .i64 (IntKind.wrap .i64 ((l4.length : Int) - 1) - 1)).toNat) && decide ((IntKind.wrap .i64 (IntKind.wrap .i64 ((l4.length : Int) - 1) - 1)).toNat < (l4.take (IntKind.wrap .i64 ((l4.length : Int) - 1)).toNat).length)) (some (Step.next (((), (), (r5.1.1.1, r5.1.1.2.k, r5.1.1.2.n, r5.1.1.2.t, r5.1.1.2.l, ()), ()), ((r5.2.1.1, r5.2.1.2.1, ()), (l4.take (IntKind.wrap .i64 ((l4.length : Int) - 1)).toNat).set ((IntKind.wrap .i64 (IntKind.wrap .i64 ((l4.length : Int) - 1) - 1)).toNat) (((l4.take (IntKind.wrap .i64 ((l4.length : Int) - 1)).toNat).getD ((IntKind.wrap .i64 (IntKind.wrap .i64 ((l4.length : Int) - 1) - 1)).toNat) ([] : List Fm)) ++ ([(Fm.mk 3 0 ([]) (l4.getD ((IntKind.wrap .i64 ((l4.length : Int) - 1)).toNat) ([] : List Fm)))])), ())))) none) none) none) none) none) (cond (ixOK (IntKind.wrap .i64 (IntKind.wrap .i64 ((l4.length : Int) - 1) - 1)) ((IntKind.wrap .i64 ((l4.length : Int) - 1)).toNat)) (cond (decide ((IntKind.wrap .i64 (IntKind.wrap .i64 ((l4.length : Int) - 1) - 1)).toNat < (l4.take (IntKind.wrap .i64 ((l4.length : Int) - 1)).toNat).length)) (cond (decide ((IntKind.wrap .i64 (IntKind.wrap .i64 ((l4.length : Int) - 1) - 1)).toNat < (l4.take (IntKind.wrap .i64 ((l4.length : Int) - 1)).toNat).length) && decide ((((l4.take (IntKind.wrap .i64 ((l4.length : Int) - 1)).toNat).getD ((IntKind.wrap .i64 (IntKind.wrap .i64 ((l4.length : Int) - 1) - 1)).toNat) ([] : List Fm)).length + ([(Fm.mk 0 0 ([]) ([] : List Fm))]).length) * 56 ≤ 140737488355328)) (cond (ixOK (IntKind.wrap .i64 (IntKind.wrap .i64 ((l4.length : Int) - 1) - 1)) ((IntKind.wrap .i64 ((l4.length : Int) - 1)).toNat)) (cond (decide ((IntKind.wrap .i64 (IntKind.wrap .i64 ((l4.length : Int) - 1) - 1)).toNat = (IntKind.wrap .i64 (IntKind.wrap .i64 ((l4.length : Int) - 1) - 1)).toNat) && decide ((IntKind.wrap .i64 (IntKind.wrap .i64 ((l4.length : Int) - 1) - 1)).toNat < (l4.take (IntKind.wrap .i64 ((l4.length : Int) - 1)).toNat).length)) (cond (ixOK (((l4.take (IntKind.wrap .i64 ((l4.length : Int) - 1)).toNat).getD ((IntKind.wrap .i64 (IntKind.wrap .i64 ((l4.length : Int) - 1) - 1)).toNat) ([] : List Fm)).length : Int) (((l4.take (IntKind.wrap .i64 ((l4.length : Int) - 1)).toNat).getD ((IntKind.wrap .i64 (IntKind.wrap .i64 ((l4.length : Int) - 1) - 1)).toNat) ([] : List Fm)).length + ([(Fm.mk 0 0 ([]) ([] : List Fm))]).length)) (cond ((decide (((l4.take (IntKind.wrap .i64 ((l4.length : Int) - 1)).toNat).getD ((IntKind.wrap .i64 (IntKind.wrap .i64 ((l4.length : Int) - 1) - 1)).toNat) ([] : List Fm)).length ≤ (((l4.take (IntKind.wrap .i64 ((l4.length : Int) - 1)).toNat).getD ((IntKind.wrap .i64 (IntKind.wrap .i64 ((l4.length : Int) - 1) - 1)).toNat) ([] : List Fm)).length : Int).toNat) && decide ((((l4.take (IntKind.wrap .i64 ((l4.length : Int) - 1)).toNat).getD ((IntKind.wrap .i64 (IntKind.wrap .i64 ((l4.length : Int) - 1) - 1)).toNat) ([] : List Fm)).length : Int).toNat < ((l4.take (IntKind.wrap .i64 ((l4.length : Int) - 1)).toNat).getD ((IntKind.wrap .i64 (IntKind.wrap .i64 ((l4.length : Int) - 1) - 1)).toNat) ([] : List Fm)).length + ([(Fm.mk 0 0 ([]) ([] : List Fm))]).length)) && decide ((IntKind.wrap .i64 (IntKind.wrap .i64 ((l4.length : Int) - 1) - 1)).toNat < (l4.take (IntKind.wrap .i64 ((l4.length : Int) - 1)).toNat).length)) (some (Step.next (((), (), (r5.1.1.1, r5.1.1.2.k, r5.1.1.2.n, r5.1.1.2.t, r5.1.1.2.l, ()), ()), ((r5.2.1.1, r5.2.1.2.1, ()), (l4.take (IntKind.wrap .i64 ((l4.length : Int) - 1)).toNat).set ((IntKind.wrap .i64 (IntKind.wrap .i64 ((l4.length : Int) - 1) - 1)).toNat) (((l4.take (IntKind.wrap .i64 ((l4.length : Int) - 1)).toNat).getD ((IntKind.wrap .i64 (IntKind.wrap .i64 ((l4.length : Int) - 1) - 1)).toNat) ([] : List Fm)) ++ (([(Fm.mk 0 0 ([]) ([] : List Fm))]).set ((((l4.take (IntKind.wrap .i64 ((l4.length : Int) - 1)).toNat).getD ((IntKind.wrap .i64 (IntKind.wrap .i64 ((l4.length : Int) - 1) - 1)).toNat) ([] : List Fm)).length : Int).toNat - ((l4.take (IntKind.wrap .i64 ((l4.length : Int) - 1)).toNat).getD ((IntKind.wrap .i64 (IntKind.wrap .i64 ((l4.length : Int) - 1) - 1)).toNat) ([] : List Fm)).length) (Fm.mk 3 0 ([]) (l4.getD ((IntKind.wrap .i64 ((l4.length : Int) - 1)).toNat) ([] : List Fm))))), ())))) none) none) none) none) none) none) none)) none) none) none) (cond (ixOK (IntKind.wrap .i64 ((l4.length : Int) - 1)) l4.length) (cond (decide ((IntKind.wrap .i64 ((l4.length : Int) - 1)).toNat < l4.length)) (cond (decide ((IntKind.wrap .i64 ((l4.length : Int) - 1)).toNat < l4.length) && decide (((l4.getD ((IntKind.wrap .i64 ((l4.length : Int) - 1)).toNat) ([] : List Fm)).length + ([(Fm.mk 0 0 ([]) ([] : List Fm))]).length) * 56 ≤ 140737488355328)) (cond (ixOK ((l4.getD ((IntKind.wrap .i64 ((l4.length : Int) - 1)).toNat) ([] : List Fm)).length : Int) ((l4.getD ((IntKind.wrap .i64 ((l4.length : Int) - 1)).toNat) ([] : List Fm)).length + ([(Fm.mk 0 0 ([]) ([] : List Fm))]).length)) (cond (ixOK (IntKind.wrap .i64 ((l4.length : Int) - 1)) l4.length) (mgC (cond ((decide ((l4.getD ((IntKind.wrap .i64 ((l4.length : Int) - 1)).toNat) ([] : List Fm)).length ≤ ((l4.getD ((IntKind.wrap .i64 ((l4.length : Int) - 1)).toNat) ([] : List Fm)).length : Int).toNat) && decide (((l4.getD ((IntKind.wrap .i64 ((l4.length : Int) - 1)).toNat) ([] : List Fm)).length : Int).toNat < (l4.getD ((IntKind.wrap .i64 ((l4.length : Int) - 1)).toNat) ([] : List Fm)).length + ([(Fm.mk 0 0 ([]) ([] : List Fm))]).length)) && decide ((IntKind.wrap .i64 ((l4.length : Int) - 1)).toNat < l4.length)) (cond (decide ((IntKind.wrap .i64 ((l4.length : Int) - 1)).toNat = (IntKind.wrap .i64 ((l4.length : Int) - 1)).toNat) && decide ((IntKind.wrap .i64 ((l4.length : Int) - 1)).toNat < l4.length)) (some (Step.next (((), (), (r5.1.1.1, r5.1.1.2.k, r5.1.1.2.n, r5.1.1.2.t, r5.1.1.2.l, ()), ()), ((r5.2.1.1, r5.2.1.2.1, ()), l4.set ((IntKind.wrap .i64 ((l4.length : Int) - 1)).toNat) ((l4.getD ((IntKind.wrap .i64 ((l4.length : Int) - 1)).toNat) ([] : List Fm)) ++ (([(Fm.mk 0 0 ([]) ([] : List Fm))]).set (((l4.getD ((IntKind.wrap .i64 ((l4.length : Int) - 1)).toNat) ([] : List Fm)).length : Int).toNat - (l4.getD ((IntKind.wrap .i64 ((l4.length : Int) - 1)).toNat) ([] : List Fm)).length) (Fm.eta r5.1.1.2))), ())))) none) none) (cond (decide ((IntKind.wrap .i64 ((l4.length : Int) - 1)).toNat = (IntKind.wrap .i64 ((l4.length : Int) - 1)).toNat) && decide ((IntKind.wrap .i64 ((l4.length : Int) - 1)).toNat < l4.length)) (cond ((decide ((l4.getD ((IntKind.wrap .i64 ((l4.length : Int) - 1)).toNat) ([] : List Fm)).length ≤ ((l4.getD ((IntKind.wrap .i64 ((l4.length : Int) - 1)).toNat) ([] : List Fm)).length : Int).toNat) && decide (((l4.getD ((IntKind.wrap .i64 ((l4.length : Int) - 1)).toNat) ([] : List Fm)).length : Int).toNat < (l4.getD ((IntKind.wrap .i64 ((l4.length : Int) - 1)).toNat) ([] : List Fm)).length + ([(Fm.mk 0 0 ([]) ([] : List Fm))]).length)) && decide ((IntKind.wrap .i64 ((l4.length : Int) - 1)).toNat < l4.length)) (some (Step.next (((), (), (r5.1.1.1, r5.1.1.2.k, r5.1.1.2.n, r5.1.1.2.t, r5.1.1.2.l, ()), ()), ((r5.2.1.1, r5.2.1.2.1, ()), l4.set ((IntKind.wrap .i64 ((l4.length : Int) - 1)).toNat) ((l4.getD ((IntKind.wrap .i64 ((l4.length : Int) - 1)).toNat) ([] : List Fm)) ++ (([(Fm.mk 0 0 ([]) ([] : List Fm))]).set (((l4.getD ((IntKind.wrap .i64 ((l4.length : Int) - 1)).toNat) ([] : List Fm)).length : Int).toNat - (l4.getD ((IntKind.wrap .i64 ((l4.length : Int) - 1)).toNat) ([] : List Fm)).length) (Fm.eta r5.1.1.2))), ())))) none) none)) none) none) none) none) none))))))) fun qd6 => match qd6 with
 | .next d6 => (
 let c7 := d6.2.1.1
 let c8 := d6.2.1.2.1
 let l9 := d6.2.2.1
 cond ((ixOK c8 c7.length) || !(cond (decide (d6.1.2.2.1.1 = 0)) (decide (c8 < (c7.length : Int))) false)) (Option.bind (α := Bool) (cond (cond (decide (d6.1.2.2.1.1 = 0)) (decide (c8 < (c7.length : Int))) false) (G_touches (byteAt c7 c8)) (some false)) fun r10 => (
 cond (cond (cond (decide (d6.1.2.2.1.1 = 0)) (decide (c8 < (c7.length : Int))) false) r10 false) (some (Step.done (([] : List Fm), 4, ()))) (some (Step.next (((), (), ()), ((c7, c8, ()), l9, ())))))) none)
 | .done r => some r))) (((), (), ()), ((x0, 0, ()), [([] : List Fm)], ())))
def A_parse : An := .seq (.leaf) (.seq (.leaf) (.seq (.leaf) (.block (.loop { env := [(4, (.ref 0 0)), (5, (.gs 1 (.slice .form)))], objs := [(false, .cells 110 [(.d .str), (.d (.int .i64))]), (false, .stk .form 22)] } (.block (.seq (.leaf) (.frz [2] (.join true { env := [(4, (.ref 0 0)), (5, (.gs 1 (.slice .form))), (6, (.rptr [(.d (.int .u8)), (.d (.int .i64)), (.d (.int .i64)), (.d .str), (.d (.slice .form))]))], objs := [(false, .cells 110 [(.d .str), (.d (.int .i64))]), (false, .stk .form 22)] } (.block (.seq (.leaf) (.cond (.leaf) (.seq (.leaf) (.cond (.leaf) (.seq (.leaf) (.cond (.leaf) (.seq (.leaf) (.cond (.leaf) (.seq (.leaf) (.cond (.leaf) (.seq (.leaf) (.cond (.seq (.leaf) (.frz [4] (.leaf))) (.leaf)))))))))))))) (.leaf)))))))))
def H_parse : Nat → RH := fun r => match r with
 | 1 => { H := { mb := [13] } }
 | 2 => { H := { mb := [14], ty := [(14, (.pr (.slice .form) .un))] } }
 | 3 => { H := { ac := [17] } }
 | 5 => { H := { mb := [27], pl := [29], ty := [(27, (.pr (.slice .form) .un)), (32, (.pr (.slice .form) (.pr .un .un)))] }, pair := some ([0, 1, 2, 3, 4, 5, 6, 7, 8, 9, 11], 10, 12, []) }
 | 13 => { H := { ty := [(58, (.pr (.slice .form) .un))] } }
 | 18 => { H := { mb := [78], ty := [(78, (.pr (.slice .form) .un))] } }
 | 19 => { pair := some ([0], 1, 2, [3]) }
 | 20 => { H := { mb := [88], pl := [89], ty := [(88, (.pr (.slice .form) .un)), (92, (.pr (.slice .form) (.pr .un .un)))] } }
 | 22 => { H := { mb := [102], pl := [103], ty := [(102, (.pr (.slice .form) .un)), (105, (.pr (.slice .form) .un))] } }
 | 23 => { H := { pl := [108] } }
 | _ => {}
noncomputable def S_parse : Sig := .n [(.d .str)] (.tup [(.d (.slice .form)), (.d (.int .i64))]) (fun x => G_parse x.1)
theorem S_parse_ok : SigOK CX 58 S_parse := sigN_of (l := [(86, S_nextA), (87, S_touches)]) ⟨S_nextA_ok, S_touches_ok, trivial⟩ (hint := H_parse) (an := A_parse) (fun x => by kernel_rfl)
end Go.Ab

set_option maxRecDepth 100000
namespace Go.Ab
open Go Go.RowKit Go.Proofs
noncomputable def G_readA (x0 : List UInt8) : Option ((List Fm) × Int × Unit) := (
 cond (decide ((x0.length : Int) > 60000)) (some (([] : List Fm), 2, ())) (Option.bind (α := (List Fm) × Int × Unit) (G_parse x0) fun r1 => (
 cond (!decide (r1.2.1 = 0)) (some (([] : List Fm), r1.2.1, ())) (Option.bind (α := Bool) (G_containsBad1 r1.1 ()) fun r2 => (
 cond r2 (some (([] : List Fm), 2, ())) (some (r1.1, 0, ())))))))
def A_readA : An := .leaf
def H_readA : Nat → RH := fun _ => {}
noncomputable def S_readA : Sig := .n [(.d .str)] (.tup [(.d (.slice .form)), (.d (.int .i64))]) (fun x => G_readA x.1)
theorem S_readA_ok : SigOK CX 36 S_readA := sigN_of (l := [(58, S_parse), (59, S_containsBad1)]) ⟨S_parse_ok, S_containsBad1_ok, trivial⟩ (hint := H_readA) (an := A_readA) (fun x => by kernel_rfl)
noncomputable def G_oneA (x0 : List UInt8) : Option (Fm × Int × Unit) := (
 Option.bind (α := (List Fm) × Int × Unit) (G_readA x0) fun r1 => (
 cond (!decide (r1.2.1 = 0)) (some ((Fm.mk 0 0 ([]) ([] : List Fm)), r1.2.1, ())) (cond (!decide ((r1.1.length : Int) = 1)) (some ((Fm.mk 0 0 ([]) ([] : List Fm)), 4, ())) (cond (ixOK 0 r1.1.length) (some ((Fm.eta (r1.1.getD (0 : Int).toNat (Fm.mk 0 0 [] []))), 0, ())) none))))
def A_oneA : An := .leaf
def H_oneA : Nat → RH := fun _ => {}
noncomputable def S_oneA : Sig := .n [(.d .str)] (.tup [(.d .form), (.d (.int .i64))]) (fun x => G_oneA x.1)
theorem S_oneA_ok : SigOK CX 15 S_oneA := sigN_of (l := [(36, S_readA)]) ⟨S_readA_ok, trivial⟩ (hint := H_oneA) (an := A_oneA) (fun x => by kernel_rfl)
end Go.Ab

set_option maxRecDepth 100000
namespace Go.Ab
open Go Go.RowKit Go.Proofs Go.Shelf
def repRen : Go.Shelf.Ren := ⟨fun | 105 => 67 | 212 => 102 | 99 => 103 | 165 => 104 | 166 => 31 | 170 => 105 | 169 => 26 | 263 => 134 | 264 => 135 | 206 => 136 | 240 => 51 | 241 => 137 | 276 => 78 | 277 => 150 | n => n, fun | 9 => 9 | 3 => 3 | 4 => 4 | 20 => 20 | 0 => 0 | 46 => 125 | 109 => 126 | 5 => 5 | 72 => 48 | 76 => 62 | 51 => 148 | 146 => 162 | 53 => 164 | 148 => 165 | 70 => 45 | 37 => 46 | 75 => 60 | 127 => 81 | 164 => 104 | 80 => 52 | n => n, fun  | n => n⟩
theorem repLays : Lays.n105 Tryz.prog repRen := by
 constructor
 all_goals first | kernel_rfl | (intro w; kernel_rfl) | skip
 all_goals constructor
 all_goals first | kernel_rfl | (intro w; kernel_rfl) | skip
 all_goals constructor
 all_goals first | kernel_rfl | (intro w; kernel_rfl)
theorem repX : Builder.Extra Tryz.prog repRen := by
 constructor
 all_goals first | kernel_rfl | (intro w; kernel_rfl) | decide | skip
 all_goals constructor
 all_goals first | kernel_rfl | (intro w; kernel_rfl) | decide | skip
 all_goals constructor
 all_goals first | kernel_rfl | (intro w; kernel_rfl) | decide
def repF (s : List UInt8) (c : Int) : Option (List UInt8) := if s.length = 1 ∧ 0 ≤ c ∧ c ≤ 1000000 then some (Lib.repeatL s c.toNat) else none
def S_repeat : Sig := .n [.d .str, .d (.int .i64)] (.d .str) (fun x => repF x.1 x.2.1)
theorem repeat_call (s : List UInt8) (n : Nat) (h1 : s.length = 1) (h3 : n ≤ 1000000) : PCall CX 67 [.str s, .int .i64 (n : Int)] (· = .ret (.str (Lib.repeatL s n))) := by
 refine pcall_of_calls (C := CX) (by kernel_rfl) fun kn w vs hk hr => ?_
 obtain ⟨v, vs1, rfl, hv, hvs⟩ := RelL.uncons hr
 obtain ⟨u, vs2, rfl, hu, hvs⟩ := RelL.uncons hvs
 have : vs2 = [] := List.eq_nil_of_length_eq_zero hvs.1.symm
 subst this
 cases hv
 cases hu
 have hs : (⟨s.toArray⟩ : ByteArray).size = 1 := h1
 match n, h3 with
 | 0, _ =>
  refine (Any.strings_Repeat_zero repLays ⟨s.toArray⟩ w).mono ?_
  rintro e w' ⟨rfl, rfl⟩
  exact ⟨⟨_, rfl, .str []⟩, Below.refl _ _⟩
 | 1, _ =>
  refine (Any.strings_Repeat_one repLays ⟨s.toArray⟩ w).mono ?_
  rintro e w' ⟨rfl, rfl⟩
  refine ⟨⟨_, rfl, ?_⟩, Below.refl _ _⟩
  rw [Lib.repeatL_one]
  exact .str s
 | n + 2, h3 =>
  refine (Any.strings_Repeat_main repLays repX ⟨s.toArray⟩ (n + 2) w (by omega) (by omega) (by rw [hs]; omega) (by omega)).mono ?_
  rintro e w' ⟨rfl, hb⟩
  exact ⟨⟨_, rfl, .str _⟩, hb⟩
theorem S_repeat_ok : SigOK CX 67 S_repeat := fun x r h => by
 have h : repF x.1 x.2.1 = some r := h
 unfold repF at h
 split at h
 ·rename_i hc
  cases h
  have := repeat_call x.1 (show Int from x.2.1).toNat hc.1 (by have h2 : 0 ≤ (show Int from x.2.1) := hc.2.1; have h3 : (show Int from x.2.1) ≤ 1000000 := hc.2.2; omega)
  rw [Int.toNat_of_nonneg hc.2.1] at this
  exact this
 ·cases h
def trimBF (s c : List UInt8) : Option (List UInt8) := if c = blkL ∧ s.length ≤ 4611686018427387904 then some (trimBS s) else none
def S_trimB : Sig := .n [.d .str, .d .str] (.d .str) (fun x => trimBF x.1 x.2.1)
theorem S_trimB_ok : SigOK CX 75 S_trimB := fun x r h => by
 have h : trimBF x.1 x.2.1 = some r := h
 unfold trimBF at h
 split at h
 ·rename_i hc
  cases h
  obtain ⟨s, c, t⟩ := x
  obtain ⟨h1, h2⟩ := hc
  have h1 : c = blkL := h1
  subst h1
  exact trimB_call s h2
 ·cases h
def trimRBF (s c : List UInt8) : Option (List UInt8) := if c = blkL ∧ s.length ≤ 4611686018427387904 then some (trimRi (fun c => decide (c ∈ blkL)) s s.length) else none
def S_trimRB : Sig := .n [.d .str, .d .str] (.d .str) (fun x => trimRBF x.1 x.2.1)
theorem S_trimRB_ok : SigOK CX 77 S_trimRB := fun x r h => by
 have h : trimRBF x.1 x.2.1 = some r := h
 unfold trimRBF at h
 split at h
 ·rename_i hc
  cases h
  obtain ⟨s, c, t⟩ := x
  obtain ⟨h1, h2⟩ := hc
  have h1 : c = blkL := h1
  subst h1
  exact trimRightB_call s h2
 ·cases h
noncomputable def S_slIndexByte : Sig := .n [.d .str, .d (.int .u8)] (.d (.int .i64)) (fun x => indexByteF x.1 x.2.1)
theorem S_slIndexByte_ok : SigOK CX 107 S_slIndexByte := fun x r h => by
 have h : indexByteF x.1 x.2.1 = some r := h
 unfold indexByteF at h
 split at h
 ·rename_i hl
  cases h
  have := slIndexByte_call x.1 (UInt8.ofNat (show Int from x.2.1).toNat)
  rw [u8_of hl] at this
  exact this
 ·cases h
noncomputable def G_prtByte (x1 : Int) (o0 : Bool × Unit × Int × Unit) (o1 : List Int) : Option ((Bool) × ((Bool × Unit × Int × Unit) × (List Int) × Unit)) := (
 Option.bind (α := (Unit) × ((Bool × Unit × Int × Unit) × (List Int) × Unit)) (some ((), ((true, (), ((o0.1, (), o0.2.2.1, ())).2.2.1, ()), o1, ()))) fun r1 => (
 cond (decide ((r1.2.2.1.length + ([x1]).length) * 1 ≤ 140737488355328)) (some (true, ((r1.2.1.1, (), r1.2.1.2.2.1, ()), r1.2.2.1 ++ ([x1]), ()))) none))
def A_prtByte : An := .leaf
def H_prtByte : Nat → RH := fun r => match r with
 | 1 => { H := { ac := [6] } }
 | 2 => { H := { ty := [(14, (.int .u8))] } }
 | _ => {}
noncomputable def S_prtByte : Sig := .o { pre := [(false, .cells 50 [(.mref 0 0), (.gs 1 (.int .u8)), (.d (.int .i64))]), (false, .tg (.int .u8) 5)], args := [(.ref 0 0), (.d (.int .u8))], post := [(true, .cells 50 [(.mref 0 0), (.gs 1 (.int .u8)), (.d (.int .i64))]), (false, .tg (.int .u8) 5)], res := (.d .erri), f := fun x => G_prtByte x.1.2.1 x.2.1 x.2.2.1 }
theorem S_prtByte_ok : SigOK CX 30 S_prtByte := sigO_of (l := [(51, S_copyCheckP)]) ⟨S_copyCheckP_ok, trivial⟩ (hint := H_prtByte) (an := A_prtByte) (by kernel_rfl) (fun x => by kernel_rfl)
noncomputable def G_prtStr (x1 : List UInt8) (o0 : Bool × Unit × Int × Unit) (o1 : List Int) : Option ((Int × Bool × Unit) × ((Bool × Unit × Int × Unit) × (List Int) × Unit)) := (
 Option.bind (α := (Unit) × ((Bool × Unit × Int × Unit) × (List Int) × Unit)) (some ((), ((true, (), ((o0.1, (), o0.2.2.1, ())).2.2.1, ()), o1, ()))) fun r1 => (
 cond (decide ((r1.2.2.1.length + (x1.map fun b => (b.toNat : Int)).length) * 1 ≤ 140737488355328)) (some (((x1.length : Int), true, ()), ((r1.2.1.1, (), r1.2.1.2.2.1, ()), r1.2.2.1 ++ (x1.map fun b => (b.toNat : Int)), ()))) none))
def A_prtStr : An := .leaf
def H_prtStr : Nat → RH := fun r => match r with
 | 1 => { H := { ac := [7] } }
 | 2 => { H := { ty := [(14, (.int .u8))] } }
 | _ => {}
noncomputable def S_prtStr : Sig := .o { pre := [(false, .cells 50 [(.mref 0 0), (.gs 1 (.int .u8)), (.d (.int .i64))]), (false, .tg (.int .u8) 5)], args := [(.ref 0 0), (.d .str)], post := [(true, .cells 50 [(.mref 0 0), (.gs 1 (.int .u8)), (.d (.int .i64))]), (false, .tg (.int .u8) 5)], res := (.tup [(.d (.int .i64)), (.d .erri)]), f := fun x => G_prtStr x.1.2.1 x.2.1 x.2.2.1 }
theorem S_prtStr_ok : SigOK CX 31 S_prtStr := sigO_of (l := [(51, S_copyCheckP)]) ⟨S_copyCheckP_ok, trivial⟩ (hint := H_prtStr) (an := A_prtStr) (by kernel_rfl) (fun x => by kernel_rfl)
noncomputable def G_lleaf (x0 : Fm) : Option (Bool) := (
 some (cond (!decide (x0.k = 3)) true (decide ((x0.l.length : Int) = 0))))
def A_lleaf : An := .leaf
def H_lleaf : Nat → RH := fun _ => {}
noncomputable def S_lleaf : Sig := .n [(.d .form)] (.d .bool) (fun x => G_lleaf x.1)
theorem S_lleaf_ok : SigOK CX 42 S_lleaf := sigN_of (l := []) trivial (hint := H_lleaf) (an := A_lleaf) (fun x => by kernel_rfl)
noncomputable def G_isWidth (x0 : Int) : Option (Bool) := (
 some (cond (decide (x0 ≥ 20)) (decide (x0 ≤ 200)) false))
def A_isWidth : An := .leaf
def H_isWidth : Nat → RH := fun _ => {}
noncomputable def S_isWidth : Sig := .n [(.d (.int .i64))] (.d .bool) (fun x => G_isWidth x.1)
theorem S_isWidth_ok : SigOK CX 23 S_isWidth := sigN_of (l := []) trivial (hint := H_isWidth) (an := A_isWidth) (fun x => by kernel_rfl)
noncomputable def G_front (x0 : Fm) : Option ((List UInt8) × Int × Unit) := (
 Option.bind (α := List UInt8) (G_head (Fm.eta x0)) fun r1 => (
 cond (decide (r1 = [])) (some ([40], 0, ())) (cond ((ixOK 1 x0.l.length) || !(decide ((x0.l.length : Int) > 1))) (cond (cond (decide ((x0.l.length : Int) > 1)) (!decide ((x0.l.getD (1 : Int).toNat (Fm.mk 0 0 [] [])).k = 3)) false) (cond (decide (([40]).length + r1.length ≤ 9223372036854775807)) (cond (decide ((([40]) ++ r1).length + ([32]).length ≤ 9223372036854775807)) (cond (ixOK 1 x0.l.length) (Option.bind (α := List UInt8) (G_rWrite (Fm.eta (x0.l.getD (1 : Int).toNat (Fm.mk 0 0 [] [])))) fun r2 => (
 cond (decide (((([40]) ++ r1) ++ ([32])).length + r2.length ≤ 9223372036854775807)) (some (((([40]) ++ r1) ++ ([32])) ++ r2, 2, ())) none)) none) none) none) (cond (decide (([40]).length + r1.length ≤ 9223372036854775807)) (some (([40]) ++ r1, 1, ())) none)) none)))
def A_front : An := .leaf
def H_front : Nat → RH := fun _ => {}
noncomputable def S_front : Sig := .n [(.d .form)] (.tup [(.d .str), (.d (.int .i64))]) (fun x => G_front x.1)
theorem S_front_ok : SigOK CX 43 S_front := sigN_of (l := [(66, S_head), (41, S_rWrite)]) ⟨S_head_ok, S_rWrite_ok, trivial⟩ (hint := H_front) (an := A_front) (fun x => by kernel_rfl)
noncomputable def G_prtLine (x1 : Int) (o0 : Bool × Unit × Int × Unit) (o1 : List Int) : Option ((Unit) × ((Bool × Unit × Int × Unit) × (List Int) × Unit)) := (
 Option.bind (α := (Bool) × ((Bool × Unit × Int × Unit) × (List Int) × Unit)) (G_prtByte 10 (o0.1, (), o0.2.2.1, ()) o1) fun r1 => (
 Option.bind (α := List UInt8) (repF ([32]) (x1)) fun r2 => (
 Option.bind (α := (Int × Bool × Unit) × ((Bool × Unit × Int × Unit) × (List Int) × Unit)) (G_prtStr r2 (r1.2.1.1, (), r1.2.1.2.2.1, ()) r1.2.2.1) fun r3 => (
 some ((), ((r3.2.1.1, (), r3.2.1.2.2.1, ()), r3.2.2.1, ()))))))
def A_prtLine : An := .leaf
def H_prtLine : Nat → RH := fun r => match r with
 | 0 => { H := { ac := [7] } }
 | 1 => { H := { ac := [13] } }
 | _ => {}
noncomputable def S_prtLine : Sig := .o { pre := [(false, .cells 50 [(.mref 0 0), (.gs 1 (.int .u8)), (.d (.int .i64))]), (false, .tg (.int .u8) 5)], args := [(.ref 0 0), (.d (.int .i64))], post := [(true, .cells 50 [(.mref 0 0), (.gs 1 (.int .u8)), (.d (.int .i64))]), (false, .tg (.int .u8) 5)], res := (.tup []), f := fun x => G_prtLine x.1.2.1 x.2.1 x.2.2.1 }
theorem S_prtLine_ok : SigOK CX 44 S_prtLine := sigO_of (l := [(30, S_prtByte), (67, S_repeat), (31, S_prtStr)]) ⟨S_prtByte_ok, S_repeat_ok, S_prtStr_ok, trivial⟩ (hint := H_prtLine) (an := A_prtLine) (by kernel_rfl) (fun x => by kernel_rfl)
noncomputable def G_prtForm (k : Nat) (x1 : Fm) (x2 : Int) (x3 : Int) (o0 : Bool × Unit × Int × Unit) (o1 : List Int) : Option ((Unit) × ((Bool × Unit × Int × Unit) × (List Int) × Unit)) := match k with
| 0 => none
| k + 1 => (
 Option.bind (α := List UInt8) (G_rWrite (Fm.eta x1)) fun r1 => (
 Option.bind (α := Bool) (G_lleaf (Fm.eta x1)) fun r2 => (
 cond (cond r2 true (decide (IntKind.wrap .i64 (IntKind.wrap .i64 (x2 + (r1.length : Int)) + x3) ≤ o0.2.2.1))) (Option.bind (α := (Int × Bool × Unit) × ((Bool × Unit × Int × Unit) × (List Int) × Unit)) (G_prtStr r1 (o0.1, (), o0.2.2.1, ()) o1) fun r3 => (
 some ((), ((r3.2.1.1, (), r3.2.1.2.2.1, ()), r3.2.2.1, ())))) (Option.bind (α := (List UInt8) × Int × Unit) (G_front (Fm.eta x1)) fun r4 => (
 Option.bind (α := (Int × Bool × Unit) × ((Bool × Unit × Int × Unit) × (List Int) × Unit)) (G_prtStr r4.1 (o0.1, (), o0.2.2.1, ()) o1) fun r5 => (
 Option.bind (α := (Unit × Int × (Int × Int × (List UInt8) × (List Fm) × Unit) × Int × Int × Unit) × ((Bool × Unit × Int × Unit) × (List Int) × Unit))
 (cond (decide (r4.2.1 = 0)) (some (((), x3, (x1.k, x1.n, x1.t, x1.l, ()), r4.2.1, IntKind.wrap .i64 (x2 + 1), ()), ((r5.2.1.1, (), r5.2.1.2.2.1, ()), r5.2.2.1, ()))) (some (((), x3, (x1.k, x1.n, x1.t, x1.l, ()), r4.2.1, IntKind.wrap .i64 (x2 + 2), ()), ((r5.2.1.1, (), r5.2.1.2.2.1, ()), r5.2.2.1, ())))) fun d6 => (
 let l7 := d6.2.2.1
 let v3_8 := d6.1.2.1
 let v10_9 := d6.1.2.2.2.1
 let v11_10 := d6.1.2.2.2.2.1
 Option.bind (α := (Unit × Unit) × ((Bool × Unit × Int × Unit) × (List Int) × Unit))
 (loopM (L := (Unit × Int × (Int × Int × (List UInt8) × (List Fm) × Unit) × Int × Int × Unit) × ((Bool × Unit × Int × Unit) × (List Int) × Unit)) (R := (Unit × Unit) × ((Bool × Unit × Int × Unit) × (List Int) × Unit)) (fun d11 => (
 let l12 := d11.2.2.1
 let v3_13 := d11.1.2.1
 let v11_14 := d11.1.2.2.2.1
 let v12_15 := d11.1.2.2.2.2.1
 cond (decide (v12_15 < (d11.1.2.2.1.2.2.2.1.length : Int))) (Option.bind (α := (Unit × Int × (Int × Int × (List UInt8) × (List Fm) × Unit) × Int × Int × Unit) × ((Bool × Unit × Int × Unit) × (List Int) × Unit))
 (cond (decide (v12_15 > 0)) (Option.bind (α := (Unit) × ((Bool × Unit × Int × Unit) × (List Int) × Unit)) (G_prtLine v11_14 (d11.2.1.1, (), d11.2.1.2.2.1, ()) l12) fun r16 => (
 some (((), v3_13, (d11.1.2.2.1.1, d11.1.2.2.1.2.1, d11.1.2.2.1.2.2.1, d11.1.2.2.1.2.2.2.1, ()), v11_14, v12_15, ()), ((r16.2.1.1, (), r16.2.1.2.2.1, ()), r16.2.2.1, ())))) (some (((), v3_13, (d11.1.2.2.1.1, d11.1.2.2.1.2.1, d11.1.2.2.1.2.2.1, d11.1.2.2.1.2.2.2.1, ()), v11_14, v12_15, ()), ((d11.2.1.1, (), d11.2.1.2.2.1, ()), l12, ())))) fun d17 => (
 let l18 := d17.2.2.1
 let v3_19 := d17.1.2.1
 let v11_20 := d17.1.2.2.2.1
 let v12_21 := d17.1.2.2.2.2.1
 Option.bind (α := (Unit × Int × (Int × Int × (List UInt8) × (List Fm) × Unit) × Int × Int × Int × Unit) × ((Bool × Unit × Int × Unit) × (List Int) × Unit))
 (cond (decide (v12_21 = IntKind.wrap .i64 ((d17.1.2.2.1.2.2.2.1.length : Int) - 1))) (some (((), v3_19, (d17.1.2.2.1.1, d17.1.2.2.1.2.1, d17.1.2.2.1.2.2.1, d17.1.2.2.1.2.2.2.1, ()), v11_20, v12_21, IntKind.wrap .i64 (v3_19 + 1), ()), ((d17.2.1.1, (), d17.2.1.2.2.1, ()), l18, ()))) (some (((), v3_19, (d17.1.2.2.1.1, d17.1.2.2.1.2.1, d17.1.2.2.1.2.2.1, d17.1.2.2.1.2.2.2.1, ()), v11_20, v12_21, 0, ()), ((d17.2.1.1, (), d17.2.1.2.2.1, ()), l18, ())))) fun d22 => (
 let l23 := d22.2.2.1
 let v3_24 := d22.1.2.1
 let v11_25 := d22.1.2.2.2.1
 let v12_26 := d22.1.2.2.2.2.1
 let v13_27 := d22.1.2.2.2.2.2.1
 cond (ixOK v12_26 d22.1.2.2.1.2.2.2.1.length) (Option.bind (α := (Unit) × ((Bool × Unit × Int × Unit) × (List Int) × Unit)) (G_prtForm k (Fm.eta (d22.1.2.2.1.2.2.2.1.getD v12_26.toNat (Fm.mk 0 0 [] []))) v11_25 v13_27 (d22.2.1.1, (), d22.2.1.2.2.1, ()) l23) fun r28 => (
 some (Step.next (((), v3_24, (d22.1.2.2.1.1, d22.1.2.2.1.2.1, d22.1.2.2.1.2.2.1, d22.1.2.2.1.2.2.2.1, ()), v11_25, IntKind.wrap .i64 (v12_26 + 1), ()), ((r28.2.1.1, (), r28.2.1.2.2.1, ()), r28.2.2.1, ()))))) none))) (some (Step.done (((), ()), ((d11.2.1.1, (), d11.2.1.2.2.1, ()), l12, ())))))) (((), v3_8, (d6.1.2.2.1.1, d6.1.2.2.1.2.1, d6.1.2.2.1.2.2.1, d6.1.2.2.1.2.2.2.1, ()), v11_10, v10_9, ()), ((d6.2.1.1, (), d6.2.1.2.2.1, ()), l7, ()))) fun d29 => (
 let l30 := d29.2.2.1
 Option.bind (α := (Bool) × ((Bool × Unit × Int × Unit) × (List Int) × Unit)) (G_prtByte 41 (d29.2.1.1, (), d29.2.1.2.2.1, ()) l30) fun r31 => (
 some ((), ((r31.2.1.1, (), r31.2.1.2.2.1, ()), r31.2.2.1, ())))))))))))
def A_prtForm : An := .seq (.leaf) (.seq (.leaf) (.seq (.leaf) (.seq (.leaf) (.seq (.leaf) (.seq (.leaf) (.join false { env := [(0, (.ref 0 0)), (3, (.d (.int .i64))), (5, (.rptr [(.d (.int .i64)), (.d (.int .i64)), (.d .str), (.d (.slice .form))])), (10, (.d (.int .i64))), (11, (.d (.int .i64)))], objs := [(true, .cells 50 [(.mref 0 0), (.gs 1 (.int .u8)), (.d (.int .i64))]), (false, .tg (.int .u8) 5)] } (.leaf) (.join false { env := [(0, (.ref 0 0))], objs := [(true, .cells 50 [(.mref 0 0), (.gs 1 (.int .u8)), (.d (.int .i64))]), (false, .tg (.int .u8) 5)] } (.seq (.leaf) (.block (.loop { env := [(0, (.ref 0 0)), (3, (.d (.int .i64))), (5, (.rptr [(.d (.int .i64)), (.d (.int .i64)), (.d .str), (.d (.slice .form))])), (11, (.d (.int .i64))), (12, (.d (.int .i64)))], objs := [(true, .cells 50 [(.mref 0 0), (.gs 1 (.int .u8)), (.d (.int .i64))]), (false, .tg (.int .u8) 5)] } (.seq (.leaf) (.seq (.block (.join false { env := [(0, (.ref 0 0)), (3, (.d (.int .i64))), (5, (.rptr [(.d (.int .i64)), (.d (.int .i64)), (.d .str), (.d (.slice .form))])), (11, (.d (.int .i64))), (12, (.d (.int .i64)))], objs := [(true, .cells 50 [(.mref 0 0), (.gs 1 (.int .u8)), (.d (.int .i64))]), (false, .tg (.int .u8) 5)] } (.leaf) (.seq (.leaf) (.join false { env := [(0, (.ref 0 0)), (3, (.d (.int .i64))), (5, (.rptr [(.d (.int .i64)), (.d (.int .i64)), (.d .str), (.d (.slice .form))])), (11, (.d (.int .i64))), (12, (.d (.int .i64))), (13, (.d (.int .i64)))], objs := [(true, .cells 50 [(.mref 0 0), (.gs 1 (.int .u8)), (.d (.int .i64))]), (false, .tg (.int .u8) 5)] } (.leaf) (.leaf))))) (.leaf)))))) (.leaf))))))))
def H_prtForm : Nat → RH := fun r => match r with
 | 3 => { H := { ac := [35] } }
 | 5 => { H := { ac := [45] } }
 | 13 => { H := { ac := [64] } }
 | 17 => { H := { ac := [81] } }
 | 18 => { H := { ac := [85] } }
 | _ => {}
noncomputable def S_prtForm (k : Nat) : Sig := .o { pre := [(false, .cells 50 [(.mref 0 0), (.gs 1 (.int .u8)), (.d (.int .i64))]), (false, .tg (.int .u8) 5)], args := [(.ref 0 0), (.d .form), (.d (.int .i64)), (.d (.int .i64))], post := [(true, .cells 50 [(.mref 0 0), (.gs 1 (.int .u8)), (.d (.int .i64))]), (false, .tg (.int .u8) 5)], res := (.tup []), f := fun x => G_prtForm k x.1.2.1 x.1.2.2.1 x.1.2.2.2.1 x.2.1 x.2.2.1 }
theorem S_prtForm_ok : ∀ k, SigOK CX 25 (S_prtForm k)
| 0 => ⟨by kernel_rfl, fun x r h => by cases h⟩
| k + 1 => by
 have ih := S_prtForm_ok k
 exact sigO_of (l := [(41, S_rWrite), (42, S_lleaf), (31, S_prtStr), (43, S_front), (44, S_prtLine), (25, (S_prtForm k)), (30, S_prtByte)]) ⟨S_rWrite_ok, S_lleaf_ok, S_prtStr_ok, S_front_ok, S_prtLine_ok, ih, S_prtByte_ok, trivial⟩ (hint := H_prtForm) (an := A_prtForm) (by kernel_rfl) (fun x => by kernel_rfl)
noncomputable def L_prtForm (x1 : Fm) (x2 : Int) (x3 : Int) (o0 : Bool × Unit × Int × Unit) (o1 : List Int) : Option ((Unit) × ((Bool × Unit × Int × Unit) × (List Int) × Unit)) := limF fun k => G_prtForm k x1 x2 x3 o0 o1
noncomputable def S_prtForm_l : Sig := .o { pre := [(false, .cells 50 [(.mref 0 0), (.gs 1 (.int .u8)), (.d (.int .i64))]), (false, .tg (.int .u8) 5)], args := [(.ref 0 0), (.d .form), (.d (.int .i64)), (.d (.int .i64))], post := [(true, .cells 50 [(.mref 0 0), (.gs 1 (.int .u8)), (.d (.int .i64))]), (false, .tg (.int .u8) 5)], res := (.tup []), f := fun x => L_prtForm x.1.2.1 x.1.2.2.1 x.1.2.2.2.1 x.2.1 x.2.2.1 }
theorem S_prtForm_l_ok : SigOK CX 25 S_prtForm_l := SigOK.limO S_prtForm_ok fun x r h => limF_ex h
noncomputable def G_layFormat (x0 : Fm) (x1 : Int) : Option ((List UInt8) × Int × Unit) := (
 Option.bind (α := Bool) (G_isWidth x1) fun r1 => (
 Option.bind (α := Bool) (cond (!(!r1)) (G_rvalid (Fm.eta x0)) (some false)) fun r2 => (
 cond (cond (!r1) true (!r2)) (some ([], 1, ())) (Option.bind (α := (Unit) × ((Bool × Unit × Int × Unit) × (List Int) × Unit)) (L_prtForm (Fm.eta x0) 0 0 (false, (), x1, ()) ([] : List Int)) fun r3 => (
 Option.bind (α := (List UInt8) × (Unit)) (Option.map (fun s => (s, ())) (bytesOf (r3.2.2.1))) fun r4 => (
 some (r4.1, 0, ())))))))
def A_layFormat : An := .leaf
def H_layFormat : Nat → RH := fun r => match r with
 | 3 => { H := { mb := [17] } }
 | 4 => { H := { ac := [20] } }
 | 5 => { H := { ac := [24] } }
 | _ => {}
noncomputable def S_layFormat : Sig := .n [(.d .form), (.d (.int .i64))] (.tup [(.d .str), (.d (.int .i64))]) (fun x => G_layFormat x.1 x.2.1)
theorem S_layFormat_ok : SigOK CX 9 S_layFormat := sigN_of (l := [(23, S_isWidth), (24, S_rvalid), (25, S_prtForm_l), (26, S_stringP)]) ⟨S_isWidth_ok, S_rvalid_ok, S_prtForm_l_ok, S_stringP_ok, trivial⟩ (hint := H_layFormat) (an := A_layFormat) (fun x => by kernel_rfl)
noncomputable def G_slIndex (x0 : List UInt8) (x1 : List UInt8) : Option (Int) := (
 cond (cond (decide ((x1.length : Int) = 0)) true (decide (x1 = x0))) (some 0) (cond (decide ((x1.length : Int) = 1)) (cond (ixOK 0 x1.length) (Option.bind (α := Int) (indexByteF (x0) (byteAt x1 0)) fun r1 => (
 some r1)) none) (cond (decide ((x1.length : Int) ≥ (x0.length : Int))) (some (-1)) (none))))
def A_slIndex : An := .leaf
def H_slIndex : Nat → RH := fun _ => {}
noncomputable def S_slIndex : Sig := .n [(.d .str), (.d .str)] (.d (.int .i64)) (fun x => G_slIndex x.1 x.2.1)
theorem S_slIndex_ok : SigOK CX 79 S_slIndex := sigN_of (l := [(107, S_slIndexByte)]) ⟨S_slIndexByte_ok, trivial⟩ (hint := H_slIndex) (an := A_slIndex) (fun x => by kernel_rfl)
noncomputable def G_sIndex (x0 : List UInt8) (x1 : List UInt8) : Option (Int) := (
 Option.bind (α := Int) (G_slIndex x0 x1) fun r1 => (
 some r1))
def A_sIndex : An := .leaf
def H_sIndex : Nat → RH := fun _ => {}
noncomputable def S_sIndex : Sig := .n [(.d .str), (.d .str)] (.d (.int .i64)) (fun x => G_sIndex x.1 x.2.1)
theorem S_sIndex_ok : SigOK CX 52 S_sIndex := sigN_of (l := [(79, S_slIndex)]) ⟨S_slIndex_ok, trivial⟩ (hint := H_sIndex) (an := A_sIndex) (fun x => by kernel_rfl)
noncomputable def G_sContains (x0 : List UInt8) (x1 : List UInt8) : Option (Bool) := (
 Option.bind (α := Int) (G_sIndex x0 x1) fun r1 => (
 some (decide (r1 ≥ 0))))
def A_sContains : An := .leaf
def H_sContains : Nat → RH := fun _ => {}
noncomputable def S_sContains : Sig := .n [(.d .str), (.d .str)] (.d .bool) (fun x => G_sContains x.1 x.2.1)
theorem S_sContains_ok : SigOK CX 32 S_sContains := sigN_of (l := [(52, S_sIndex)]) ⟨S_sIndex_ok, trivial⟩ (hint := H_sContains) (an := A_sContains) (fun x => by kernel_rfl)
noncomputable def G_slCut (x0 : List UInt8) (x1 : List UInt8) : Option ((List UInt8) × (List UInt8) × Bool × Unit) := (
 Option.bind (α := Int) (G_slIndex x0 x1) fun r1 => (
 cond (decide (r1 ≥ 0)) (cond (slOK 0 r1 x0.length) (cond (slOK (IntKind.wrap .i64 (r1 + (x1.length : Int))) (x0.length : Int) x0.length) (some ((x0.drop (0 : Int).toNat).take (r1.toNat - (0 : Int).toNat), (x0.drop (IntKind.wrap .i64 (r1 + (x1.length : Int))).toNat).take ((x0.length : Int).toNat - (IntKind.wrap .i64 (r1 + (x1.length : Int))).toNat), true, ())) none) none) (some (x0, [], false, ()))))
def A_slCut : An := .leaf
def H_slCut : Nat → RH := fun _ => {}
noncomputable def S_slCut : Sig := .n [(.d .str), (.d .str)] (.tup [(.d .str), (.d .str), (.d .bool)]) (fun x => G_slCut x.1 x.2.1)
theorem S_slCut_ok : SigOK CX 116 S_slCut := sigN_of (l := [(79, S_slIndex)]) ⟨S_slIndex_ok, trivial⟩ (hint := H_slCut) (an := A_slCut) (fun x => by kernel_rfl)
noncomputable def G_sCut (x0 : List UInt8) (x1 : List UInt8) : Option ((List UInt8) × (List UInt8) × Bool × Unit) := (
 Option.bind (α := (List UInt8) × (List UInt8) × Bool × Unit) (G_slCut x0 x1) fun r1 => (
 some (r1.1, r1.2.1, r1.2.2.1, ())))
def A_sCut : An := .leaf
def H_sCut : Nat → RH := fun _ => {}
noncomputable def S_sCut : Sig := .n [(.d .str), (.d .str)] (.tup [(.d .str), (.d .str), (.d .bool)]) (fun x => G_sCut x.1 x.2.1)
theorem S_sCut_ok : SigOK CX 76 S_sCut := sigN_of (l := [(116, S_slCut)]) ⟨S_slCut_ok, trivial⟩ (hint := H_sCut) (an := A_sCut) (fun x => by kernel_rfl)
noncomputable def G_lastIdx0 (x0 : List UInt8) (x1 : Int) : Option (Int) := (
 Option.bind (α := Step ((Unit) × (Unit)) (Int))
 (loopM (L := ((List UInt8) × Int × Int × Unit) × (Unit)) (R := Step ((Unit) × (Unit)) (Int)) (fun d1 => (
 let v0_2 := d1.1.1
 let v1_3 := d1.1.2.1
 let v5_4 := d1.1.2.2.1
 cond (decide (v5_4 ≥ 0)) (cond (ixOK v5_4 v0_2.length) (cond (decide (byteAt v0_2 v5_4 = v1_3)) (some (Step.done (Step.done v5_4))) (some (Step.next ((v0_2, v1_3, IntKind.wrap .i64 (v5_4 - 1), ()), ())))) none) (some (Step.done (Step.next ((), ())))))) ((x0, x1, IntKind.wrap .i64 ((x0.length : Int) - 1), ()), ())) fun qd5 => match qd5 with
 | .next d5 => (
 some (-1))
 | .done r => some r)
def A_lastIdx0 : An := .seq (.leaf) (.join true { env := [], objs := [] } (.seq (.leaf) (.block (.loop { env := [(0, (.d .str)), (1, (.d (.int .u8))), (5, (.d (.int .i64)))], objs := [] } (.leaf)))) (.leaf))
def H_lastIdx0 : Nat → RH := fun _ => {}
noncomputable def S_lastIdx0 : Sig := .n [(.d .str), (.d (.int .u8))] (.d (.int .i64)) (fun x => G_lastIdx0 x.1 x.2.1)
theorem S_lastIdx0_ok : SigOK CX 108 S_lastIdx0 := sigN_of (l := []) trivial (hint := H_lastIdx0) (an := A_lastIdx0) (fun x => by kernel_rfl)
noncomputable def G_lastIdx (x0 : List UInt8) (x1 : Int) : Option (Int) := (
 Option.bind (α := Int) (G_lastIdx0 x0 x1) fun r1 => (
 some r1))
def A_lastIdx : An := .leaf
def H_lastIdx : Nat → RH := fun _ => {}
noncomputable def S_lastIdx : Sig := .n [(.d .str), (.d (.int .u8))] (.d (.int .i64)) (fun x => G_lastIdx x.1 x.2.1)
theorem S_lastIdx_ok : SigOK CX 74 S_lastIdx := sigN_of (l := [(108, S_lastIdx0)]) ⟨S_lastIdx0_ok, trivial⟩ (hint := H_lastIdx) (an := A_lastIdx) (fun x => by kernel_rfl)
noncomputable def G_lcomments (x0 : List UInt8) : Option ((List Int) × (List Int) × Unit) := (
 Option.bind (α := (Unit × Unit × Unit) × ((List Int) × (List Int) × Unit))
 (loopM (L := ((List UInt8) × Unit × Unit × Int × Int × Int × Unit) × ((List Int) × (List Int) × Unit)) (R := (Unit × Unit × Unit) × ((List Int) × (List Int) × Unit)) (fun d1 => (
 let l2 := d1.2.1
 let l3 := d1.2.2.1
 let v0_4 := d1.1.1
 let v4_5 := d1.1.2.2.2.1
 let v5_6 := d1.1.2.2.2.2.1
 let v6_7 := d1.1.2.2.2.2.2.1
 cond (decide (v6_7 < (v0_4.length : Int))) (Option.bind (α := ((List UInt8) × Unit × Unit × Int × Int × Int × Unit) × ((List Int) × (List Int) × Unit))
 (cond (ixOK v6_7 v0_4.length) (cond (decide (byteAt v0_4 v6_7 = 59)) (cond (slOK v6_7 (v0_4.length : Int) v0_4.length) (Option.bind (α := Int) (indexByteF ((v0_4.drop v6_7.toNat).take ((v0_4.length : Int).toNat - v6_7.toNat)) (10)) fun r8 => (
 Option.bind (α := ((List UInt8) × Unit × Unit × Int × Int × Int × Unit) × ((List Int) × (List Int) × Unit))
 (cond (decide (r8 < 0)) (some ((v0_4, (), (), v4_5, v6_7, IntKind.wrap .i64 ((v0_4.length : Int) - v6_7), ()), (l2, l3, ()))) (some ((v0_4, (), (), v4_5, v6_7, r8, ()), (l2, l3, ())))) fun d9 => (
 let l10 := d9.2.1
 let l11 := d9.2.2.1
 let v0_12 := d9.1.1
 let v4_13 := d9.1.2.2.2.1
 let v6_14 := d9.1.2.2.2.2.1
 let v8_15 := d9.1.2.2.2.2.2.1
 cond (slOK 0 v6_14 v0_12.length) (Option.bind (α := Int) (G_lastIdx ((v0_12.drop (0 : Int).toNat).take (v6_14.toNat - (0 : Int).toNat)) 10) fun r16 => (
 cond (slOK (IntKind.wrap .i64 (r16 + 1)) v6_14 v0_12.length) (Option.bind (α := ((List UInt8) × Unit × Unit × Int × Int × Int × Unit) × ((List Int) × (List Int) × Unit))
 (Option.bind (α := List UInt8) (cond (decide (v4_13 = 0)) (trimBF ((v0_12.drop (IntKind.wrap .i64 (r16 + 1)).toNat).take (v6_14.toNat - (IntKind.wrap .i64 (r16 + 1)).toNat)) ([32, 9])) (some ([] : List UInt8))) fun r17 => (
 cond (cond (decide (v4_13 = 0)) (decide (r17 = [])) false) (cond (decide ((l10.length + ([v6_14]).length) * 8 ≤ 140737488355328)) (some ((v0_12, (), (), v4_13, v6_14, v8_15, ()), (l10 ++ ([v6_14]), l11, ()))) none) (some ((v0_12, (), (), v4_13, v6_14, v8_15, ()), (l10, l11, ()))))) fun d18 => (
 let l19 := d18.2.1
 let l20 := d18.2.2.1
 let v0_21 := d18.1.1
 let v4_22 := d18.1.2.2.2.1
 let v6_23 := d18.1.2.2.2.2.1
 let v8_24 := d18.1.2.2.2.2.2.1
 some ((v0_21, (), (), v4_22, (-1), IntKind.wrap .i64 (v6_23 + IntKind.wrap .i64 (v8_24 - 1)), ()), (l19, l20, ())))) none)) none))) none) (cond (decide (byteAt v0_4 v6_7 = 34)) (Option.bind (α := ((List UInt8) × Unit × Unit × Int × Int × Unit) × ((List Int) × (List Int) × Unit))
 (cond (cond (decide (v4_5 = 0)) (decide (v5_6 < 0)) false) (cond (decide ((l3.length + ([v6_7]).length) * 8 ≤ 140737488355328)) (some ((v0_4, (), (), v4_5, v6_7, ()), (l2, l3 ++ ([v6_7]), ()))) none) (some ((v0_4, (), (), v4_5, v6_7, ()), (l2, l3, ())))) fun d25 => (
 let l26 := d25.2.1
 let l27 := d25.2.2.1
 let v0_28 := d25.1.1
 let v4_29 := d25.1.2.2.2.1
 let v6_30 := d25.1.2.2.2.2.1
 Option.bind (α := ((List UInt8) × Unit × Unit × Int × Int × Unit) × ((List Int) × (List Int) × Unit))
 (loopM (L := ((List UInt8) × Unit × Unit × Int × Int × Unit) × ((List Int) × (List Int) × Unit)) (R := ((List UInt8) × Unit × Unit × Int × Int × Unit) × ((List Int) × (List Int) × Unit)) (fun d31 => (
 let l32 := d31.2.1
 let l33 := d31.2.2.1
 let v0_34 := d31.1.1
 let v4_35 := d31.1.2.2.2.1
 let v6_36 := d31.1.2.2.2.2.1
 cond ((ixOK v6_36 v0_34.length) || !(decide (v6_36 < (v0_34.length : Int)))) (cond (cond (decide (v6_36 < (v0_34.length : Int))) (!decide (byteAt v0_34 v6_36 = 34)) false) (Option.bind (α := ((List UInt8) × Unit × Unit × Int × Int × Unit) × ((List Int) × (List Int) × Unit))
 (cond (ixOK v6_36 v0_34.length) (cond (decide (byteAt v0_34 v6_36 = 92)) (some ((v0_34, (), (), v4_35, IntKind.wrap .i64 (v6_36 + 1), ()), (l32, l33, ()))) (some ((v0_34, (), (), v4_35, v6_36, ()), (l32, l33, ())))) none) fun d37 => (
 let l38 := d37.2.1
 let l39 := d37.2.2.1
 let v0_40 := d37.1.1
 let v4_41 := d37.1.2.2.2.1
 let v6_42 := d37.1.2.2.2.2.1
 some (Step.next ((v0_40, (), (), v4_41, IntKind.wrap .i64 (v6_42 + 1), ()), (l38, l39, ()))))) (some (Step.done ((v0_34, (), (), v4_35, v6_36, ()), (l32, l33, ()))))) none)) ((v0_28, (), (), v4_29, IntKind.wrap .i64 (v6_30 + 1), ()), (l26, l27, ()))) fun d43 => (
 let l44 := d43.2.1
 let l45 := d43.2.2.1
 let v0_46 := d43.1.1
 let v4_47 := d43.1.2.2.2.1
 let v6_48 := d43.1.2.2.2.2.1
 some ((v0_46, (), (), v4_47, (-1), v6_48, ()), (l44, l45, ()))))) (cond (decide (byteAt v0_4 v6_7 = 40)) (Option.bind (α := ((List UInt8) × Unit × Unit × Int × Int × Unit) × ((List Int) × (List Int) × Unit))
 (cond (decide (v4_5 = 0)) (cond (decide ((l3.length + ([v6_7]).length) * 8 ≤ 140737488355328)) (some ((v0_4, (), (), v4_5, v6_7, ()), (l2, l3 ++ ([v6_7]), ()))) none) (some ((v0_4, (), (), v4_5, v6_7, ()), (l2, l3, ())))) fun d49 => (
 let l50 := d49.2.1
 let l51 := d49.2.2.1
 let v0_52 := d49.1.1
 let v4_53 := d49.1.2.2.2.1
 let v6_54 := d49.1.2.2.2.2.1
 some ((v0_52, (), (), IntKind.wrap .i64 (v4_53 + 1), (-1), v6_54, ()), (l50, l51, ())))) (cond (decide (byteAt v0_4 v6_7 = 41)) (some ((v0_4, (), (), IntKind.wrap .i64 (v4_5 - 1), (-1), v6_7, ()), (l2, l3, ()))) (cond (cond (cond (decide (byteAt v0_4 v6_7 = 32)) true (decide (byteAt v0_4 v6_7 = 9))) true (decide (byteAt v0_4 v6_7 = 10))) (some ((v0_4, (), (), v4_5, (-1), v6_7, ()), (l2, l3, ()))) (cond (decide (v5_6 < 0)) (cond (decide (v4_5 = 0)) (cond (decide ((l3.length + ([v6_7]).length) * 8 ≤ 140737488355328)) (some ((v0_4, (), (), v4_5, v6_7, v6_7, ()), (l2, l3 ++ ([v6_7]), ()))) none) (some ((v0_4, (), (), v4_5, v6_7, v6_7, ()), (l2, l3, ())))) (some ((v0_4, (), (), v4_5, v5_6, v6_7, ()), (l2, l3, ()))))))))) none) fun d55 => (
 let l56 := d55.2.1
 let l57 := d55.2.2.1
 let v0_58 := d55.1.1
 let v4_59 := d55.1.2.2.2.1
 let v5_60 := d55.1.2.2.2.2.1
 let v6_61 := d55.1.2.2.2.2.2.1
 some (Step.next ((v0_58, (), (), v4_59, v5_60, IntKind.wrap .i64 (v6_61 + 1), ()), (l56, l57, ()))))) (some (Step.done (((), (), ()), (l2, l3, ())))))) ((x0, (), (), 0, (-1), 0, ()), (([] : List Int), ([] : List Int), ()))) fun d62 => (
 let l63 := d62.2.1
 let l64 := d62.2.2.1
 some (l63, l64, ())))
def A_lcomments : An := .seq (.leaf) (.seq (.leaf) (.join false { env := [(2, (.gs 0 (.int .i64))), (3, (.gs 1 (.int .i64)))], objs := [(false, .tg (.int .i64) 3), (false, .tg (.int .i64) 3)] } (.seq (.leaf) (.block (.loop { env := [(0, (.d .str)), (2, (.gs 0 (.int .i64))), (3, (.gs 1 (.int .i64))), (4, (.d (.int .i64))), (5, (.d (.int .i64))), (6, (.d (.int .i64)))], objs := [(false, .tg (.int .i64) 3), (false, .tg (.int .i64) 3)] } (.seq (.leaf) (.join false { env := [(0, (.d .str)), (2, (.gs 0 (.int .i64))), (3, (.gs 1 (.int .i64))), (4, (.d (.int .i64))), (5, (.d (.int .i64))), (6, (.d (.int .i64)))], objs := [(false, .tg (.int .i64) 3), (false, .tg (.int .i64) 3)] } (.block (.seq (.leaf) (.block (.seq (.leaf) (.cond (.seq (.leaf) (.join false { env := [(0, (.d .str)), (2, (.gs 0 (.int .i64))), (3, (.gs 1 (.int .i64))), (4, (.d (.int .i64))), (6, (.d (.int .i64))), (8, (.d (.int .i64)))], objs := [(false, .tg (.int .i64) 3), (false, .tg (.int .i64) 3)] } (.leaf) (.seq (.leaf) (.join false { env := [(0, (.d .str)), (2, (.gs 0 (.int .i64))), (3, (.gs 1 (.int .i64))), (4, (.d (.int .i64))), (6, (.d (.int .i64))), (8, (.d (.int .i64)))], objs := [(false, .tg (.int .i64) 3), (false, .tg (.int .i64) 3)] } (.leaf) (.leaf))))) (.seq (.leaf) (.cond (.join false { env := [(0, (.d .str)), (2, (.gs 0 (.int .i64))), (3, (.gs 1 (.int .i64))), (4, (.d (.int .i64))), (6, (.d (.int .i64)))], objs := [(false, .tg (.int .i64) 3), (false, .tg (.int .i64) 3)] } (.leaf) (.join false { env := [(0, (.d .str)), (2, (.gs 0 (.int .i64))), (3, (.gs 1 (.int .i64))), (4, (.d (.int .i64))), (6, (.d (.int .i64)))], objs := [(false, .tg (.int .i64) 3), (false, .tg (.int .i64) 3)] } (.seq (.leaf) (.block (.loop { env := [(0, (.d .str)), (2, (.gs 0 (.int .i64))), (3, (.gs 1 (.int .i64))), (4, (.d (.int .i64))), (6, (.d (.int .i64)))], objs := [(false, .tg (.int .i64) 3), (false, .tg (.int .i64) 3)] } (.seq (.leaf) (.join false { env := [(0, (.d .str)), (2, (.gs 0 (.int .i64))), (3, (.gs 1 (.int .i64))), (4, (.d (.int .i64))), (6, (.d (.int .i64)))], objs := [(false, .tg (.int .i64) 3), (false, .tg (.int .i64) 3)] } (.leaf) (.leaf)))))) (.leaf))) (.seq (.leaf) (.cond (.join false { env := [(0, (.d .str)), (2, (.gs 0 (.int .i64))), (3, (.gs 1 (.int .i64))), (4, (.d (.int .i64))), (6, (.d (.int .i64)))], objs := [(false, .tg (.int .i64) 3), (false, .tg (.int .i64) 3)] } (.leaf) (.leaf)) (.leaf)))))))))) (.leaf)))))) (.leaf)))
def H_lcomments : Nat → RH := fun r => match r with
 | 12 => { H := { ty := [(50, (.int .i64))] } }
 | 17 => { H := { ty := [(67, (.int .i64))] } }
 | 26 => { H := { ty := [(96, (.int .i64))] } }
 | 37 => { H := { ty := [(124, (.int .i64))] } }
 | _ => {}
noncomputable def S_lcomments : Sig := .n [(.d .str)] (.tup [(.d (.slice (.int .i64))), (.d (.slice (.int .i64)))]) (fun x => G_lcomments x.1)
theorem S_lcomments_ok : SigOK CX 49 S_lcomments := sigN_of (l := [(73, S_indexByte), (74, S_lastIdx), (75, S_trimB)]) ⟨S_indexByte_ok, S_lastIdx_ok, S_trimB_ok, trivial⟩ (hint := H_lcomments) (an := A_lcomments) (fun x => by kernel_rfl)
noncomputable def G_lcomment (x0 : List UInt8) (x1 : Int) : Option (List UInt8) := (
 cond (slOK x1 (x0.length : Int) x0.length) (Option.bind (α := (List UInt8) × (List UInt8) × Bool × Unit) (G_sCut ((x0.drop x1.toNat).take ((x0.length : Int).toNat - x1.toNat)) ([10])) fun r1 => (
 Option.bind (α := List UInt8) (trimRBF (r1.1) ([32, 9])) fun r2 => (
 some r2))) none)
def A_lcomment : An := .leaf
def H_lcomment : Nat → RH := fun _ => {}
noncomputable def S_lcomment : Sig := .n [(.d .str), (.d (.int .i64))] (.d .str) (fun x => G_lcomment x.1 x.2.1)
theorem S_lcomment_ok : SigOK CX 50 S_lcomment := sigN_of (l := [(76, S_sCut), (77, S_trimRB)]) ⟨S_sCut_ok, S_trimRB_ok, trivial⟩ (hint := H_lcomment) (an := A_lcomment) (fun x => by kernel_rfl)
noncomputable def G_lpieces (x0 : List UInt8) : Option ((List ((List UInt8) × Fm)) × Int × Unit) := (
 Option.bind (α := (List Fm) × Int × Unit) (G_readA x0) fun r1 => (
 cond (!decide (r1.2.1 = 0)) (some (([] : List ((List UInt8) × Fm)), r1.2.1, ())) (Option.bind (α := (List Int) × (List Int) × Unit) (G_lcomments x0) fun r2 => (
 Option.bind (α := ((List UInt8) × (List Int) × Unit × Unit) × ((List ((List UInt8) × Fm)) × Unit))
 (loopM (L := ((List UInt8) × (List Int) × (List Int) × Unit × (List Fm) × Int × Int × Unit) × ((List ((List UInt8) × Fm)) × Unit)) (R := ((List UInt8) × (List Int) × Unit × Unit) × ((List ((List UInt8) × Fm)) × Unit)) (fun d3 => (
 let l4 := d3.2.1
 let v0_5 := d3.1.1
 let v6_6 := d3.1.2.1
 let v7_7 := d3.1.2.2.1
 let v26_8 := d3.1.2.2.2.2.1
 let v27_9 := d3.1.2.2.2.2.2.1
 let v28_10 := d3.1.2.2.2.2.2.2.1
 cond (decide (v28_10 < v27_9)) (Option.bind (α := ((List UInt8) × (List Int) × (List Int) × Unit × (List Fm) × Int × Int × Unit) × ((List ((List UInt8) × Fm)) × Unit))
 (cond (ixOK v28_10 v26_8.length) (Option.bind (α := ((List UInt8) × (List Int) × (List Int) × Unit × Unit × (List Fm) × Int × Int × Unit) × ((List ((List UInt8) × Fm)) × (Int × Int × (List UInt8) × (List Fm) × Unit) × Unit))
 (loopM (L := ((List UInt8) × (List Int) × (List Int) × Unit × Int × Unit × (List Fm) × Int × Int × Unit) × ((List ((List UInt8) × Fm)) × (Int × Int × (List UInt8) × (List Fm) × Unit) × Unit)) (R := ((List UInt8) × (List Int) × (List Int) × Unit × Unit × (List Fm) × Int × Int × Unit) × ((List ((List UInt8) × Fm)) × (Int × Int × (List UInt8) × (List Fm) × Unit) × Unit)) (fun d11 => (
 let l12 := d11.2.1
 let c13 := d11.2.2.1.1
 let c14 := d11.2.2.1.2.1
 let c15 := d11.2.2.1.2.2.1
 let c16 := d11.2.2.1.2.2.2.1
 let v0_17 := d11.1.1
 let v6_18 := d11.1.2.1
 let v7_19 := d11.1.2.2.1
 let v9_20 := d11.1.2.2.2.2.1
 let v26_21 := d11.1.2.2.2.2.2.2.1
 let v27_22 := d11.1.2.2.2.2.2.2.2.1
 let v28_23 := d11.1.2.2.2.2.2.2.2.2.1
 cond ((ixOK 0 v6_18.length) || !(decide ((v6_18.length : Int) > 0))) (cond ((ixOK v9_20 v7_19.length) || !(decide ((v6_18.length : Int) > 0))) (cond (cond (decide ((v6_18.length : Int) > 0)) (decide ((v6_18.getD (0 : Int).toNat (0 : Int)) < (v7_19.getD v9_20.toNat (0 : Int)))) false) (cond (ixOK 0 v6_18.length) (Option.bind (α := List UInt8) (G_lcomment v0_17 (v6_18.getD (0 : Int).toNat (0 : Int))) fun r24 => (
 cond (decide ((l12.length + ([(r24, (Fm.mk 0 0 ([]) ([] : List Fm)))]).length) * 72 ≤ 140737488355328)) (cond (slOK 1 (v6_18.length : Int) v6_18.length) (some (Step.next ((v0_17, (v6_18.drop (1 : Int).toNat).take ((v6_18.length : Int).toNat - (1 : Int).toNat), v7_19, (), v9_20, (), v26_21, v27_22, v28_23, ()), (l12 ++ ([(r24, (Fm.mk 0 0 ([]) ([] : List Fm)))]), (c13, c14, c15, c16, ()), ())))) none) none)) none) (some (Step.done ((v0_17, v6_18, v7_19, (), (), v26_21, v27_22, v28_23, ()), (l12, (c13, c14, c15, c16, ()), ()))))) none) none)) ((v0_5, v6_6, v7_7, (), v28_10, (), v26_8, v27_9, v28_10, ()), (l4, ((v26_8.getD v28_10.toNat (Fm.mk 0 0 [] [])).k, (v26_8.getD v28_10.toNat (Fm.mk 0 0 [] [])).n, (v26_8.getD v28_10.toNat (Fm.mk 0 0 [] [])).t, (v26_8.getD v28_10.toNat (Fm.mk 0 0 [] [])).l, ()), ()))) fun d25 => (
 let l26 := d25.2.1
 let c27 := d25.2.2.1.1
 let c28 := d25.2.2.1.2.1
 let c29 := d25.2.2.1.2.2.1
 let c30 := d25.2.2.1.2.2.2.1
 let v0_31 := d25.1.1
 let v6_32 := d25.1.2.1
 let v7_33 := d25.1.2.2.1
 let v26_34 := d25.1.2.2.2.2.2.1
 let v27_35 := d25.1.2.2.2.2.2.2.1
 let v28_36 := d25.1.2.2.2.2.2.2.2.1
 cond (decide ((l26.length + ([(([] : List UInt8), (Fm.mk c27 c28 c29 c30))]).length) * 72 ≤ 140737488355328)) (some ((v0_31, v6_32, v7_33, (), v26_34, v27_35, v28_36, ()), (l26 ++ ([(([] : List UInt8), (Fm.mk c27 c28 c29 c30))]), ()))) none)) none) fun d37 => (
 let l38 := d37.2.1
 let v0_39 := d37.1.1
 let v6_40 := d37.1.2.1
 let v7_41 := d37.1.2.2.1
 let v26_42 := d37.1.2.2.2.2.1
 let v27_43 := d37.1.2.2.2.2.2.1
 let v28_44 := d37.1.2.2.2.2.2.2.1
 some (Step.next ((v0_39, v6_40, v7_41, (), v26_42, v27_43, IntKind.wrap .i64 (v28_44 + 1), ()), (l38, ()))))) (some (Step.done ((v0_5, v6_6, (), ()), (l4, ())))))) ((x0, r2.1, r2.2.1, (), r1.1, (r1.1.length : Int), 0, ()), (([] : List ((List UInt8) × Fm)), ()))) fun d45 => (
 let l46 := d45.2.1
 let v0_47 := d45.1.1
 let v6_48 := d45.1.2.1
 Option.bind (α := (Unit × Unit) × ((List ((List UInt8) × Fm)) × Unit))
 (loopM (L := ((List UInt8) × Unit × (List Int) × Int × Int × Unit) × ((List ((List UInt8) × Fm)) × Unit)) (R := (Unit × Unit) × ((List ((List UInt8) × Fm)) × Unit)) (fun d49 => (
 let l50 := d49.2.1
 let v0_51 := d49.1.1
 let v63_52 := d49.1.2.2.1
 let v64_53 := d49.1.2.2.2.1
 let v65_54 := d49.1.2.2.2.2.1
 cond (decide (v65_54 < v64_53)) (cond (ixOK v65_54 v63_52.length) (Option.bind (α := List UInt8) (G_lcomment v0_51 (v63_52.getD v65_54.toNat (0 : Int))) fun r55 => (
 cond (decide ((l50.length + ([(r55, (Fm.mk 0 0 ([]) ([] : List Fm)))]).length) * 72 ≤ 140737488355328)) (some (Step.next ((v0_51, (), v63_52, v64_53, IntKind.wrap .i64 (v65_54 + 1), ()), (l50 ++ ([(r55, (Fm.mk 0 0 ([]) ([] : List Fm)))]), ())))) none)) none) (some (Step.done (((), ()), (l50, ())))))) ((v0_47, (), v6_48, (v6_48.length : Int), 0, ()), (l46, ()))) fun d56 => (
 let l57 := d56.2.1
 some (l57, 0, ())))))))
def A_lpieces : An := .seq (.leaf) (.seq (.leaf) (.seq (.leaf) (.seq (.leaf) (.seq (.leaf) (.join false { env := [(0, (.d .str)), (6, (.d (.slice (.int .i64)))), (8, (.gs 0 (.pr .str .form)))], objs := [(false, .tg (.pr .str .form) 58)] } (.seq (.leaf) (.block (.loop { env := [(0, (.d .str)), (6, (.d (.slice (.int .i64)))), (7, (.d (.slice (.int .i64)))), (8, (.gs 0 (.pr .str .form))), (26, (.d (.slice .form))), (27, (.d (.int .i64))), (28, (.d (.int .i64)))], objs := [(false, .tg (.pr .str .form) 58)] } (.seq (.leaf) (.seq (.leaf) (.join false { env := [(0, (.d .str)), (6, (.d (.slice (.int .i64)))), (7, (.d (.slice (.int .i64)))), (8, (.gs 0 (.pr .str .form))), (26, (.d (.slice .form))), (27, (.d (.int .i64))), (28, (.d (.int .i64)))], objs := [(false, .tg (.pr .str .form) 58)] } (.block (.seq (.leaf) (.join false { env := [(0, (.d .str)), (6, (.d (.slice (.int .i64)))), (7, (.d (.slice (.int .i64)))), (8, (.gs 0 (.pr .str .form))), (10, (.ref 1 0)), (26, (.d (.slice .form))), (27, (.d (.int .i64))), (28, (.d (.int .i64)))], objs := [(false, .tg (.pr .str .form) 58), (false, .cells 24 [(.d (.int .i64)), (.d (.int .i64)), (.d .str), (.d (.slice .form))])] } (.block (.loop { env := [(0, (.d .str)), (6, (.d (.slice (.int .i64)))), (7, (.d (.slice (.int .i64)))), (8, (.gs 0 (.pr .str .form))), (9, (.d (.int .i64))), (10, (.ref 1 0)), (26, (.d (.slice .form))), (27, (.d (.int .i64))), (28, (.d (.int .i64)))], objs := [(false, .tg (.pr .str .form) 58), (false, .cells 24 [(.d (.int .i64)), (.d (.int .i64)), (.d .str), (.d (.slice .form))])] } (.leaf))) (.leaf)))) (.leaf))))))) (.join false { env := [(8, (.gs 0 (.pr .str .form)))], objs := [(false, .tg (.pr .str .form) 58)] } (.seq (.leaf) (.block (.loop { env := [(0, (.d .str)), (8, (.gs 0 (.pr .str .form))), (63, (.d (.slice (.int .i64)))), (64, (.d (.int .i64))), (65, (.d (.int .i64)))], objs := [(false, .tg (.pr .str .form) 58)] } (.leaf)))) (.leaf)))))))
def H_lpieces : Nat → RH := fun r => match r with
 | 9 => { H := { pl := [39, 43] } }
 | 10 => { H := { ty := [(54, (.pr .str .form))] } }
 | 12 => { H := { ty := [(61, (.pr .str .form))] } }
 | 17 => { H := { ty := [(75, (.pr .str .form))] } }
 | _ => {}
noncomputable def S_lpieces : Sig := .n [(.d .str)] (.tup [(.d (.slice (.pr .str .form))), (.d (.int .i64))]) (fun x => G_lpieces x.1)
theorem S_lpieces_ok : SigOK CX 29 S_lpieces := sigN_of (l := [(36, S_readA), (49, S_lcomments), (50, S_lcomment)]) ⟨S_readA_ok, S_lcomments_ok, S_lcomment_ok, trivial⟩ (hint := H_lpieces) (an := A_lpieces) (fun x => by kernel_rfl)
noncomputable def G_layText (x0 : List UInt8) (x1 : Int) : Option ((List UInt8) × Int × Unit) := (
 Option.bind (α := Bool) (G_isWidth x1) fun r1 => (
 cond (!r1) (some ([], 1, ())) (Option.bind (α := (List ((List UInt8) × Fm)) × Int × Unit) (G_lpieces x0) fun r2 => (
 cond (!decide (r2.2.1 = 0)) (some ([], r2.2.1, ())) (Option.bind (α := (Unit × Unit) × ((Bool × Unit × Unit) × (List Int) × Unit))
 (loopM (L := (Int × (List ((List UInt8) × Fm)) × Unit × Bool × (List ((List UInt8) × Fm)) × Int × Int × Unit) × ((Bool × Unit × Unit) × (List Int) × Unit)) (R := (Unit × Unit) × ((Bool × Unit × Unit) × (List Int) × Unit)) (fun d3 => (
 let l4 := d3.2.2.1
 let v1_5 := d3.1.1
 let v6_6 := d3.1.2.1
 let v9_7 := d3.1.2.2.2.1
 let v27_8 := d3.1.2.2.2.2.1
 let v28_9 := d3.1.2.2.2.2.2.1
 let v29_10 := d3.1.2.2.2.2.2.2.1
 cond (decide (v29_10 < v28_9)) (Option.bind (α := (Int × (List ((List UInt8) × Fm)) × Unit × Bool × (List ((List UInt8) × Fm)) × Int × Int × Unit) × ((Bool × Unit × Unit) × (List Int) × Unit))
 (cond (ixOK v29_10 v27_8.length) (cond ((ixOK (IntKind.wrap .i64 (v29_10 - 1)) v6_6.length) || !(decide (v29_10 > 0))) (cond (!decide ((v27_8.getD v29_10.toNat (([] : List UInt8), (Fm.mk 0 0 [] []))).1 = [])) (Option.bind (α := (Int × (List ((List UInt8) × Fm)) × Unit × Bool × Unit × (List ((List UInt8) × Fm)) × Int × Int × Unit) × ((Bool × Unit × Unit) × ((List UInt8) × Int × Int × (List UInt8) × (List Fm) × Unit) × (List Int) × Unit))
 (cond (cond (decide (v29_10 > 0)) (!(cond (decide (v29_10 > 0)) (!decide ((v6_6.getD (IntKind.wrap .i64 (v29_10 - 1)).toNat (([] : List UInt8), (Fm.mk 0 0 [] []))).1 = [])) false)) false) (Option.bind (α := (Bool) × ((Bool × Unit × Unit) × (List Int) × Unit)) (G_bldByte 10 (d3.2.1.1, (), ()) l4) fun r11 => (
 some ((v1_5, v6_6, (), v9_7, (), v27_8, v28_9, v29_10, ()), ((r11.2.1.1, (), ()), ((v27_8.getD v29_10.toNat (([] : List UInt8), (Fm.mk 0 0 [] []))).1, ((v27_8.getD v29_10.toNat (([] : List UInt8), (Fm.mk 0 0 [] []))).2).k, ((v27_8.getD v29_10.toNat (([] : List UInt8), (Fm.mk 0 0 [] []))).2).n, ((v27_8.getD v29_10.toNat (([] : List UInt8), (Fm.mk 0 0 [] []))).2).t, ((v27_8.getD v29_10.toNat (([] : List UInt8), (Fm.mk 0 0 [] []))).2).l, ()), r11.2.2.1, ())))) (some ((v1_5, v6_6, (), v9_7, (), v27_8, v28_9, v29_10, ()), ((d3.2.1.1, (), ()), ((v27_8.getD v29_10.toNat (([] : List UInt8), (Fm.mk 0 0 [] []))).1, ((v27_8.getD v29_10.toNat (([] : List UInt8), (Fm.mk 0 0 [] []))).2).k, ((v27_8.getD v29_10.toNat (([] : List UInt8), (Fm.mk 0 0 [] []))).2).n, ((v27_8.getD v29_10.toNat (([] : List UInt8), (Fm.mk 0 0 [] []))).2).t, ((v27_8.getD v29_10.toNat (([] : List UInt8), (Fm.mk 0 0 [] []))).2).l, ()), l4, ())))) fun d12 => (
 let c13 := d12.2.2.1.1
 let c14 := d12.2.2.1.2.1
 let c15 := d12.2.2.1.2.2.1
 let c16 := d12.2.2.1.2.2.2.1
 let c17 := d12.2.2.1.2.2.2.2.1
 let l18 := d12.2.2.2.1
 let v1_19 := d12.1.1
 let v6_20 := d12.1.2.1
 let v9_21 := d12.1.2.2.2.1
 let v27_22 := d12.1.2.2.2.2.2.1
 let v28_23 := d12.1.2.2.2.2.2.2.1
 let v29_24 := d12.1.2.2.2.2.2.2.2.1
 cond (decide (c13.length + ([10]).length ≤ 9223372036854775807)) (Option.bind (α := (Int × Bool × Unit) × ((Bool × Unit × Unit) × (List Int) × Unit)) (G_bldStr (c13 ++ ([10])) (d12.2.1.1, (), ()) l18) fun r25 => (
 some ((v1_19, v6_20, (), v9_21, v27_22, v28_23, v29_24, ()), ((r25.2.1.1, (), ()), r25.2.2.1, ())))) none)) (Option.bind (α := (List UInt8) × Int × Unit) (G_layFormat (Fm.eta ((v27_8.getD v29_10.toNat (([] : List UInt8), (Fm.mk 0 0 [] []))).2)) v1_5) fun r26 => (
 Option.bind (α := Bool) (G_sContains r26.1 ([10])) fun r27 => (
 Option.bind (α := (Int × (List ((List UInt8) × Fm)) × Unit × (List UInt8) × Bool × (List ((List UInt8) × Fm)) × Int × Int × Unit) × ((Bool × Unit × Unit) × (List Int) × Unit))
 (cond (cond (cond (cond (decide (v29_10 > 0)) (!(cond (decide (v29_10 > 0)) (!decide ((v6_6.getD (IntKind.wrap .i64 (v29_10 - 1)).toNat (([] : List UInt8), (Fm.mk 0 0 [] []))).1 = [])) false)) false) v9_7 false) r27 false) (Option.bind (α := (Bool) × ((Bool × Unit × Unit) × (List Int) × Unit)) (G_bldByte 10 (d3.2.1.1, (), ()) l4) fun r28 => (
 some ((v1_5, v6_6, (), r26.1, r27, v27_8, v28_9, v29_10, ()), ((r28.2.1.1, (), ()), r28.2.2.1, ())))) (some ((v1_5, v6_6, (), r26.1, r27, v27_8, v28_9, v29_10, ()), ((d3.2.1.1, (), ()), l4, ())))) fun d29 => (
 let l30 := d29.2.2.1
 let v1_31 := d29.1.1
 let v6_32 := d29.1.2.1
 let v13_33 := d29.1.2.2.2.1
 let v15_34 := d29.1.2.2.2.2.1
 let v27_35 := d29.1.2.2.2.2.2.1
 let v28_36 := d29.1.2.2.2.2.2.2.1
 let v29_37 := d29.1.2.2.2.2.2.2.2.1
 cond (decide (v13_33.length + ([10]).length ≤ 9223372036854775807)) (Option.bind (α := (Int × Bool × Unit) × ((Bool × Unit × Unit) × (List Int) × Unit)) (G_bldStr (v13_33 ++ ([10])) (d29.2.1.1, (), ()) l30) fun r38 => (
 some ((v1_31, v6_32, (), v15_34, v27_35, v28_36, v29_37, ()), ((r38.2.1.1, (), ()), r38.2.2.1, ())))) none))))) none) none) fun d39 => (
 let l40 := d39.2.2.1
 let v1_41 := d39.1.1
 let v6_42 := d39.1.2.1
 let v9_43 := d39.1.2.2.2.1
 let v27_44 := d39.1.2.2.2.2.1
 let v28_45 := d39.1.2.2.2.2.2.1
 let v29_46 := d39.1.2.2.2.2.2.2.1
 some (Step.next ((v1_41, v6_42, (), v9_43, v27_44, v28_45, IntKind.wrap .i64 (v29_46 + 1), ()), ((d39.2.1.1, (), ()), l40, ()))))) (some (Step.done (((), ()), ((d3.2.1.1, (), ()), l4, ())))))) ((x1, r2.1, (), false, r2.1, (r2.1.length : Int), 0, ()), ((false, (), ()), ([] : List Int), ()))) fun d47 => (
 let l48 := d47.2.2.1
 Option.bind (α := (List UInt8) × (Unit)) (Option.map (fun s => (s, ())) (bytesOf (l48))) fun r49 => (
 some (r49.1, 0, ()))))))))
def A_layText : An := .seq (.leaf) (.seq (.leaf) (.seq (.leaf) (.seq (.leaf) (.seq (.leaf) (.seq (.leaf) (.join false { env := [(8, (.ref 0 0))], objs := [(false, .cells 48 [(.mref 0 0), (.gs 1 (.int .u8))]), (false, .tg (.int .u8) 5)] } (.seq (.leaf) (.block (.loop { env := [(1, (.d (.int .i64))), (6, (.d (.slice (.pr .str .form)))), (8, (.ref 0 0)), (9, (.d .bool)), (27, (.d (.slice (.pr .str .form)))), (28, (.d (.int .i64))), (29, (.d (.int .i64)))], objs := [(false, .cells 48 [(.mref 0 0), (.gs 1 (.int .u8))]), (false, .tg (.int .u8) 5)] } (.seq (.leaf) (.seq (.leaf) (.join false { env := [(1, (.d (.int .i64))), (6, (.d (.slice (.pr .str .form)))), (8, (.ref 0 0)), (9, (.d .bool)), (27, (.d (.slice (.pr .str .form)))), (28, (.d (.int .i64))), (29, (.d (.int .i64)))], objs := [(false, .cells 48 [(.mref 0 0), (.gs 1 (.int .u8))]), (false, .tg (.int .u8) 5)] } (.block (.seq (.leaf) (.seq (.leaf) (.seq (.seq (.leaf) (.cond (.join false { env := [(1, (.d (.int .i64))), (6, (.d (.slice (.pr .str .form)))), (8, (.ref 0 0)), (9, (.d .bool)), (11, (.ref 1 0)), (27, (.d (.slice (.pr .str .form)))), (28, (.d (.int .i64))), (29, (.d (.int .i64)))], objs := [(false, .cells 48 [(.mref 0 0), (.gs 2 (.int .u8))]), (false, .cells 58 [(.d .str), (.d (.int .i64)), (.d (.int .i64)), (.d .str), (.d (.slice .form))]), (false, .tg (.int .u8) 5)] } (.leaf) (.leaf)) (.leaf))) (.seq (.leaf) (.seq (.leaf) (.join false { env := [(1, (.d (.int .i64))), (6, (.d (.slice (.pr .str .form)))), (8, (.ref 0 0)), (13, (.d .str)), (15, (.d .bool)), (27, (.d (.slice (.pr .str .form)))), (28, (.d (.int .i64))), (29, (.d (.int .i64)))], objs := [(false, .cells 48 [(.mref 0 0), (.gs 1 (.int .u8))]), (false, .tg (.int .u8) 5)] } (.leaf) (.leaf)))))))) (.leaf))))))) (.leaf)))))))
def H_layText : Nat → RH := fun r => match r with
 | 14 => { H := { ac := [54] } }
 | 15 => { H := { ac := [58] } }
 | 19 => { H := { ac := [80] } }
 | 20 => { H := { ac := [83] } }
 | 23 => { H := { ac := [86] } }
 | _ => {}
noncomputable def S_layText : Sig := .n [(.d .str), (.d (.int .i64))] (.tup [(.d .str), (.d (.int .i64))]) (fun x => G_layText x.1 x.2.1)
theorem S_layText_ok : SigOK CX 12 S_layText := sigN_of (l := [(23, S_isWidth), (29, S_lpieces), (30, S_bldByte), (31, S_bldStr), (9, S_layFormat), (32, S_sContains), (26, S_string)]) ⟨S_isWidth_ok, S_lpieces_ok, S_bldByte_ok, S_bldStr_ok, S_layFormat_ok, S_sContains_ok, S_string_ok, trivial⟩ (hint := H_layText) (an := A_layText) (fun x => by kernel_rfl)
noncomputable def G_sane02  : Option (Bool) := (
 Option.bind (α := (List UInt8) × Int × Unit) (G_layText ([40, 102, 32, 32, 32, 49, 41]) 40) fun r1 => (
 some (cond (decide (r1.2.1 = 0)) (decide (r1.1 = [40, 102, 32, 49, 41, 10])) false)))
def A_sane02 : An := .leaf
def H_sane02 : Nat → RH := fun _ => {}
noncomputable def S_sane02 : Sig := .n [] (.d .bool) (fun x => G_sane02 )
theorem S_sane02_ok : SigOK CX 11 S_sane02 := sigN_of (l := [(12, S_layText)]) ⟨S_layText_ok, trivial⟩ (hint := H_sane02) (an := A_sane02) (fun x => by kernel_rfl)
noncomputable def G_lawLayBack (x0 : Fm) (x1 : Int) : Option (Bool) := (
 Option.bind (α := (List UInt8) × Int × Unit) (G_layFormat (Fm.eta x0) x1) fun r1 => (
 cond (cond (!decide (r1.2.1 = 0)) true (decide ((r1.1.length : Int) > 60000))) (Option.bind (α := Bool) (G_sane02) fun r2 => (
 some r2)) (Option.bind (α := Fm × Int × Unit) (G_oneA r1.1) fun r3 => (
 Option.bind (α := Bool) (cond (decide (r3.2.1 = 0)) (G_refEqual (Fm.eta x0) (Fm.eta r3.1)) (some false)) fun r4 => (
 Option.bind (α := Bool) (cond (cond (decide (r3.2.1 = 0)) r4 false) (G_sane02) (some false)) fun r5 => (
 some (cond (cond (decide (r3.2.1 = 0)) r4 false) r5 false)))))))
def A_lawLayBack : An := .leaf
def H_lawLayBack : Nat → RH := fun _ => {}
noncomputable def S_lawLayBack : Sig := .n [(.d .form), (.d (.int .i64))] (.d .bool) (fun x => G_lawLayBack x.1 x.2.1)
theorem S_lawLayBack_ok : SigOK CX 6 S_lawLayBack := sigN_of (l := [(9, S_layFormat), (11, S_sane02), (15, S_oneA), (16, S_refEqual)]) ⟨S_layFormat_ok, S_sane02_ok, S_oneA_ok, S_refEqual_ok, trivial⟩ (hint := H_lawLayBack) (an := A_lawLayBack) (fun x => by kernel_rfl)
end Go.Ab
