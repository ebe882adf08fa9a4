/-
  WRITING: what a form is written as, in plain terms; the program's write.
-/
import Derived.Test.YthbkbjlfghikfaaGreatDoorZ14
import Derived.Test.YthbkbjlfghikfaaGreatDoorZ12
import Derived.Test.YthbkbjlfghikfaaGreatDoorZ13
import Derived.Laws.RangeAny
import Derived.Laws.RangeString
set_option linter.unusedVariables false
set_option linter.unusedSimpArgs false
set_option maxRecDepth 100000
namespace Go.Ab
open Go Go.RowKit Go.Proofs
noncomputable def G_bldStr (x1 : List UInt8) (o0 : Bool × Unit × Unit) (o1 : List Int) : Option ((Int × Bool × Unit) × ((Bool × Unit × Unit) × (List Int) × Unit)) := (
 Option.bind (α := (Unit) × ((Bool × Unit × Unit) × (List Int) × Unit)) (some ((), ((true, (), ()), o1, ()))) fun r1 => (
 cond (decide ((r1.2.2.1.length + (x1.map fun b => (b.toNat : Int)).length) * 1 ≤ 140737488355328)) (some (((x1.length : Int), true, ()), ((r1.2.1.1, (), ()), r1.2.2.1 ++ (x1.map fun b => (b.toNat : Int)), ()))) none))
def A_bldStr : An := .leaf
def H_bldStr : Nat → RH := fun r => match r with
 | 1 => { H := { ac := [7] } }
 | 2 => { H := { ty := [(14, (.int .u8))] } }
 | _ => {}
noncomputable def S_bldStr : Sig := .o { pre := [(false, .cells 48 [(.mref 0 0), (.gs 1 (.int .u8))]), (false, .tg (.int .u8) 5)], args := [(.ref 0 0), (.d .str)], post := [(true, .cells 48 [(.mref 0 0), (.gs 1 (.int .u8))]), (false, .tg (.int .u8) 5)], res := (.tup [(.d (.int .i64)), (.d .erri)]), f := fun x => G_bldStr x.1.2.1 x.2.1 x.2.2.1 }
theorem S_bldStr_ok : SigOK CX 31 S_bldStr := sigO_of (l := [(51, S_copyCheck)]) ⟨S_copyCheck_ok, trivial⟩ (hint := H_bldStr) (an := A_bldStr) (by kernel_rfl) (fun x => by kernel_rfl)
noncomputable def G_write (k : Nat) (x1 : Fm) (o0 : Bool × Unit × Unit) (o1 : List Int) : Option ((Unit) × ((Bool × Unit × Unit) × (List Int) × Unit)) := match k with
| 0 => none
| k + 1 => (
 cond (decide (x1.k = 0)) (Option.bind (α := List UInt8) (itoaF (x1.n)) fun r1 => (
 Option.bind (α := (Int × Bool × Unit) × ((Bool × Unit × Unit) × (List Int) × Unit)) (G_bldStr r1 (o0.1, (), ()) o1) fun r2 => (
 some ((), ((r2.2.1.1, (), ()), r2.2.2.1, ()))))) (cond (decide (x1.k = 1)) (Option.bind (α := (Int × Bool × Unit) × ((Bool × Unit × Unit) × (List Int) × Unit)) (G_bldStr x1.t (o0.1, (), ()) o1) fun r3 => (
 some ((), ((r3.2.1.1, (), ()), r3.2.2.1, ())))) (cond (decide (x1.k = 2)) (Option.bind (α := (Bool) × ((Bool × Unit × Unit) × (List Int) × Unit)) (G_bldByte 34 (o0.1, (), ()) o1) fun r4 => (
 Option.bind (α := (Unit) × ((Int × Int × Int × Unit × Unit × Unit) × (List (List UInt8)) × Unit)) (G_newRep ([[92], [92, 92], [34], [92, 34], [10], [92, 110]])) fun r5 => (
 Option.bind (α := (List UInt8) × (Unit)) (replF ((r5.2.1.1, r5.2.1.2.1, r5.2.1.2.2.1, (), (), ())) (r5.2.2.1) (x1.t)) fun r6 => (
 Option.bind (α := (Int × Bool × Unit) × ((Bool × Unit × Unit) × (List Int) × Unit)) (G_bldStr r6.1 (r4.2.1.1, (), ()) r4.2.2.1) fun r7 => (
 Option.bind (α := (Bool) × ((Bool × Unit × Unit) × (List Int) × Unit)) (G_bldByte 34 (r7.2.1.1, (), ()) r7.2.2.1) fun r8 => (
 some ((), ((r8.2.1.1, (), ()), r8.2.2.1, ())))))))) (Option.bind (α := (Bool) × ((Bool × Unit × Unit) × (List Int) × Unit)) (G_bldByte 40 (o0.1, (), ()) o1) fun r9 => (
 Option.bind (α := (Unit × Unit) × ((Bool × Unit × Unit) × (List Int) × Unit))
 (loopM (L := (Unit × (List Fm) × Int × Int × Unit) × ((Bool × Unit × Unit) × (List Int) × Unit)) (R := (Unit × Unit) × ((Bool × Unit × Unit) × (List Int) × Unit)) (fun d10 => (
 let l11 := d10.2.2.1
 let v11_12 := d10.1.2.1
 let v12_13 := d10.1.2.2.1
 let v13_14 := d10.1.2.2.2.1
 cond (decide (v13_14 < v12_13)) (cond (ixOK v13_14 v11_12.length) (Option.bind (α := (Unit × Unit × (List Fm) × Int × Int × Unit) × ((Bool × Unit × Unit) × (Int × Int × (List UInt8) × (List Fm) × Unit) × (List Int) × Unit))
 (cond (decide (v13_14 > 0)) (Option.bind (α := (Bool) × ((Bool × Unit × Unit) × (List Int) × Unit)) (G_bldByte 32 (d10.2.1.1, (), ()) l11) fun r15 => (
 some (((), (), v11_12, v12_13, v13_14, ()), ((r15.2.1.1, (), ()), ((v11_12.getD v13_14.toNat (Fm.mk 0 0 [] [])).k, (v11_12.getD v13_14.toNat (Fm.mk 0 0 [] [])).n, (v11_12.getD v13_14.toNat (Fm.mk 0 0 [] [])).t, (v11_12.getD v13_14.toNat (Fm.mk 0 0 [] [])).l, ()), r15.2.2.1, ())))) (some (((), (), v11_12, v12_13, v13_14, ()), ((d10.2.1.1, (), ()), ((v11_12.getD v13_14.toNat (Fm.mk 0 0 [] [])).k, (v11_12.getD v13_14.toNat (Fm.mk 0 0 [] [])).n, (v11_12.getD v13_14.toNat (Fm.mk 0 0 [] [])).t, (v11_12.getD v13_14.toNat (Fm.mk 0 0 [] [])).l, ()), l11, ())))) fun d16 => (
 let c17 := d16.2.2.1.1
 let c18 := d16.2.2.1.2.1
 let c19 := d16.2.2.1.2.2.1
 let c20 := d16.2.2.1.2.2.2.1
 let l21 := d16.2.2.2.1
 let v11_22 := d16.1.2.2.1
 let v12_23 := d16.1.2.2.2.1
 let v13_24 := d16.1.2.2.2.2.1
 Option.bind (α := (Unit) × ((Bool × Unit × Unit) × (List Int) × Unit)) (G_write k (Fm.mk c17 c18 c19 c20) (d16.2.1.1, (), ()) l21) fun r25 => (
 some (Step.next (((), v11_22, v12_23, IntKind.wrap .i64 (v13_24 + 1), ()), ((r25.2.1.1, (), ()), r25.2.2.1, ())))))) none) (some (Step.done (((), ()), ((d10.2.1.1, (), ()), l11, ())))))) (((), x1.l, (x1.l.length : Int), 0, ()), ((r9.2.1.1, (), ()), r9.2.2.1, ()))) fun d26 => (
 let l27 := d26.2.2.1
 Option.bind (α := (Bool) × ((Bool × Unit × Unit) × (List Int) × Unit)) (G_bldByte 41 (d26.2.1.1, (), ()) l27) fun r28 => (
 some ((), ((r28.2.1.1, (), ()), r28.2.2.1, ())))))))))
def A_write : An := .seq (.leaf) (.seq (.leaf) (.block (.seq (.leaf) (.cond (.leaf) (.seq (.leaf) (.cond (.leaf) (.seq (.leaf) (.cond (.leaf) (.seq (.leaf) (.join false { env := [(0, (.ref 0 0))], objs := [(true, .cells 48 [(.mref 0 0), (.gs 1 (.int .u8))]), (false, .tg (.int .u8) 5)] } (.seq (.leaf) (.block (.loop { env := [(0, (.ref 0 0)), (11, (.d (.slice .form))), (12, (.d (.int .i64))), (13, (.d (.int .i64)))], objs := [(true, .cells 48 [(.mref 0 0), (.gs 1 (.int .u8))]), (false, .tg (.int .u8) 5)] } (.seq (.leaf) (.seq (.leaf) (.seq (.block (.seq (.leaf) (.join false { env := [(0, (.ref 0 0)), (5, (.ref 1 0)), (11, (.d (.slice .form))), (12, (.d (.int .i64))), (13, (.d (.int .i64)))], objs := [(true, .cells 48 [(.mref 0 0), (.gs 2 (.int .u8))]), (false, .cells 24 [(.d (.int .i64)), (.d (.int .i64)), (.d .str), (.d (.slice .form))]), (false, .tg (.int .u8) 5)] } (.leaf) (.leaf)))) (.leaf))))))) (.leaf)))))))))))
def H_write : Nat → RH := fun r => match r with
 | 2 => { H := { ac := [9] } }
 | 7 => { H := { ac := [21] } }
 | 8 => { H := { ac := [24] } }
 | 10 => { H := { ac := [27] } }
 | 12 => { H := { ac := [34] } }
 | 14 => { H := { ac := [40] } }
 | 16 => { H := { ac := [44] } }
 | 17 => { H := { ac := [47, 50, 51], pl := [49] } }
 | 18 => { H := { ac := [53] } }
 | _ => {}
noncomputable def S_write (k : Nat) : Sig := .o { pre := [(false, .cells 48 [(.mref 0 0), (.gs 1 (.int .u8))]), (false, .tg (.int .u8) 5)], args := [(.ref 0 0), (.d .form)], post := [(true, .cells 48 [(.mref 0 0), (.gs 1 (.int .u8))]), (false, .tg (.int .u8) 5)], res := (.tup []), f := fun x => G_write k x.1.2.1 x.2.1 x.2.2.1 }
theorem S_write_ok : ∀ k, SigOK CX 65 (S_write k)
| 0 => ⟨by kernel_rfl, fun x r h => by cases h⟩
| k + 1 => by
 have ih := S_write_ok k
 exact sigO_of (l := [(98, S_itoa), (31, S_bldStr), (30, S_bldByte), (99, S_newRep), (100, S_replace), (65, (S_write k))]) ⟨S_itoa_ok, S_bldStr_ok, S_bldByte_ok, S_newRep_ok, S_replace_ok, ih, trivial⟩ (hint := H_write) (an := A_write) (by kernel_rfl) (fun x => by kernel_rfl)
noncomputable def L_write (x1 : Fm) (o0 : Bool × Unit × Unit) (o1 : List Int) : Option ((Unit) × ((Bool × Unit × Unit) × (List Int) × Unit)) := limF fun k => G_write k x1 o0 o1
noncomputable def S_write_l : Sig := .o { pre := [(false, .cells 48 [(.mref 0 0), (.gs 1 (.int .u8))]), (false, .tg (.int .u8) 5)], args := [(.ref 0 0), (.d .form)], post := [(true, .cells 48 [(.mref 0 0), (.gs 1 (.int .u8))]), (false, .tg (.int .u8) 5)], res := (.tup []), f := fun x => L_write x.1.2.1 x.2.1 x.2.2.1 }
theorem S_write_l_ok : SigOK CX 65 S_write_l := SigOK.limO S_write_ok fun x r h => limF_ex h
noncomputable def G_rWrite (x0 : Fm) : Option (List UInt8) := (
 Option.bind (α := Bool) (G_rvalid (Fm.eta x0)) fun r1 => (
 cond (!r1) (some ([])) (Option.bind (α := (Unit) × ((Bool × Unit × Unit) × (List Int) × Unit)) (L_write (Fm.eta x0) (false, (), ()) ([] : List Int)) fun r2 => (
 Option.bind (α := (List UInt8) × (Unit)) (Option.map (fun s => (s, ())) (bytesOf (r2.2.2.1))) fun r3 => (
 some r3.1)))))
def A_rWrite : An := .leaf
def H_rWrite : Nat → RH := fun r => match r with
 | 4 => { H := { ac := [8] } }
 | 5 => { H := { ac := [9] } }
 | _ => {}
noncomputable def S_rWrite : Sig := .n [(.d .form)] (.d .str) (fun x => G_rWrite x.1)
theorem S_rWrite_ok : SigOK CX 41 S_rWrite := sigN_of (l := [(24, S_rvalid), (65, S_write_l), (26, S_string)]) ⟨S_rvalid_ok, S_write_l_ok, S_string_ok, trivial⟩ (hint := H_rWrite) (an := A_rWrite) (fun x => by kernel_rfl)
end Go.Ab

namespace Go.Ab
open Go
def blankB (c : UInt8) : Bool := decide (c = 32) || (decide (c = 9) || decide (c = 10))
def skipS : Bool → List UInt8 → List UInt8
 | _, [] => []
 | true, c :: r => if c = 10 then skipS false r else skipS true r
 | false, c :: r => if blankB c = true then skipS false r else if c = 59 then skipS true r else c :: r
def textS : List UInt8 → List UInt8 → Int ⊕ (List UInt8 × List UInt8)
 | [], _ => .inl 12
 | [c], b => if c = 34 then (if b.length > 2000 then .inl 4 else .inr (b, [])) else if c = 92 then .inl 12 else if c < 32 ∨ c > 126 then .inl 4 else .inl 12
 | c :: d :: r, b =>
  if c = 34 then (if b.length > 2000 then .inl 4 else .inr (b, d :: r))
  else if c = 92 then (if d = 110 then textS r (b ++ [10]) else if d = 34 ∨ d = 92 then textS r (b ++ [d]) else .inl 4)
  else if c < 32 ∨ c > 126 then .inl 4 else textS (d :: r) (b ++ [c])
theorem textS_len : ∀ (r b x y : List UInt8), textS r b = .inr (x, y) → y.length ≤ r.length
 | [], b, x, y, h => by simp [textS] at h
 | [c], b, x, y, h => by
  simp only [textS] at h
  split at h
  ·split at h
   ·cases h
   ·cases h; simp
  ·split at h
   ·cases h
   ·split at h <;> cases h
 | c :: d :: r, b, x, y, h => by
  simp only [textS] at h
  split at h
  ·split at h
   ·cases h
   ·cases h; simp
  ·split at h
   ·split at h
    ·have := textS_len r _ x y h; simp only [List.length_cons]; omega
    ·split at h
     ·have := textS_len r _ x y h; simp only [List.length_cons]; omega
     ·cases h
   ·split at h
    ·cases h
    ·have := textS_len (d :: r) _ x y h; simp only [List.length_cons] at *; omega
def lstF (l : List Fm) : Fm := .mk 3 0 [] l
def txtF (b : List UInt8) : Fm := .mk 2 0 b []
section
variable (vis : UInt8 → Bool) (tok : List UInt8 → Int ⊕ Fm)
def touchS : List UInt8 → Bool
 | [] => false
 | c :: _ => decide (c = 34) || vis c
def parseS : Nat → List UInt8 → List Fm → List (List Fm) → Int ⊕ List Fm
 | 0, _, _, _ => .inl 0
 | n + 1, r, top, st => match skipS false r with
  | [] => (match st with
   | [] => .inr top
   | _ :: _ => .inl 12)
  | c :: r' =>
   if c = 40 then parseS n r' [] (top :: st)
   else if c = 41 then (match st with
    | [] => .inl 4
    | t :: st' => parseS n r' (t ++ [lstF top]) st')
   else if c = 34 then (match textS r' [] with
    | .inl e => .inl e
    | .inr (b, q) => if touchS vis q = true then .inl 4 else parseS n q (top ++ [txtF b]) st)
   else if vis c = true then (match tok ((c :: r').takeWhile vis) with
    | .inl e => .inl e
    | .inr f => if touchS vis ((c :: r').dropWhile vis) = true then .inl 4 else parseS n ((c :: r').dropWhile vis) (top ++ [f]) st)
   else .inl 4
def refS : Nat → List UInt8 → Bool → List Fm → List (List Fm) → Int ⊕ List Fm
 | 0, _, _, _, _ => .inl 0
 | n + 1, [], near, top, st => (match st with
   | [] => .inr top
   | _ :: _ => .inl 12)
 | n + 1, c :: r', near, top, st =>
  if blankB c = true then refS n r' false top st
  else if c = 59 then refS n ((c :: r').dropWhile (fun x => !decide (x = 10))) false top st
  else if c = 40 then refS n r' false [] (top :: st)
  else if c = 41 then (match st with
   | [] => .inl 4
   | t :: st' => refS n r' false (t ++ [lstF top]) st')
  else if near = true then .inl 4
  else if c = 34 then (match textS r' [] with
   | .inl e => .inl e
   | .inr (b, q) => refS n q true (top ++ [txtF b]) st)
  else if vis c = true then (match tok ((c :: r').takeWhile vis) with
   | .inl e => .inl e
   | .inr f => refS n ((c :: r').dropWhile vis) true (top ++ [f]) st)
  else .inl 4
theorem refS_cons (n : Nat) (c : UInt8) (r' : List UInt8) (near : Bool) (top : List Fm) (st : List (List Fm)) : refS vis tok (n + 1) (c :: r') near top st =
  (if blankB c = true then refS vis tok n r' false top st
  else if c = 59 then refS vis tok n ((c :: r').dropWhile (fun x => !decide (x = 10))) false top st
  else if c = 40 then refS vis tok n r' false [] (top :: st)
  else if c = 41 then (match st with
   | [] => .inl 4
   | t :: st' => refS vis tok n r' false (t ++ [lstF top]) st')
  else if near = true then .inl 4
  else if c = 34 then (match textS r' [] with
   | .inl e => .inl e
   | .inr (b, q) => refS vis tok n q true (top ++ [txtF b]) st)
  else if vis c = true then (match tok ((c :: r').takeWhile vis) with
   | .inl e => .inl e
   | .inr f => refS vis tok n ((c :: r').dropWhile vis) true (top ++ [f]) st)
  else .inl 4) := rfl
theorem parseS_succ (n : Nat) (r : List UInt8) (top : List Fm) (st : List (List Fm)) : parseS vis tok (n + 1) r top st =
  (match skipS false r with
  | [] => (match st with
   | [] => .inr top
   | _ :: _ => .inl 12)
  | c :: r' =>
   if c = 40 then parseS vis tok n r' [] (top :: st)
   else if c = 41 then (match st with
    | [] => .inl 4
    | t :: st' => parseS vis tok n r' (t ++ [lstF top]) st')
   else if c = 34 then (match textS r' [] with
    | .inl e => .inl e
    | .inr (b, q) => if touchS vis q = true then .inl 4 else parseS vis tok n q (top ++ [txtF b]) st)
   else if vis c = true then (match tok ((c :: r').takeWhile vis) with
    | .inl e => .inl e
    | .inr f => if touchS vis ((c :: r').dropWhile vis) = true then .inl 4 else parseS vis tok n ((c :: r').dropWhile vis) (top ++ [f]) st)
   else .inl 4) := rfl
theorem skip_line : ∀ r : List UInt8, skipS true r = skipS false (r.dropWhile (fun x => !decide (x = 10)))
 | [] => rfl
 | c :: r => by
  by_cases h : c = 10
  ·subst h
   rw [List.dropWhile_cons_of_neg (by simp)]
   simp [skipS, blankB]
  ·rw [List.dropWhile_cons_of_pos (by simp [h])]
   simp only [skipS, h, if_false]
   exact skip_line r
theorem drop_len (p : UInt8 → Bool) : ∀ r : List UInt8, (r.dropWhile p).length ≤ r.length
 | [] => Nat.le_refl _
 | c :: r => by
  by_cases h : p c = true
  ·rw [List.dropWhile_cons_of_pos h]; have := drop_len p r; simp only [List.length_cons]; omega
  ·rw [List.dropWhile_cons_of_neg h]; exact Nat.le_refl _
theorem parse_skip {n : Nat} {r q : List UInt8} (h : skipS false r = skipS false q) (top : List Fm) (st : List (List Fm)) : parseS vis tok n r top st = parseS vis tok n q top st := by
 cases n with
 | zero => rfl
 | succ n => simp only [parseS, h]
theorem read_same (hv : ∀ c, vis c = true → blankB c = false ∧ c ≠ 59 ∧ c ≠ 40 ∧ c ≠ 41 ∧ c ≠ 34) : ∀ (N : Nat) (r : List UInt8), r.length ≤ N → ∀ (n m : Nat) (near : Bool) (top : List Fm) (st : List (List Fm)), r.length < n → r.length < m →
  refS vis tok n r near top st = if (near && touchS vis r) = true then .inl 4 else parseS vis tok m r top st
 | N, [], hN, n + 1, m + 1, near, top, st, hn, hm => by simp [refS, parseS, touchS, skipS]
 | N, [], hN, 0, m, near, top, st, hn, hm => by simp at hn
 | N, [], hN, n + 1, 0, near, top, st, hn, hm => by simp at hm
 | 0, c :: r', hN, n, m, near, top, st, hn, hm => by simp at hN
 | N + 1, c :: r', hN, 0, m, near, top, st, hn, hm => by simp at hn
 | N + 1, c :: r', hN, n + 1, 0, near, top, st, hn, hm => by simp at hm
 | N + 1, c :: r', hN, n + 1, m + 1, near, top, st, hn, hm => by
  simp only [List.length_cons] at hN hn hm
  have ih := read_same hv N
  by_cases hb : blankB c = true
  ·have ht : touchS vis (c :: r') = false := by
    have h1 : vis c = false := by
     cases hc : vis c with
     | false => rfl
     | true => have := (hv c hc).1; rw [hb] at this; cases this
    have h2 : ¬ c = 34 := fun e => by subst e; simp [blankB] at hb
    simp [touchS, h1, h2]
   rw [refS_cons, if_pos hb, ht, Bool.and_false, if_neg (by simp), ih r' (by omega) n (m + 1) false top st (by omega) (by omega), Bool.false_and, if_neg (by simp)]
   exact parse_skip vis tok (by simp [skipS, hb]) top st
  ·by_cases hs : c = 59
   ·have ht : touchS vis (c :: r') = false := by
     have h1 : vis c = false := by
      cases hc : vis c with
      | false => rfl
      | true => exact absurd hs (hv c hc).2.1
     subst hs; simp [touchS, h1]
    have hl : ((c :: r').dropWhile (fun x => !decide (x = 10))).length ≤ r'.length := by
     rw [List.dropWhile_cons_of_pos (by subst hs; decide)]; exact drop_len _ _
    rw [refS_cons, if_neg hb, if_pos hs, ht, Bool.and_false, if_neg (by simp), ih _ (by omega) n (m + 1) false top st (by omega) (by omega), Bool.false_and, if_neg (by simp)]
    refine parse_skip vis tok ?_ top st
    rw [← skip_line]
    have : skipS false (c :: r') = skipS true r' := by subst hs; simp [skipS, blankB]
    rw [this]
    subst hs
    simp [skipS, blankB]
   ·have hsk : skipS false (c :: r') = c :: r' := by simp [skipS, hb, hs]
    have hp : ∀ top st, parseS vis tok (m + 1) (c :: r') top st = if c = 40 then parseS vis tok m r' [] (top :: st)
      else if c = 41 then (match st with
       | [] => .inl 4
       | t :: st' => parseS vis tok m r' (t ++ [lstF top]) st')
      else if c = 34 then (match textS r' [] with
       | .inl e => .inl e
       | .inr (b, q) => if touchS vis q = true then .inl 4 else parseS vis tok m q (top ++ [txtF b]) st)
      else if vis c = true then (match tok ((c :: r').takeWhile vis) with
       | .inl e => .inl e
       | .inr f => if touchS vis ((c :: r').dropWhile vis) = true then .inl 4 else parseS vis tok m ((c :: r').dropWhile vis) (top ++ [f]) st)
      else .inl 4 := fun top st => by rw [parseS_succ, hsk]
    have novis : ∀ x : UInt8, c = x → (∀ c, vis c = true → c ≠ x) → vis c = false := fun x e h => by
     cases hc : vis c with
     | false => rfl
     | true => exact absurd e (h c hc)
    rw [refS_cons, if_neg hb, if_neg hs, hp]
    by_cases h40 : c = 40
    ·have ht : touchS vis (c :: r') = false := by
      have := novis 40 h40 (fun c hc => (hv c hc).2.2.1)
      subst h40; simp [touchS, this]
     rw [if_pos h40, if_pos h40, ht, Bool.and_false, if_neg (by simp), ih r' (by omega) n m false _ _ (by omega) (by omega), Bool.false_and, if_neg (by simp)]
    ·rw [if_neg h40, if_neg h40]
     by_cases h41 : c = 41
     ·have ht : touchS vis (c :: r') = false := by
       have := novis 41 h41 (fun c hc => (hv c hc).2.2.2.1)
       subst h41; simp [touchS, this]
      rw [if_pos h41, if_pos h41, ht, Bool.and_false, if_neg (by simp)]
      cases st with
      | nil => rfl
      | cons t st' =>
       simp only
       rw [ih r' (by omega) n m false _ _ (by omega) (by omega), Bool.false_and, if_neg (by simp)]
     ·rw [if_neg h41, if_neg h41]
      cases near with
      | true =>
       rw [if_pos rfl, Bool.true_and]
       by_cases h34 : c = 34
       ·rw [if_pos (by simp [touchS, h34])]
       ·by_cases hvc : vis c = true
        ·rw [if_pos (by simp [touchS, hvc])]
        ·rw [if_neg (by simp [touchS, h34, hvc]), if_neg h34, if_neg hvc]
      | false =>
       rw [Bool.false_and, if_neg (show ¬ (false = true) by decide), if_neg (show ¬ (false = true) by decide)]
       by_cases h34 : c = 34
       ·rw [if_pos h34, if_pos h34]
        cases hx : textS r' [] with
        | inl e => rfl
        | inr p =>
         obtain ⟨b, q⟩ := p
         have hl := textS_len r' [] b q hx
         simp only
         rw [ih q (by omega) n m true _ _ (by omega) (by omega), Bool.true_and]
       ·rw [if_neg h34, if_neg h34]
        by_cases hvc : vis c = true
        ·rw [if_pos hvc, if_pos hvc]
         have hl : ((c :: r').dropWhile vis).length ≤ r'.length := by rw [List.dropWhile_cons_of_pos hvc]; exact drop_len _ _
         cases hx : tok ((c :: r').takeWhile vis) with
         | inl e => rfl
         | inr f =>
          simp only
          rw [ih _ (by omega) n m true _ _ (by omega) (by omega), Bool.true_and]
        ·rw [if_neg hvc, if_neg hvc]
end
end Go.Ab

set_option maxRecDepth 100000
namespace Go.Ab
open Go Go.RowKit Go.Proofs
theorem ywp {L R : Type} {b : L → Option (Step L R)} {l0 : L} (I : L → Prop) (μ : L → Nat) (Q : R → Prop)
  (h : ∀ l, I l → (∃ l', b l = some (.next l') ∧ I l' ∧ μ l' < μ l) ∨ ∃ r, b l = some (.done r) ∧ Q r) (h0 : I l0) : ∃ r, loopM b l0 = some r ∧ Q r := by
 have key : ∀ (n : Nat) (l : L), μ l ≤ n → I l → ∃ r, loopM b l = some r ∧ Q r := by
  intro n
  induction n with
  | zero =>
   intro l hl hi
   rcases h l hi with ⟨l', h1, h2, h3⟩ | ⟨r, h1, h2⟩
   ·omega
   ·exact ⟨r, loopM_done h1, h2⟩
  | succ n ih =>
   intro l hl hi
   rcases h l hi with ⟨l', h1, h2, h3⟩ | ⟨r, h1, h2⟩
   ·rw [loopM_next h1]; exact ih l' (by omega) h2
   ·exact ⟨r, loopM_done h1, h2⟩
 exact key _ l0 (Nat.le_refl _) h0
theorem yloop {L R A : Type} {b : L → Option (Step L R)} {l0 : L} {F : R → Option A} (I : L → Prop) (μ : L → Nat) (Q : A → Prop)
  (h : ∀ l, I l → (∃ l', b l = some (.next l') ∧ I l' ∧ μ l' < μ l) ∨ ∃ r, b l = some (.done r) ∧ ∃ v, F r = some v ∧ Q v) (h0 : I l0) : ∃ v, Option.bind (loopM b l0) F = some v ∧ Q v := by
 obtain ⟨r, h1, v, h2, h3⟩ := ywp I μ (fun r => ∃ v, F r = some v ∧ Q v) h h0
 exact ⟨v, by rw [h1]; exact h2, h3⟩
theorem ybind {A B : Type} {o : Option A} {F : A → Option B} {v : A} {u : Option B} (h : o = some v) (k : F v = u) : Option.bind o F = u := by rw [h]; exact k
theorem ycond {α : Type} {b : Bool} {x y v : α} (h : b = true) (hx : x = v) : cond b x y = v := by subst h; exact hx
theorem ycondn {α : Type} {b : Bool} {x y v : α} (h : b = false) (hy : y = v) : cond b x y = v := by subst h; exact hy
theorem ywrap {i : Nat} (h : i < 4611686018427387904) : IntKind.wrap .i64 ((i : Int) + 1) = ((i + 1 : Nat) : Int) := by
 rw [w64 (by omega) (by omega)]; rfl
theorem ybyte {s : List UInt8} {i : Nat} (h : i < s.length) : byteAt s (i : Int) = ((s[i].toNat : Nat) : Int) := by
 unfold byteAt; simp [h]
theorem ybyte_eq {c : UInt8} {n : Nat} (h : n < 256) : (((c.toNat : Nat) : Int) = (n : Int)) ↔ c = UInt8.ofNat n := by
 constructor
 ·intro e
  apply UInt8.toNat_inj.1
  rw [UInt8.toNat_ofNat_of_lt' h]; omega
 ·intro e; subst e
  rw [UInt8.toNat_ofNat_of_lt' h]
theorem ydrop {s : List UInt8} {i : Nat} (h : i < s.length) : s.drop i = s[i] :: s.drop (i + 1) := List.drop_eq_getElem_cons h
theorem ybyteD (c : UInt8) (n : Nat) (h : n < 256) : decide (((c.toNat : Nat) : Int) = (n : Int)) = decide (c = UInt8.ofNat n) := decide_eq_decide.2 (ybyte_eq h)
theorem blank_cond (c : UInt8) : cond (cond (decide (((c.toNat : Nat) : Int) = 32)) true (decide (((c.toNat : Nat) : Int) = 9))) true (decide (((c.toNat : Nat) : Int) = 10)) = blankB c := by
 have a1 : decide (((c.toNat : Nat) : Int) = 32) = decide (c = 32) := ybyteD c 32 (by decide)
 have a2 : decide (((c.toNat : Nat) : Int) = 9) = decide (c = 9) := ybyteD c 9 (by decide)
 have a3 : decide (((c.toNat : Nat) : Int) = 10) = decide (c = 10) := ybyteD c 10 (by decide)
 rw [a1, a2, a3]
 unfold blankB
 cases decide (c = 32) <;> cases decide (c = 9) <;> rfl
theorem line_drop : ∀ l : List UInt8, (Lib.indexByte l 10 < 0 → l.dropWhile (fun x => !decide (x = 10)) = []) ∧ (0 ≤ Lib.indexByte l 10 → l.dropWhile (fun x => !decide (x = 10)) = l.drop (Lib.indexByte l 10).toNat ∧ Lib.indexByte l 10 < l.length)
 | [] => by simp [Lib.indexByte]
 | c :: l => by
  have ih := line_drop l
  have hge := Lib.indexByte_ge l 10
  by_cases h : c = 10
  ·subst h
   simp [Lib.indexByte]
  ·rw [List.dropWhile_cons_of_pos (by simp [h])]
   have hb : (c == 10) = false := by simpa using h
   simp only [Lib.indexByte, hb, Bool.false_eq_true, if_false]
   by_cases hm : Lib.indexByte l 10 = -1
   ·simp only [hm, beq_self_eq_true, if_true]
    refine ⟨fun _ => ih.1 (by omega), fun h => absurd h (by decide)⟩
   ·have hm' : (Lib.indexByte l 10 == -1) = false := by simpa using hm
    simp only [hm', Bool.false_eq_true, if_false]
    refine ⟨fun h => by omega, fun _ => ?_⟩
    obtain ⟨a, b⟩ := ih.2 (by omega)
    refine ⟨?_, by simp only [List.length_cons]; omega⟩
    rw [a, show (Lib.indexByte l 10 + 1).toNat = (Lib.indexByte l 10).toNat + 1 by omega]
    rfl
theorem skip59 (r : List UInt8) : skipS false (59 :: r) = skipS true (59 :: r) := by simp [skipS, blankB]
theorem skip_val {s : List UInt8} {i0 : Nat} (hs : s.length ≤ 1000000000) (h0 : i0 ≤ s.length) : ∃ j : Nat, G_skip (s, (i0 : Int), ()) = some ((), ((s, (j : Int), ()), ())) ∧ i0 ≤ j ∧ j ≤ s.length ∧ s.drop j = skipS false (s.drop i0) ∧ skipS false (s.drop j) = s.drop j := by
 have key : ∃ r, G_skip (s, (i0 : Int), ()) = some r ∧ ∃ j : Nat, r = ((), ((s, (j : Int), ()), ())) ∧ i0 ≤ j ∧ j ≤ s.length ∧ s.drop j = skipS false (s.drop i0) ∧ skipS false (s.drop j) = s.drop j := by
  unfold G_skip
  refine ywp (fun d => ∃ i : Nat, d = (((), ()), ((s, (i : Int), ()), ())) ∧ i0 ≤ i ∧ i ≤ s.length ∧ skipS false (s.drop i) = skipS false (s.drop i0)) (fun d => s.length - d.2.1.2.1.toNat) _ ?_ ⟨i0, rfl, Nat.le_refl _, h0, rfl⟩
  rintro d ⟨i, rfl, hi0, hi, hk⟩
  simp only [Int.toNat_natCast]
  by_cases hi' : i < s.length
  ·have e1 : decide ((i : Int) < (s.length : Int)) = true := by apply decide_eq_true; omega
   have x1 : ixOK (i : Int) s.length = true := ixOK_iff.2 (by omega)
   have e59 := ybyte_eq (c := s[i]) (n := 59) (by decide)
   have hd := ydrop hi'
   simp only [e1, x1, ybyte hi', cond_true, ywrap (show i < 4611686018427387904 by omega)]
   by_cases hb : blankB s[i] = true
   ·have hb' := (blank_cond s[i]).trans hb
    rw [hb', cond_true]
    refine .inl ⟨_, rfl, ⟨i + 1, rfl, by omega, by omega, ?_⟩, by simp only [Int.toNat_natCast]; omega⟩
    rw [← hk, hd, skipS, if_pos hb]
   ·have hb' := (blank_cond s[i]).trans (by simpa using hb)
    rw [hb', cond_false]
    by_cases h59 : s[i] = 59
    ·have q59 : decide (((s[i].toNat : Nat) : Int) = 59) = true := decide_eq_true (e59.2 h59)
     have sl : slOK (i : Int) (s.length : Int) s.length = true := slOK_iff.2 (by omega)
     have ht : (s.drop i).take (s.length - i) = s.drop i := List.take_of_length_le (by simp)
     have hix : indexByteF (s.drop i) 10 = some (Lib.indexByte (s.drop i) 10) := by
      unfold indexByteF; rw [if_pos (by decide)]; rfl
     have hln := line_drop (s.drop i)
     have hsk : skipS false (s.drop i) = skipS false ((s.drop i).dropWhile (fun x => !decide (x = 10))) := by
      rw [← skip_line, hd, h59]; exact skip59 _
     rw [q59, cond_true, sl, cond_true, ht, hix]
     by_cases hn : Lib.indexByte (s.drop i) 10 < 0
     ·have qn : decide (Lib.indexByte (s.drop i) 10 < 0) = true := decide_eq_true hn
      simp only [Option.bind_some, qn, cond_true, w64 (n := (s.length : Int) - (i : Int)) (by omega) (by omega)]
      have w2 : IntKind.wrap .i64 ((i : Int) + ((s.length : Int) - (i : Int))) = ((s.length : Nat) : Int) := by rw [w64 (by omega) (by omega)]; omega
      rw [w2]
      refine .inl ⟨_, rfl, ⟨s.length, rfl, by omega, Nat.le_refl _, ?_⟩, by simp only [Int.toNat_natCast]; omega⟩
      rw [← hk, hsk, hln.1 hn, List.drop_length]
     ·have qn : decide (Lib.indexByte (s.drop i) 10 < 0) = false := decide_eq_false hn
      obtain ⟨a, b⟩ := hln.2 (by omega)
      rw [List.length_drop] at b
      have hpos : Lib.indexByte (s.drop i) 10 ≠ 0 := by
       rw [hd, Lib.indexByte, h59]
       have := Lib.indexByte_ge (s.drop (i + 1)) 10
       have e : ((59 : UInt8) == 10) = false := rfl
       simp only [e, Bool.false_eq_true, if_false]
       split
       ·decide
       ·rename_i hx; simp at hx; omega
      simp only [Option.bind_some, qn, cond_false]
      have w2 : IntKind.wrap .i64 ((i : Int) + Lib.indexByte (s.drop i) 10) = ((i + (Lib.indexByte (s.drop i) 10).toNat : Nat) : Int) := by rw [w64 (by omega) (by omega)]; omega
      rw [w2]
      refine .inl ⟨_, rfl, ⟨_, rfl, by omega, by omega, ?_⟩, by simp only [Int.toNat_natCast]; omega⟩
      rw [← hk, hsk, a, List.drop_drop]
    ·have q59 : decide (((s[i].toNat : Nat) : Int) = 59) = false := decide_eq_false fun e => h59 (e59.1 e)
     rw [q59, cond_false]
     have hf : skipS false (s.drop i) = s.drop i := by rw [hd, skipS, if_neg hb, if_neg h59]
     exact .inr ⟨_, rfl, i, rfl, hi0, hi, by rw [← hk, hf], hf⟩
  ·have e1 : decide ((i : Int) < (s.length : Int)) = false := by apply decide_eq_false; omega
   have hd : s.drop i = [] := List.drop_of_length_le (by omega)
   refine .inr ⟨_, by simp only [e1, cond_false], i, rfl, hi0, hi, by rw [← hk, hd, skipS], by rw [hd, skipS]⟩
 obtain ⟨r, h1, j, rfl, h2⟩ := key
 exact ⟨j, h1, h2⟩
end Go.Ab

set_option maxRecDepth 100000
namespace Go.Ab
open Go Go.RowKit Go.Proofs
theorem text_nil (b : List UInt8) : textS [] b = .inl 12 := by simp [textS]
theorem text_cons (c : UInt8) (r b : List UInt8) : textS (c :: r) b = if c = 34 then (if b.length > 2000 then .inl 4 else .inr (b, r))
  else if c = 92 then (match r with
   | [] => .inl 12
   | d :: r' => if d = 110 then textS r' (b ++ [10]) else if d = 34 ∨ d = 92 then textS r' (b ++ [d]) else .inl 4)
  else if c < 32 ∨ c > 126 then .inl 4 else textS r (b ++ [c]) := by
 cases r with
 | nil => simp [textS]
 | cons d r' => simp [textS]
theorem bytes_ints (b : List UInt8) : bytesOf (intsOf b) = some b := by
 have h1 : ((intsOf b).all fun n => decide (0 ≤ n ∧ n < 256)) = true := by
  rw [List.all_eq_true]
  intro n hn
  unfold intsOf at hn
  obtain ⟨c, _, rfl⟩ := List.mem_map.1 hn
  apply decide_eq_true
  have := c.toNat_lt
  omega
 unfold bytesOf
 rw [if_pos h1]
 unfold intsOf
 rw [List.map_map]
 congr 1
 refine List.map_id'' (fun c => ?_) b
 simp
theorem ints_app (b : List UInt8) (c : UInt8) : intsOf b ++ [((c.toNat : Nat) : Int)] = intsOf (b ++ [c]) := by
 unfold intsOf; rw [List.map_append]; rfl
theorem ints_len (b : List UInt8) : (intsOf b).length = b.length := by unfold intsOf; exact List.length_map ..
def TextQ (s : List UInt8) (i0 : Nat) (v : ((List UInt8) × Int × Unit) × (((List UInt8) × Int × Unit) × Unit)) : Int ⊕ (List UInt8 × List UInt8) → Prop
 | .inl e => e ≠ 0 ∧ ∃ j : Int, v = (([], e, ()), ((s, j, ()), ()))
 | .inr (b, q) => ∃ j : Nat, v = ((b, 0, ()), ((s, (j : Int), ()), ())) ∧ i0 < j ∧ j ≤ s.length ∧ s.drop j = q
theorem text_val {s : List UInt8} {i0 : Nat} (hs : s.length ≤ 1000000000) (h0 : i0 < s.length) : ∃ v, G_text (s, (i0 : Int), ()) = some v ∧ TextQ s i0 v (textS (s.drop (i0 + 1)) []) := by
 unfold G_text
 simp only [ywrap (show i0 < 4611686018427387904 by omega)]
 refine yloop (fun d => ∃ (i : Nat) (b : List UInt8) (fl : Bool), d = (((), (), ()), ((s, (i : Int), ()), (fl, (), ()), intsOf b, ())) ∧ i0 < i ∧ i ≤ s.length ∧ b.length ≤ i ∧ textS (s.drop i) b = textS (s.drop (i0 + 1)) []) (fun d => s.length - d.2.1.2.1.toNat) _ ?_ ⟨i0 + 1, [], false, rfl, by omega, by omega, by simp, rfl⟩
 rintro d ⟨i, b, fl, rfl, hi0, hi, hbl, hk⟩
 simp only [Int.toNat_natCast]
 rw [← hk]
 by_cases hi' : i < s.length
 ·have e1 : decide ((i : Int) < (s.length : Int)) = true := by apply decide_eq_true; omega
  have x1 : ixOK (i : Int) s.length = true := ixOK_iff.2 (by omega)
  have hd := ydrop hi'
  have q34 : decide (((s[i].toNat : Nat) : Int) = 34) = decide (s[i] = 34) := ybyteD _ 34 (by decide)
  have q92 : decide (((s[i].toNat : Nat) : Int) = 92) = decide (s[i] = 92) := ybyteD _ 92 (by decide)
  have wi := ywrap (show i < 4611686018427387904 by omega)
  have app : ∀ (c : UInt8), decide (((intsOf b).length + ([((c.toNat : Nat) : Int)] : List Int).length) * 1 ≤ 140737488355328) = true := fun c => by
   apply decide_eq_true; rw [ints_len]; simp only [List.length_cons, List.length_nil]; omega
  simp only [e1, x1, ybyte hi', q34, q92, cond_true, wi]
  rw [hd, text_cons]
  by_cases c34 : s[i] = 34
  ·have d34 : decide (s[i] = 34) = true := decide_eq_true c34
   simp only [d34, cond_true, if_pos c34, G_bldLen, Option.bind_some, bytes_ints, Option.map_some, ints_len]
   by_cases hb : b.length > 2000
   ·have db : decide (((b.length : Nat) : Int) > 2000) = true := decide_eq_true (by omega)
    rw [db, cond_true, if_pos hb]
    exact .inr ⟨_, rfl, _, rfl, by decide, _, rfl⟩
   ·have db : decide (((b.length : Nat) : Int) > 2000) = false := decide_eq_false (by omega)
    rw [db, cond_false, if_neg hb]
    exact .inr ⟨_, rfl, _, rfl, i + 1, rfl, by omega, by omega, rfl⟩
  ·have d34 : decide (s[i] = 34) = false := decide_eq_false c34
   rw [if_neg c34]
   simp only [d34, cond_false]
   by_cases c92 : s[i] = 92
   ·have d92 : decide (s[i] = 92) = true := decide_eq_true c92
    simp only [d92, cond_true, if_pos c92]
    by_cases hl : i + 1 = s.length
    ·have dl : decide (((i + 1 : Nat) : Int) = (s.length : Int)) = true := decide_eq_true (by omega)
     have he : s.drop (i + 1) = [] := List.drop_of_length_le (by omega)
     rw [dl, cond_true, he]
     exact .inr ⟨_, rfl, _, rfl, by decide, _, rfl⟩
    ·have hj : i + 1 < s.length := by omega
     have dl : decide (((i + 1 : Nat) : Int) = (s.length : Int)) = false := decide_eq_false (by omega)
     have x2 : ixOK ((i + 1 : Nat) : Int) s.length = true := ixOK_iff.2 (by omega)
     have r34 : decide (((s[i + 1].toNat : Nat) : Int) = 34) = decide (s[i + 1] = 34) := ybyteD _ 34 (by decide)
     have r92 : decide (((s[i + 1].toNat : Nat) : Int) = 92) = decide (s[i + 1] = 92) := ybyteD _ 92 (by decide)
     have r110 : decide (((s[i + 1].toNat : Nat) : Int) = 110) = decide (s[i + 1] = 110) := ybyteD _ 110 (by decide)
     have wi2 := ywrap (show i + 1 < 4611686018427387904 by omega)
     rw [dl, cond_false, x2, cond_true, ybyte hj, r34, r92, r110, ydrop hj]
     by_cases c110 : s[i + 1] = 110
     ·have d110 : decide (s[i + 1] = 110) = true := decide_eq_true c110
      have a10 : decide (((intsOf b).length + ([(10 : Int)] : List Int).length) * 1 ≤ 140737488355328) = true := app 10
      simp only [d110, cond_true, if_pos c110, G_bldByte, Option.bind_some, a10, wi2]
      refine .inl ⟨_, rfl, ⟨i + 1 + 1, b ++ [10], true, by rw [← ints_app]; rfl, by omega, by omega, by simp; omega, ?_⟩, by simp only [Int.toNat_natCast]; omega⟩
      rfl
     ·have d110 : decide (s[i + 1] = 110) = false := decide_eq_false c110
      simp only [d110, cond_false, if_neg c110]
      by_cases c3 : s[i + 1] = 34 ∨ s[i + 1] = 92
      ·have dd : cond (!decide (s[i + 1] = 34)) (!decide (s[i + 1] = 92)) false = false := by
        rcases c3 with h | h <;> simp [h]
       simp only [dd, cond_false, if_pos c3, G_bldByte, Option.bind_some, app, cond_true, wi2]
       refine .inl ⟨_, rfl, ⟨i + 1 + 1, b ++ [s[i + 1]], true, by rw [← ints_app], by omega, by omega, by simp; omega, ?_⟩, by simp only [Int.toNat_natCast]; omega⟩
       rfl
      ·have dd : cond (!decide (s[i + 1] = 34)) (!decide (s[i + 1] = 92)) false = true := by
        simp only [not_or] at c3; simp [c3.1, c3.2]
       simp only [dd, cond_true, if_neg c3]
       exact .inr ⟨_, rfl, _, rfl, by decide, _, rfl⟩
   ·have d92 : decide (s[i] = 92) = false := decide_eq_false c92
    simp only [d92, cond_false, if_neg c92]
    have hlt : (s[i] < 32) = (s[i].toNat < 32) := rfl
    have hgt : (s[i] > 126) = (126 < s[i].toNat) := rfl
    by_cases cr : s[i] < 32 ∨ s[i] > 126
    ·have dd : cond (decide (((s[i].toNat : Nat) : Int) < 32)) true (decide (((s[i].toNat : Nat) : Int) > 126)) = true := by
      rw [hlt, hgt] at cr
      by_cases h : ((s[i].toNat : Nat) : Int) < 32
      ·rw [decide_eq_true h]; rfl
      ·rw [decide_eq_false h]; exact decide_eq_true (by omega)
     simp only [dd, cond_true, if_pos cr]
     exact .inr ⟨_, rfl, _, rfl, by decide, _, rfl⟩
    ·have dd : cond (decide (((s[i].toNat : Nat) : Int) < 32)) true (decide (((s[i].toNat : Nat) : Int) > 126)) = false := by
      rw [hlt, hgt] at cr
      rw [decide_eq_false (show ¬ ((s[i].toNat : Nat) : Int) < 32 by omega)]; exact decide_eq_false (by omega)
     simp only [dd, cond_false, if_neg cr, G_bldByte, Option.bind_some, app, cond_true, wi]
     refine .inl ⟨_, rfl, ⟨i + 1, b ++ [s[i]], true, by rw [← ints_app], by omega, by omega, by simp; omega, ?_⟩, by simp only [Int.toNat_natCast]; omega⟩
     rfl
 ·have e1 : decide ((i : Int) < (s.length : Int)) = false := by apply decide_eq_false; omega
  have hd : s.drop i = [] := List.drop_of_length_le (by omega)
  rw [hd, text_nil]
  exact .inr ⟨_, by simp only [e1, cond_false]; rfl, _, rfl, by decide, _, rfl⟩
end Go.Ab

namespace Go.Ab
open Go
theorem sign_val (x y : Bool) : G_sign x y = some (if x = true then -1 else if y = true then 1 else 0) := by
 unfold G_sign; cases x <;> cases y <;> rfl
end Go.Ab

set_option maxRecDepth 100000
namespace Go.Ab
open Go Go.RowKit Go.Proofs
theorem cmpL_end {l m : List Fm} {i : Nat} (h : i = min l.length m.length) : cmpL (l.drop i) (m.drop i) = if l.length < m.length then -1 else if m.length < l.length then 1 else 0 := by
 by_cases hlm : l.length ≤ m.length
 ·rw [Nat.min_eq_left hlm] at h
  subst h
  simp only [List.drop_length, cmpL]
  by_cases hd : m.drop l.length = []
  ·have := List.drop_eq_nil_iff.1 hd
   rw [if_pos hd, if_neg (by omega), if_neg (by omega)]
  ·have : ¬ m.length ≤ l.length := fun h => hd (List.drop_eq_nil_iff.2 h)
   rw [if_neg hd, if_pos (by omega)]
 ·have h1 : m.length < l.length := by omega
  rw [Nat.min_eq_right (by omega)] at h
  subst h
  simp only [List.drop_length]
  rw [List.drop_eq_getElem_cons h1, if_neg (by omega), if_pos h1]
  simp [cmpL]
theorem sgn_cmpI (a b : Int) : G_sign (decide (a < b)) (decide (a > b)) = some (cmpI a b) := by
 rw [sign_val]; unfold cmpI; simp only [decide_eq_true_eq, gt_iff_lt]
theorem sgn_cmpS (a b : List UInt8) : G_sign (Op.bytesLess a b) (!(Op.bytesLess a b || decide (a = b))) = some (cmpS a b) := by
 rw [sign_val]; unfold cmpS
 by_cases h : Op.bytesLess a b = true
 ·simp [h]
 ·by_cases h' : a = b
  ·subst h'; simp [bytesLess_irrefl]
  ·simp [h, h']
theorem refCompare_step (k : Nat) (hF : ∀ f g : Fm, f.big ≤ 4611686018427387000 → Up (k < f.big) (G_refCompare k f g) (cmpF f g)) (f g : Fm) (hb : f.big ≤ 4611686018427387000) : Up (k + 1 < f.big) (G_refCompare (k + 1) f g) (cmpF f g) := by
 obtain ⟨a, n, t, l⟩ := f
 obtain ⟨a', n', t', l'⟩ := g
 have hk := big_kids (.mk a n t l)
 have hl := length_le_big l
 simp only [Fm.l] at hk
 rw [cmpF_mk]
 unfold G_refCompare
 simp only [sgn_cmpI, sgn_cmpS]
 simp only [Fm.k, Fm.n, Fm.t, Fm.l, sgn_cmpI, sgn_cmpS, Option.bind_some]
 by_cases h : a = a'
 ·subst h
  simp only [decide_true, Bool.not_true, cond_false, if_true]
  by_cases h0 : a = 0
  ·subst h0; simp only [decide_true, cond_true, if_true]; exact .of rfl
  ·simp only [h0, decide_false, cond_false, if_false]
   by_cases h1 : a = 1
   ·subst h1; simp only [decide_true, cond_true, Option.bind_some, true_or, if_true]; exact .of rfl
   ·simp only [h1, decide_false, cond_false, Option.bind_some, false_or]
    by_cases h2 : a = 2
    ·subst h2; simp only [decide_true, cond_true, if_true]; exact .of rfl
    ·simp only [h2, decide_false, cond_false, if_false]
     by_cases h3 : a = 3
     ·subst h3
      simp only [decide_true, cond_true, if_true]
      refine Up.bind (v := Step.done (cmpL l l')) ?_ (.of rfl)
      refine loop_ix (fun i => (((3, n, t, l, ()), (3, n', t', l', ()), (i : Int), ()), ())) (fun i => (Step.done (cmpL (l.drop i) (l'.drop i)) : Step ((Unit) × (Unit)) (Int))) (min l.length l'.length) (fun i hi => ?_) ?_
      ·have h1 : i < l.length := by omega
       have h2 : i < l'.length := by omega
       have e1 : decide ((i : Int) < (l.length : Int)) = true := by simp [h1]
       have e3 : decide ((i : Int) < (l'.length : Int)) = true := by simp [h2]
       have e2 : ixOK (i : Int) l.length = true := ixOK_iff.2 (by omega)
       have e4 : ixOK (i : Int) l'.length = true := ixOK_iff.2 (by omega)
       simp only [e1, e2, e3, e4, cond_true, cond_false, Int.toNat_natCast, getD_in h1, getD_in h2, Fm.eta_eq, wrapN (show i < 4611686018427387904 by omega), cmpL_drop h1 h2]
       have hm := big_mem (List.getElem_mem h1)
       rcases hF l[i] l'[i] (by omega) with h | ⟨h, hn⟩
       ·rw [h]
        by_cases hc : cmpF l[i] l'[i] = 0
        ·refine .inl ⟨by simp [hc], by simp [hc]⟩
        ·refine .inr (.inl ⟨.done (.done (cmpF l[i] l'[i])), by simp [hc], .of (by simp [hc])⟩)
       ·rw [h]
        exact .inr (.inr ⟨rfl, by omega⟩)
      ·have hx : ¬ (min l.length l'.length < l.length ∧ min l.length l'.length < l'.length) := by omega
       refine ⟨.next (((3, n, t, l, ()), (3, n', t', l', ()), ()), ()), ?_, .of ?_⟩
       ·have : (cond (decide (((min l.length l'.length : Nat) : Int) < (l.length : Int))) (decide (((min l.length l'.length : Nat) : Int) < (l'.length : Int))) false) = false := by
         by_cases q : ((min l.length l'.length : Nat) : Int) < (l.length : Int)
         ·have : ¬ ((min l.length l'.length : Nat) : Int) < (l'.length : Int) := by omega
          simp only [q, this, decide_true, decide_false, cond_true]
         ·simp only [q, decide_false, cond_false]
        simp only [this, cond_false]
       ·rw [cmpL_end rfl]
        simp only [sgn_cmpI, Option.bind_some]
        unfold cmpI
        simp only [Int.ofNat_lt]
     ·simp only [h3, decide_false, cond_false, if_false]; exact .of rfl
 ·simp only [h, decide_false, Bool.not_false, cond_true, if_false]; exact .of rfl
theorem refCompare_up : ∀ k, ∀ f g : Fm, f.big ≤ 4611686018427387000 → Up (k < f.big) (G_refCompare k f g) (cmpF f g)
 | 0 => fun f g hb => .inr ⟨by unfold G_refCompare; rfl, by have := big_pos f; omega⟩
 | k + 1 => refCompare_step k (refCompare_up k)
theorem refCompare_val {f g : Fm} (hb : f.big ≤ 4611686018427387000) : L_refCompare f g = some (cmpF f g) := limF_up (b := f.big) fun k => refCompare_up k f g hb
end Go.Ab

set_option maxRecDepth 100000
namespace Go.Ab
open Go Go.RowKit Go.Proofs
mutual
def Fm.size : Fm → Nat
 | .mk k _ _ l => 1 + (if k = 3 then Fm.sizeL l else 0)
def Fm.sizeL : List Fm → Nat
 | [] => 0
 | f :: r => f.size + Fm.sizeL r
end
mutual
def Fm.depth : Fm → Nat
 | .mk k _ _ l => 1 + (if k = 3 then Fm.depthL l else 0)
def Fm.depthL : List Fm → Nat
 | [] => 0
 | f :: r => max f.depth (Fm.depthL r)
end
theorem sizeL_take (l : List Fm) {i : Nat} (h : i < l.length) : Fm.sizeL (l.take (i + 1)) = Fm.sizeL (l.take i) + l[i].size := by
 rw [List.take_succ_eq_append_getElem h]
 have : ∀ a b : List Fm, Fm.sizeL (a ++ b) = Fm.sizeL a + Fm.sizeL b := by
  intro a b
  induction a with
  | nil => simp [Fm.sizeL]
  | cons x r ih => simp only [List.cons_append, Fm.sizeL, ih]; omega
 rw [this]; simp [Fm.sizeL]
theorem depthL_take (l : List Fm) {i : Nat} (h : i < l.length) : Fm.depthL (l.take (i + 1)) = max (Fm.depthL (l.take i)) l[i].depth := by
 rw [List.take_succ_eq_append_getElem h]
 have : ∀ a b : List Fm, Fm.depthL (a ++ b) = max (Fm.depthL a) (Fm.depthL b) := by
  intro a b
  induction a with
  | nil => simp [Fm.depthL]
  | cons x r ih => simp only [List.cons_append, Fm.depthL, ih]; omega
 rw [this]; simp [Fm.depthL]
theorem sizeL_take_le (l : List Fm) (i : Nat) : Fm.sizeL (l.take i) ≤ Fm.sizeL l := by
 induction l generalizing i with
 | nil => simp
 | cons f r ih => cases i with
  | zero => simp [Fm.sizeL]
  | succ i => simp only [List.take_succ_cons, Fm.sizeL]; have := ih i; omega
theorem depthL_take_le (l : List Fm) (i : Nat) : Fm.depthL (l.take i) ≤ Fm.depthL l := by
 induction l generalizing i with
 | nil => simp
 | cons f r ih => cases i with
  | zero => simp [Fm.depthL]
  | succ i => simp only [List.take_succ_cons, Fm.depthL]; have := ih i; omega
theorem kids_val (f : Fm) : G_kids f = some (if f.k = 3 then f.l else []) := by
 unfold G_kids
 by_cases h : f.k = 3
 ·simp [h]
 ·simp [h]
theorem Fm.size_eq (f : Fm) : f.size = 1 + Fm.sizeL (if f.k = 3 then f.l else []) := by
 cases f; simp only [Fm.size, Fm.k, Fm.l]; split <;> simp_all [Fm.sizeL]
theorem Fm.depth_eq (f : Fm) : f.depth = 1 + Fm.depthL (if f.k = 3 then f.l else []) := by
 cases f; simp only [Fm.depth, Fm.k, Fm.l]; split <;> simp_all [Fm.depthL]
def wordS (t : List UInt8) : Bool := decide (t ≠ []) && (decide (t.length ≤ 30) && !numericS t)
def leafS (k n : Int) (t : List UInt8) (l : List Fm) : Bool :=
 if k = 0 then decide (t = []) && (decide (l = []) && (decide (-1152921504606846976 ≤ n) && decide (n ≤ 1152921504606846976)))
 else if k = 1 then (wordS t && t.all fun c => !outsideS c) && (decide (n = 0) && decide (l = []))
 else if k = 2 then decide (t.length ≤ 2000) && (!badT t && (decide (n = 0) && decide (l = [])))
 else if k = 3 then decide (t = []) && decide (n = 0)
 else false
theorem outside_byte {t : List UInt8} {i : Nat} (h : i < t.length) : outsideF (byteAt t (i : Int)) = some (outsideS t[i]) := by
 have hb := t[i].toNat_lt
 have e : byteAt t (i : Int) = (t[i].toNat : Int) := by unfold byteAt; simp [h]
 unfold outsideF
 rw [e, if_pos (by omega)]
 simp
theorem word_loop {a n : Int} {t : List UInt8} {l : List Fm} {A : Type} {v : A} (F : ((Int × Int × (List UInt8) × (List Fm) × Unit) × Bool × Unit) × (Unit) → Option A) (b0 : Bool) (ht : t.length ≤ 30)
  (hF : F ((((a, n, t, l, ()), b0 && t.all fun c => !outsideS c, ()), ())) = some v) :
  Option.bind (loopM (L := ((Int × Int × (List UInt8) × (List Fm) × Unit) × Bool × Int × Unit) × (Unit)) (R := ((Int × Int × (List UInt8) × (List Fm) × Unit) × Bool × Unit) × (Unit)) (fun d2 => (
 let v3_3 := d2.1.2.1
 let v4_4 := d2.1.2.2.1
 cond (cond (decide (v4_4 < (d2.1.1.2.2.1.length : Int))) v3_3 false) (cond (ixOK v4_4 d2.1.1.2.2.1.length) (Option.bind (α := Bool) (outsideF (byteAt d2.1.1.2.2.1 v4_4)) fun r5 => (
 some (Step.next (((d2.1.1.1, d2.1.1.2.1, d2.1.1.2.2.1, d2.1.1.2.2.2.1, ()), !r5, IntKind.wrap .i64 (v4_4 + 1), ()), ())))) none) (some (Step.done (((d2.1.1.1, d2.1.1.2.1, d2.1.1.2.2.1, d2.1.1.2.2.2.1, ()), v3_3, ()), ()))))) (((a, n, t, l, ()), b0, 0, ()), ())) F = some v := by
 have key : ∀ j i (b : Bool), i + j = t.length → F ((((a, n, t, l, ()), b && (t.drop i).all fun c => !outsideS c, ()), ())) = some v → Option.bind (loopM (L := ((Int × Int × (List UInt8) × (List Fm) × Unit) × Bool × Int × Unit) × (Unit)) (R := ((Int × Int × (List UInt8) × (List Fm) × Unit) × Bool × Unit) × (Unit)) (fun d2 => (
 let v3_3 := d2.1.2.1
 let v4_4 := d2.1.2.2.1
 cond (cond (decide (v4_4 < (d2.1.1.2.2.1.length : Int))) v3_3 false) (cond (ixOK v4_4 d2.1.1.2.2.1.length) (Option.bind (α := Bool) (outsideF (byteAt d2.1.1.2.2.1 v4_4)) fun r5 => (
 some (Step.next (((d2.1.1.1, d2.1.1.2.1, d2.1.1.2.2.1, d2.1.1.2.2.2.1, ()), !r5, IntKind.wrap .i64 (v4_4 + 1), ()), ())))) none) (some (Step.done (((d2.1.1.1, d2.1.1.2.1, d2.1.1.2.2.1, d2.1.1.2.2.2.1, ()), v3_3, ()), ()))))) (((a, n, t, l, ()), b, (i : Int), ()), ())) F = some v := by
  intro j
  induction j with
  | zero =>
   intro i b hi hv
   obtain rfl : i = t.length := by omega
   rw [loopM_done (r := (((a, n, t, l, ()), b, ()), ())) (by simp)]
   simpa using hv
  | succ j ih =>
   intro i b hi hv
   have hlt : i < t.length := by omega
   cases b with
   | false =>
    rw [loopM_done (r := (((a, n, t, l, ()), false, ()), ())) (by simp)]
    simpa using hv
   | true =>
    have e1 : decide ((i : Int) < (t.length : Int)) = true := by simp [hlt]
    have e2 : ixOK (i : Int) t.length = true := ixOK_iff.2 (by omega)
    rw [loopM_next (l' := (((a, n, t, l, ()), !outsideS t[i], ((i + 1 : Nat) : Int), ()), ())) (by
     simp only [e1, e2, cond_true, outside_byte hlt, Option.bind_some, wrapN (show i < 4611686018427387904 by omega)])]
    refine ih (i + 1) _ (by omega) ?_
    rw [List.drop_eq_getElem_cons hlt, List.all_cons, Bool.true_and] at hv
    exact hv
 exact key t.length 0 b0 (by omega) (by simpa using hF)
theorem len0 {α : Type} (l : List α) : decide ((l.length : Int) = 0) = decide (l = []) := by
 cases l with
 | nil => rfl
 | cons a r =>
  have : ¬ ((a :: r).length : Int) = 0 := by simp only [List.length_cons]; omega
  simp only [this, decide_false]; rfl
theorem leaf_val (f : Fm) : G_leaf f = some (leafS f.k f.n f.t f.l) := by
 unfold G_leaf leafS
 generalize f.k = a
 generalize f.n = n
 generalize f.t = t
 generalize f.l = l
 simp only [len0]
 by_cases h0 : a = 0
 ·subst h0
  simp only [decide_true, cond_true, if_true, Option.bind_some, ge_iff_le]
  congr 1
  apply Bool.eq_iff_iff.2
  simp [and_assoc]
 ·simp only [h0, decide_false, cond_false, if_false]
  by_cases h1 : a = 1
  ·subst h1
   simp only [decide_true, cond_true, if_true]
   by_cases hn : t = []
   ·subst hn
    simp only [decide_true, Bool.not_true, cond_false, Option.bind_some]
    rw [loopM_done (r := (((1, n, [], l, ()), false, ()), ())) (by simp)]
    simp [wordS]
   ·by_cases hl : t.length ≤ 30
    ·have e1 : decide ((t.length : Int) ≤ 30) = true := by simp; omega
     have hnum : numericF t = some (numericS t) := by unfold numericF; rw [if_pos (by omega)]
     simp only [hn, decide_false, Bool.not_false, cond_true, e1, hnum, Option.bind_some]
     rw [word_loop (v := Step.done (cond (cond ((!numericS t) && t.all fun c => !outsideS c) (decide (n = 0)) false) (decide (l = [])) false)) _ _ hl (by simp only [len0])]
     simp only [Option.bind_some]
     congr 1
     have ew : wordS t = !numericS t := by simp [wordS, hn, hl]
     rw [ew]
     apply Bool.eq_iff_iff.2
     simp [and_assoc]
    ·have e1 : decide ((t.length : Int) ≤ 30) = false := by simp; omega
     simp only [hn, decide_false, Bool.not_false, cond_true, e1, cond_false, Option.bind_some]
     rw [loopM_done (r := (((1, n, t, l, ()), false, ()), ())) (by simp)]
     simp [wordS, hl]
  ·simp only [h1, decide_false, cond_false, if_false]
   by_cases h2 : a = 2
   ·subst h2
    simp only [decide_true, cond_true, if_true]
    by_cases hl : t.length ≤ 2000
    ·have e1 : decide ((t.length : Int) ≤ 2000) = true := by simp; omega
     simp only [e1, cond_true, Option.bind_some, hl, decide_true, Bool.true_and]
     congr 1
     apply Bool.eq_iff_iff.2
     simp [and_assoc]
    ·have e1 : decide ((t.length : Int) ≤ 2000) = false := by simp; omega
     simp [e1, hl]
   ·simp only [h2, decide_false, cond_false, if_false]
    by_cases h3 : a = 3
    ·subst h3
     simp only [decide_true, cond_true, if_true, Option.bind_some]
     congr 1
     apply Bool.eq_iff_iff.2
     simp [and_assoc]
    ·simp [h3]
end Go.Ab

namespace Go.Ab
open Go Go.RowKit
mutual
def eqSh : (s : Sh) → s.den → s.den → Bool
 | .d e, x, y => eqE e x y
 | .c _, _, _ => true
 | .ref _ _, _, _ => true
 | .gs _ _, _, _ => true
 | .mref _ _, x, y => eqBl x y
 | .gv _ _, _, _ => false
 | .agg l, x, y => eqShL l x y
 | .tup l, x, y => eqShL l x y
 | .rptr l, x, y => eqShL l x y
 | .fn _ _ _, _, _ => false
 | .iface _ s, x, y => eqSh s x y
def eqShL : (l : List Sh) → Sh.denL l → Sh.denL l → Bool
 | [], _, _ => true
 | s :: l, x, y => eqSh s x.1 y.1 && eqShL l x.2 y.2
end
mutual
theorem eqSh_sound : ∀ (s : Sh) (x y : s.den), eqSh s x y = true → x = y
 | .d e, x, y, h => eqE_sound e x y h
 | .c _, x, y, h => rfl
 | .ref _ _, x, y, h => rfl
 | .gs _ _, x, y, h => rfl
 | .mref _ _, x, y, h => eqBl_sound x y h
 | .gv _ _, x, y, h => by cases h
 | .agg l, x, y, h => eqShL_sound l x y h
 | .tup l, x, y, h => eqShL_sound l x y h
 | .rptr l, x, y, h => eqShL_sound l x y h
 | .fn _ _ _, x, y, h => by cases h
 | .iface _ s, x, y, h => eqSh_sound s x y h
theorem eqShL_sound : ∀ (l : List Sh) (x y : Sh.denL l), eqShL l x y = true → x = y
 | [], x, y, h => rfl
 | s :: l, (x1, x2), (y1, y2), h => by
  have h : (eqSh s x1 y1 && eqShL l x2 y2) = true := h
  rw [Bool.and_eq_true] at h
  rw [eqSh_sound s x1 y1 h.1, eqShL_sound l x2 y2 h.2]
end
end Go.Ab

set_option maxRecDepth 100000
namespace Go.Ab
open Go Go.RowKit Go.Proofs
end Go.Ab

set_option maxRecDepth 100000
namespace Go.Ab
open Go Go.RowKit Go.Proofs
noncomputable def G_readBad (x0 : Fm) : Option (Bool) := (
 Option.bind (α := Bool) (G_rvalid (Fm.eta x0)) fun r1 => (
 some (!r1)))
def A_readBad : An := .leaf
def H_readBad : Nat → RH := fun _ => {}
noncomputable def S_readBad : Sig := .n [(.d .form)] (.d .bool) (fun x => G_readBad x.1)
theorem S_readBad_ok : SigOK CX 60 S_readBad := sigN_of (l := [(24, S_rvalid)]) ⟨S_rvalid_ok, trivial⟩ (hint := H_readBad) (an := A_readBad) (fun x => by kernel_rfl)
noncomputable def G_indexBad (x0 : List Fm) (x1 : Unit) : Option (Int) := (
 Option.bind (α := Step ((Unit) × (Unit)) (Int))
 (loopM (L := ((List Fm) × Unit × Int × Int × Unit) × (Unit)) (R := Step ((Unit) × (Unit)) (Int)) (fun d1 => (
 let v0_2 := d1.1.1
 let v7_3 := d1.1.2.2.1
 let v8_4 := d1.1.2.2.2.1
 cond (decide (v8_4 < v7_3)) (cond (ixOK v8_4 v0_2.length) (Option.bind (α := Bool) (G_readBad (Fm.eta (v0_2.getD v8_4.toNat (Fm.mk 0 0 [] [])))) fun r5 => (
 cond r5 (some (Step.done (Step.done v8_4))) (some (Step.next ((v0_2, (), v7_3, IntKind.wrap .i64 (v8_4 + 1), ()), ()))))) none) (some (Step.done (Step.next ((), ())))))) ((x0, (), (x0.length : Int), 0, ()), ())) fun qd6 => match qd6 with
 | .next d6 => (
 some (-1))
 | .done r => some r)
def A_indexBad : An := .seq (.leaf) (.join true { env := [], objs := [] } (.seq (.leaf) (.block (.loop { env := [(0, (.d (.slice .form))), (1, (.c (.fn (.func 60) [] []))), (7, (.d (.int .i64))), (8, (.d (.int .i64)))], objs := [] } (.leaf)))) (.leaf))
def H_indexBad : Nat → RH := fun _ => {}
noncomputable def S_indexBad : Sig := .n [(.d (.slice .form)), (.c (.fn (.func 60) [] []))] (.d (.int .i64)) (fun x => G_indexBad x.1 x.2.1)
theorem S_indexBad_ok : SigOK CX 88 S_indexBad := sigN_of (l := [(60, S_readBad)]) ⟨S_readBad_ok, trivial⟩ (hint := H_indexBad) (an := A_indexBad) (fun x => by kernel_rfl)
noncomputable def G_containsBad1 (x0 : List Fm) (x1 : Unit) : Option (Bool) := (
 Option.bind (α := Int) (G_indexBad x0 ()) fun r1 => (
 some (decide (r1 ≥ 0))))
def A_containsBad1 : An := .leaf
def H_containsBad1 : Nat → RH := fun _ => {}
noncomputable def S_containsBad1 : Sig := .n [(.d (.slice .form)), (.c (.fn (.func 60) [] []))] (.d .bool) (fun x => G_containsBad1 x.1 x.2.1)
theorem S_containsBad1_ok : SigOK CX 59 S_containsBad1 := sigN_of (l := [(88, S_indexBad)]) ⟨S_indexBad_ok, trivial⟩ (hint := H_containsBad1) (an := A_containsBad1) (fun x => by kernel_rfl)
end Go.Ab

set_option maxRecDepth 100000
namespace Go.Ab
open Go Go.RowKit Go.Proofs
mutual
def validS : Fm → Int → Int → Bool × Int
 | .mk k n t l, p, d => if p - 1 < 0 ∨ d = 0 ∨ leafS k n t l = false then (false, p - 1) else validLS l (p - 1) (d - 1)
def validLS : List Fm → Int → Int → Bool × Int
 | [], p, _ => (true, p)
 | f :: r, p, d => if (validS f p d).1 = true then validLS r (validS f p d).2 d else (false, (validS f p d).2)
end
def validF (f : Fm) : Bool := (validS f 20000 100).1
theorem validLS_drop {l : List Fm} {i : Nat} (h : i < l.length) (p d : Int) : validLS (l.drop i) p d = if (validS l[i] p d).1 = true then validLS (l.drop (i + 1)) (validS l[i] p d).2 d else (false, (validS l[i] p d).2) := by
 rw [List.drop_eq_getElem_cons h]; simp only [validLS]
theorem validLS_ok : ∀ (l : List Fm), (∀ f ∈ l, ∀ p d : Int, 0 ≤ p → (validS f p d).1 = true → 0 ≤ (validS f p d).2 ∧ (validS f p d).2 ≤ p) → ∀ p d : Int, 0 ≤ p → (validLS l p d).1 = true → 0 ≤ (validLS l p d).2 ∧ (validLS l p d).2 ≤ p
 | [], _, p, d, hp, _ => ⟨hp, Int.le_refl _⟩
 | f :: r, h, p, d, hp, ht => by
  simp only [validLS] at ht ⊢
  split at ht
  ·rename_i hf
   rw [if_pos hf]
   obtain ⟨h1, h2⟩ := h f (by simp) p d hp hf
   obtain ⟨h3, h4⟩ := validLS_ok r (fun g hg => h g (by simp [hg])) _ d h1 ht
   exact ⟨h3, by omega⟩
  ·cases ht
theorem validS_ok : ∀ f : Fm, ∀ p d : Int, 0 ≤ p → (validS f p d).1 = true → 0 ≤ (validS f p d).2 ∧ (validS f p d).2 ≤ p := Fm.ind fun k n t l ih p d hp ht => by
 simp only [validS] at ht ⊢
 split at ht
 ·cases ht
 ·rename_i hc
  rw [if_neg hc]
  obtain ⟨h1, h2⟩ := validLS_ok l ih (p - 1) (d - 1) (by have := fun h => hc (.inl h); omega) ht
  exact ⟨h1, by omega⟩
def cI (l : List Fm) (p d : Int) : Nat → Int
 | 0 => p
 | i + 1 => match l[i]? with
  | some f => if (validS f (cI l p d i) d).1 = true then (validS f (cI l p d i) d).2 else cI l p d i
  | none => cI l p d i
theorem cI_ok (l : List Fm) (p d : Int) (hp : 0 ≤ p) : ∀ i, 0 ≤ cI l p d i ∧ cI l p d i ≤ p
 | 0 => ⟨hp, Int.le_refl _⟩
 | i + 1 => by
  obtain ⟨h1, h2⟩ := cI_ok l p d hp i
  simp only [cI]
  split
  ·rename_i f hf
   split
   ·rename_i hv
    obtain ⟨h3, h4⟩ := validS_ok f _ d h1 hv
    exact ⟨h3, by omega⟩
   ·exact ⟨h1, h2⟩
  ·exact ⟨h1, h2⟩
theorem validS_eq (f : Fm) (p d : Int) : validS f p d = if p - 1 < 0 ∨ d = 0 ∨ leafS f.k f.n f.t f.l = false then (false, p - 1) else validLS f.l (p - 1) (d - 1) := by
 cases f; simp only [validS]; rfl
theorem valid_up : ∀ k, ∀ (f : Fm) (p d : Int), f.big ≤ 4611686018427387000 → 0 ≤ p → p ≤ 4611686018427387000 → 0 ≤ d → d ≤ 4611686018427387000 → Up (k < f.big) (G_valid k f d (p, ())) ((validS f p d).1, (((validS f p d).2, ()), ()))
 | 0 => fun f p d hb _ _ _ _ => .inr ⟨by unfold G_valid; rfl, by have := big_pos f; omega⟩
 | k + 1 => fun f p d hb hp0 hp1 hd0 hd1 => by
  have hkb := big_kids f
  have hln := length_le_big f.l
  have hmem : ∀ g ∈ f.l, g.big < f.big := fun g hg => by have := big_mem hg; omega
  rw [validS_eq]
  unfold G_valid
  simp only [Fm.eta_eq, leaf_val]
  rw [show IntKind.wrap .i64 (p - 1) = p - 1 from w64 (by omega) (by omega)]
  generalize leafS f.k f.n f.t f.l = b
  generalize f.l = l at hkb hln hmem
  by_cases h1 : p - 1 < 0
  ·simp only [h1, decide_true, cond_true, Bool.not_true, cond_false, Option.bind_some, true_or, if_true]; exact .of rfl
  ·by_cases h2 : d = 0
   ·simp only [h1, h2, decide_false, decide_true, cond_true, cond_false, Bool.not_true, Option.bind_some, true_or, or_true, if_true]; exact .of rfl
   ·cases b with
    | false => simp only [h1, h2, decide_false, cond_true, cond_false, Bool.not_false, Option.bind_some, or_true, if_true]; exact .of rfl
    | true =>
     simp only [h1, h2, decide_false, cond_true, cond_false, Bool.not_false, Bool.not_true, Option.bind_some, Bool.true_eq_false, or_false, if_false]
     refine loop_ix (fun i => (((), d, l, (l.length : Int), (i : Int), ()), ((cI l (p - 1) (d - 1) i, ()), ()))) (fun i => ((validLS (l.drop i) (cI l (p - 1) (d - 1) i) (d - 1)).1, (((validLS (l.drop i) (cI l (p - 1) (d - 1) i) (d - 1)).2, ()), ()))) l.length (fun i hi => ?_) ?_
     ·have e1 : decide ((i : Int) < (l.length : Int)) = true := by simp [hi]
      have e2 : ixOK (i : Int) l.length = true := ixOK_iff.2 (by omega)
      obtain ⟨c1, c2⟩ := cI_ok l (p - 1) (d - 1) (by omega) i
      have hg := hmem _ (List.getElem_mem hi)
      simp only [e1, e2, cond_true, Int.toNat_natCast, getD_in hi, Fm.eta_eq, wrapN (show i < 4611686018427387904 by omega), validLS_drop hi, w64 (show -9223372036854775808 ≤ d - 1 by omega) (by omega)]
      have hcI : cI l (p - 1) (d - 1) (i + 1) = if (validS l[i] (cI l (p - 1) (d - 1) i) (d - 1)).1 = true then (validS l[i] (cI l (p - 1) (d - 1) i) (d - 1)).2 else cI l (p - 1) (d - 1) i := by
       simp only [cI, List.getElem?_eq_getElem hi]
      rcases valid_up k l[i] (cI l (p - 1) (d - 1) i) (d - 1) (by omega) c1 (by omega) (by omega) (by omega) with h | ⟨h, hn⟩
      ·rw [h]
       simp only [Option.bind_some]
       by_cases hv : (validS l[i] (cI l (p - 1) (d - 1) i) (d - 1)).1 = true
       ·rw [if_pos hv] at hcI
        refine .inl ⟨?_, ?_⟩
        ·rw [hcI, hv]; rfl
        ·rw [if_pos hv, hcI]
       ·have hv' : (validS l[i] (cI l (p - 1) (d - 1) i) (d - 1)).1 = false := by simpa using hv
        refine .inr (.inl ⟨.done (false, (((validS l[i] (cI l (p - 1) (d - 1) i) (d - 1)).2, ()), ())), by rw [hv']; rfl, .of ?_⟩)
        rw [if_neg hv]
      ·rw [h]; exact .inr (.inr ⟨rfl, by omega⟩)
     ·refine ⟨.next ((), ((cI l (p - 1) (d - 1) l.length, ()), ())), by simp, .of ?_⟩
      simp [validLS]
theorem valid_val {f : Fm} {p d : Int} (hb : f.big ≤ 4611686018427387000) (h1 : 0 ≤ p) (h2 : p ≤ 4611686018427387000) (h3 : 0 ≤ d) (h4 : d ≤ 4611686018427387000) : L_valid f d (p, ()) = some ((validS f p d).1, (((validS f p d).2, ()), ())) := limF_up (b := f.big) fun k => valid_up k f p d hb h1 h2 h3 h4
theorem rvalid_val {f : Fm} (hb : f.big ≤ 4611686018427387000) : G_rvalid f = some (validF f) := by
 unfold G_rvalid
 rw [Fm.eta_eq, valid_val hb (by omega) (by omega) (by omega) (by omega)]
 rfl
theorem head_val (f : Fm) : G_head f = some (match (if f.k = 3 then f.l else []) with | [] => [] | g :: _ => if g.k = 1 then g.t else []) := by
 unfold G_head
 simp only [Fm.eta_eq, kids_val, Option.bind_some]
 generalize (if f.k = 3 then f.l else []) = l
 cases l with
 | nil => simp [ixOK]
 | cons g r =>
  have e : ixOK 0 (g :: r).length = true := ixOK_iff.2 (by simp only [List.length_cons]; omega)
  have e2 : decide (((g :: r).length : Int) > 0) = true := by simp only [List.length_cons]; simp
  simp only [e, e2, Bool.true_or, cond_true]
  show cond (decide (g.k = 1)) (some g.t) (some []) = _
  by_cases h : g.k = 1 <;> simp [h]
end Go.Ab

set_option maxRecDepth 100000
namespace Go.Ab
open Go Go.RowKit Go.Proofs
end Go.Ab

set_option maxRecDepth 100000
namespace Go.Ab
open Go Go.RowKit Go.Proofs
theorem Up.get {R : Type} {o : Option R} {v : R} (h : Up False o v) : o = some v := h.elim id fun h => h.2.elim
def badB (c : UInt8) : Bool := badR c.toNat
theorem idxR_bad (s : List UInt8) : ∀ (f pos : Nat), s.length < pos + f → (0 ≤ idxR badR s f pos ↔ (s.drop pos).any badB = true)
 | 0, pos, h => by
  rw [List.drop_eq_nil_of_le (by omega)]
  simp [idxR]
 | f + 1, pos, h => by
  unfold idxR
  by_cases hp : pos < s.length
  ·rw [if_pos hp, List.drop_eq_getElem_cons hp, List.any_cons]
   have hsz : pos < (⟨s.toArray⟩ : ByteArray).size := by show pos < s.toArray.size; simpa using hp
   have hel : ((⟨s.toArray⟩ : ByteArray)[pos]'hsz) = s[pos] := by simp [ByteArray.getElem_eq_getElem_data]
   by_cases h8 : s[pos].toNat < 128
   ·have hd := decode_ascii ⟨s.toArray⟩ pos hsz (by rw [hel]; exact h8)
    rw [hd, hel]
    show (0 ≤ (if badR ((s[pos].toNat : Nat) : Int) = true then ((pos : Nat) : Int) else _) ↔ _)
    by_cases hb : badB s[pos] = true
    ·have hb' := hb
     unfold badB at hb'
     rw [if_pos hb', hb]
     simp
    ·have hb' := hb
     unfold badB at hb'
     rw [if_neg hb', idxR_bad s f (pos + 1) (by omega)]
     simp [hb]
   ·have hd := decode_high ⟨s.toArray⟩ pos hsz (by rw [hel]; omega)
    have hb1 : badR (Utf8.decode ⟨s.toArray⟩ pos).1 = true := by
     have := hd.1
     unfold badR
     have a1 : ¬ (((Utf8.decode ⟨s.toArray⟩ pos).1 : Int) = 10) := by omega
     have a2 : (126 < ((Utf8.decode ⟨s.toArray⟩ pos).1 : Int)) := by omega
     simp only [a1, a2, decide_true, decide_false, Bool.not_false, Bool.or_true, Bool.and_true]
    have hb2 : badB s[pos] = true := by
     unfold badB badR
     have a1 : ¬ ((s[pos].toNat : Int) = 10) := by omega
     have a2 : (126 < (s[pos].toNat : Int)) := by omega
     simp only [a1, a2, decide_true, decide_false, Bool.not_false, Bool.or_true, Bool.and_true]
    rw [if_pos hb1, hb2]
    simp
  ·rw [if_neg hp, List.drop_eq_nil_of_le (by omega)]
   simp
theorem badT_any (t : List UInt8) : badT t = t.any badB := by
 unfold badT
 have := idxR_bad t (t.length + 1) 0 (by omega)
 rw [List.drop_zero] at this
 cases h : t.any badB with
 | true => exact decide_eq_true (this.2 h)
 | false => exact decide_eq_false fun hc => by have := this.1 hc; rw [h] at this; cases this
mutual
def fieldsF : Fm → Bool
 | .mk k n t l => leafS k n t l && fieldsL l
def fieldsL : List Fm → Bool
 | [] => true
 | f :: r => fieldsF f && fieldsL r
end
theorem fieldsF_eq (f : Fm) : fieldsF f = (leafS f.k f.n f.t f.l && fieldsL f.l) := by cases f; simp only [fieldsF]; rfl
theorem leafS_kids {k n : Int} {t : List UInt8} {l : List Fm} (h : leafS k n t l = true) : k = 3 ∨ l = [] := by
 unfold leafS at h
 by_cases h3 : k = 3
 ·exact .inl h3
 ·by_cases hl : l = []
  ·exact .inr hl
  ·exfalso
   revert h
   split
   ·simp [hl]
   ·split
    ·simp [hl]
    ·split
     ·simp [hl]
     ·simp [h3]
theorem validLS_iff : ∀ (l : List Fm), (∀ f ∈ l, ∀ p d : Int, 0 ≤ p → 0 ≤ d → (validS f p d).1 = (fieldsF f && (decide ((f.size : Int) ≤ p) && decide ((f.depth : Int) ≤ d))) ∧ ((validS f p d).1 = true → (validS f p d).2 = p - f.size)) →
  ∀ p d : Int, 0 ≤ p → 0 ≤ d → (validLS l p d).1 = (fieldsL l && (decide ((Fm.sizeL l : Int) ≤ p) && decide ((Fm.depthL l : Int) ≤ d))) ∧ ((validLS l p d).1 = true → (validLS l p d).2 = p - Fm.sizeL l)
 | [], _, p, d, hp, hd => by
  simp only [validLS, fieldsL, Fm.sizeL, Fm.depthL]
  refine ⟨?_, fun _ => by simp⟩
  simp [hp, hd]
 | f :: r, h, p, d, hp, hd => by
  obtain ⟨h1, h2⟩ := h f (by simp) p d hp hd
  simp only [validLS, fieldsL, Fm.sizeL, Fm.depthL]
  by_cases hv : (validS f p d).1 = true
  ·rw [if_pos hv]
   have h2' := h2 hv
   rw [hv] at h1
   have h1' := h1.symm
   simp only [Bool.and_eq_true, decide_eq_true_eq] at h1'
   obtain ⟨a1, a2, a3⟩ := h1'
   obtain ⟨b1, b2⟩ := validLS_iff r (fun g hg => h g (by simp [hg])) (validS f p d).2 d (by omega) hd
   refine ⟨?_, fun ht => by have := b2 ht; omega⟩
   rw [b1, a1, h2']
   simp only [Bool.true_and]
   congr 2
   ·apply decide_eq_decide.2; omega
   ·apply decide_eq_decide.2; omega
  ·rw [if_neg hv]
   have hv' : (validS f p d).1 = false := by simpa using hv
   rw [hv'] at h1
   refine ⟨?_, fun h => by cases h⟩
   simp only
   symm
   by_cases a1 : fieldsF f = true
   ·by_cases a2 : (f.size : Int) ≤ p
    ·have a3 : ¬ (f.depth : Int) ≤ d := fun a3 => by rw [a1, decide_eq_true a2, decide_eq_true a3] at h1; cases h1
     have : ¬ (((max f.depth (Fm.depthL r) : Nat) : Int) ≤ d) := by omega
     simp only [this, decide_false, Bool.and_false]
    ·have : ¬ (((f.size + Fm.sizeL r : Nat) : Int) ≤ p) := by omega
     simp only [this, decide_false, Bool.false_and, Bool.and_false]
   ·simp [a1]
theorem validS_iff : ∀ f : Fm, ∀ p d : Int, 0 ≤ p → 0 ≤ d → (validS f p d).1 = (fieldsF f && (decide ((f.size : Int) ≤ p) && decide ((f.depth : Int) ≤ d))) ∧ ((validS f p d).1 = true → (validS f p d).2 = p - f.size) := Fm.ind fun k n t l ih p d hp hd => by
 have eS : (Fm.mk k n t l).size = 1 + (if k = 3 then Fm.sizeL l else 0) := by simp only [Fm.size]
 have eD : (Fm.mk k n t l).depth = 1 + (if k = 3 then Fm.depthL l else 0) := by simp only [Fm.depth]
 generalize (Fm.mk k n t l).size = S at eS ⊢
 generalize (Fm.mk k n t l).depth = D at eD ⊢
 simp only [validS, fieldsF]
 by_cases h1 : p - 1 < 0
 ·rw [if_pos (.inl h1)]
  refine ⟨?_, fun h => by cases h⟩
  have : ¬ ((S : Int) ≤ p) := by omega
  simp only [this, decide_false, Bool.false_and, Bool.and_false]
 ·by_cases h2 : d = 0
  ·rw [if_pos (.inr (.inl h2))]
   refine ⟨?_, fun h => by cases h⟩
   have : ¬ ((D : Int) ≤ d) := by omega
   simp only [this, decide_false, Bool.and_false]
  ·by_cases h3 : leafS k n t l = false
   ·rw [if_pos (.inr (.inr h3)), h3]
    exact ⟨by simp, fun h => by cases h⟩
   ·rw [if_neg (fun h => h.elim h1 fun h => h.elim h2 h3)]
    have h3' : leafS k n t l = true := by simpa using h3
    obtain ⟨b1, b2⟩ := validLS_iff l ih (p - 1) (d - 1) (by omega) (by omega)
    have hs : (if k = 3 then Fm.sizeL l else 0) = Fm.sizeL l ∧ (if k = 3 then Fm.depthL l else 0) = Fm.depthL l := by
     rcases leafS_kids h3' with rfl | rfl
     ·simp
     ·simp [Fm.sizeL, Fm.depthL]
    rw [hs.1] at eS
    rw [hs.2] at eD
    rw [h3', b1]
    refine ⟨?_, fun ht => by rw [← b1] at ht; have := b2 ht; omega⟩
    simp only [Bool.true_and]
    congr 2
    ·apply decide_eq_decide.2; omega
    ·apply decide_eq_decide.2; omega
end Go.Ab

set_option maxRecDepth 100000
namespace Go.Ab
open Go Go.RowKit Go.Proofs
mutual
def wr : Fm → List UInt8
 | .mk k n t l => if k = 0 then Lib.itoa n else if k = 1 then t else if k = 2 then 34 :: (escS t ++ [34]) else 40 :: (wrL true l ++ [41])
def wrL : Bool → List Fm → List UInt8
 | _, [] => []
 | b, f :: r => (if b = true then [] else [32]) ++ (wr f ++ wrL false r)
end
theorem wr_eq (f : Fm) : wr f = if f.k = 0 then Lib.itoa f.n else if f.k = 1 then f.t else if f.k = 2 then 34 :: (escS f.t ++ [34]) else 40 :: (wrL true f.l ++ [41]) := by
 cases f; rw [wr]; rfl
theorem wrL_append : ∀ (a c : List Fm) (b : Bool), wrL b (a ++ c) = wrL b a ++ wrL (b && a.isEmpty) c
 | [], c, b => by simp [wrL]
 | f :: a, c, b => by
  simp only [List.cons_append, wrL, wrL_append a c false, List.isEmpty_cons, Bool.and_false, Bool.false_and, List.append_assoc]
theorem wrL_take (l : List Fm) {i : Nat} (h : i < l.length) : wrL true (l.take (i + 1)) = wrL true (l.take i) ++ ((if i = 0 then [] else [32]) ++ wr l[i]) := by
 rw [List.take_add_one, List.getElem?_eq_getElem h, wrL_append]
 congr 1
 simp only [Option.toList_some, wrL, List.append_nil, Bool.true_and]
 by_cases hi : i = 0
 ·subst hi; simp
 ·have : (l.take i).isEmpty = false := by
   cases hl : l.take i with
   | nil =>
    have := congrArg List.length hl
    rw [List.length_take, Nat.min_eq_left (by omega)] at this
    exact absurd this hi
   | cons a r => rfl
  rw [this]; simp [hi]
theorem nDigits_le : ∀ (k u : Nat), u < 10 ^ k → Lib.nDigits u ≤ k + 1
 | 0, u, h => by rw [Lib.nDigits_small (by simp at h; omega)]; omega
 | k + 1, u, h => by
  by_cases h10 : u < 10
  ·rw [Lib.nDigits_small h10]; omega
  ·rw [Lib.nDigits_big h10]
   have := nDigits_le k (u / 10) (by rw [Nat.pow_succ] at h; omega)
   omega
theorem itoa_len {n : Int} (h1 : -1152921504606846976 ≤ n) (h2 : n ≤ 1152921504606846976) : (Lib.itoa n).length ≤ 21 := by
 unfold Lib.itoa
 split
 ·rw [List.length_cons, Lib.decDigits_length]
  have := nDigits_le 19 n.natAbs (by omega)
  omega
 ·rw [Lib.decDigits_length]
  have := nDigits_le 19 n.toNat (by omega)
  omega
theorem escS_le (t : List UInt8) : (escS t).length ≤ 2 * t.length := by
 rw [escS_len]
 have := cntS_le t
 omega
theorem wr_len : ∀ f : Fm, fieldsF f = true → (wr f).length + 1 ≤ 4101 * f.size := Fm.ind fun k n t l ih hf => by
 rw [fieldsF_eq] at hf
 simp only [Bool.and_eq_true] at hf
 obtain ⟨h1, h2⟩ := hf
 simp only [Fm.k, Fm.n, Fm.t, Fm.l] at h1 h2
 have hs : 1 ≤ (Fm.mk k n t l).size := by rw [Fm.size_eq]; omega
 rw [wr]
 unfold leafS at h1
 by_cases c0 : k = 0
 ·rw [if_pos c0] at h1 ⊢
  simp only [Bool.and_eq_true, decide_eq_true_eq] at h1
  have := itoa_len h1.2.2.1 h1.2.2.2
  omega
 ·rw [if_neg c0] at h1 ⊢
  by_cases c1 : k = 1
  ·rw [if_pos c1] at h1 ⊢
   simp only [wordS, Bool.and_eq_true, decide_eq_true_eq] at h1
   omega
  ·rw [if_neg c1] at h1 ⊢
   by_cases c2 : k = 2
   ·rw [if_pos c2] at h1 ⊢
    simp only [Bool.and_eq_true, decide_eq_true_eq] at h1
    have := escS_le t
    simp only [List.length_cons, List.length_append, List.length_nil]
    omega
   ·rw [if_neg c2] at h1 ⊢
    by_cases c3 : k = 3
    ·have key : ∀ (l : List Fm) (b : Bool), (∀ f ∈ l, fieldsF f = true → (wr f).length + 1 ≤ 4101 * f.size) → fieldsL l = true → (wrL b l).length ≤ 4101 * Fm.sizeL l := by
      intro l
      induction l with
      | nil => intro b _ _; simp [wrL]
      | cons f r ihr =>
       intro b hi hl
       simp only [fieldsL, Bool.and_eq_true] at hl
       have e1 := hi f (by simp) hl.1
       have e2 := ihr false (fun g hg => hi g (List.mem_cons_of_mem _ hg)) hl.2
       simp only [wrL, List.length_append, Fm.sizeL]
       have : (if b = true then [] else [32] : List UInt8).length ≤ 1 := by split <;> simp
       omega
     have := key l true ih h2
     rw [Fm.size_eq]
     have e3 : (if (Fm.mk k n t l).k = 3 then (Fm.mk k n t l).l else []) = l := if_pos c3
     rw [e3]
     simp only [List.length_cons, List.length_append, List.length_nil]
     omega
    ·rw [if_neg c3] at h1; cases h1
theorem wrL_len : ∀ (l : List Fm) (b : Bool), fieldsL l = true → (wrL b l).length ≤ 4101 * Fm.sizeL l
 | [], b, _ => by simp [wrL]
 | f :: r, b, hl => by
  simp only [fieldsL, Bool.and_eq_true] at hl
  have e1 := wr_len f hl.1
  have e2 := wrL_len r false hl.2
  simp only [wrL, List.length_append, Fm.sizeL]
  have : (if b = true then [] else [32] : List UInt8).length ≤ 1 := by split <;> simp
  omega
theorem ints_append (a b : List UInt8) : intsOf a ++ intsOf b = intsOf (a ++ b) := by unfold intsOf; rw [List.map_append]
theorem bldStr_val {x : List UInt8} {b : Bool} {l : List Int} (h : l.length + x.length ≤ 140737488355328) : G_bldStr x (b, (), ()) l = some (((x.length : Int), true, ()), ((true, (), ()), l ++ intsOf x, ())) := by
 unfold G_bldStr
 simp only [Option.bind_some, List.length_map, Nat.mul_one]
 rw [decide_eq_true h]
 rfl
theorem bldByte_val {c : Int} {b : Bool} {l : List Int} (h : l.length + 1 ≤ 140737488355328) : G_bldByte c (b, (), ()) l = some (true, ((true, (), ()), l ++ [c], ())) := by
 unfold G_bldByte
 simp only [Option.bind_some, List.length_cons, List.length_nil, Nat.mul_one, Nat.zero_add]
 rw [decide_eq_true h]
 rfl
end Go.Ab
