/-
  READING: what the program's parse computes, at every text.
-/
import Derived.Test.YthbkbjlfghikfaaGreatDoorZ13
import Derived.Test.YthbkbjlfghikfaaGreatDoorZ15
import Derived.Test.YthbkbjlfghikfaaGreatDoorZ14
import Derived.Shelf.Strings.Repeat
import Derived.Lib.AtoiAllCases
set_option linter.unusedVariables false
set_option linter.unusedSimpArgs false
set_option maxRecDepth 100000
namespace Go.Ab
open Go Go.RowKit Go.Proofs Go.Shelf
def repRen : Go.Shelf.Ren := ⟨fun | 105 => 67 | 212 => 102 | 99 => 103 | 165 => 104 | 166 => 31 | 170 => 105 | 169 => 26 | 263 => 134 | 264 => 135 | 206 => 136 | 240 => 51 | 241 => 137 | 276 => 78 | 277 => 150 | n => n, fun | 9 => 9 | 3 => 3 | 4 => 4 | 20 => 20 | 0 => 0 | 46 => 125 | 109 => 126 | 5 => 5 | 72 => 48 | 76 => 62 | 51 => 148 | 146 => 162 | 53 => 164 | 148 => 165 | 70 => 45 | 37 => 46 | 75 => 60 | 127 => 81 | 164 => 104 | 80 => 52 | n => n, fun  | n => n⟩
theorem repLays : Lays.n105 Tryz.prog repRen := by
 constructor
 all_goals first | kernel_rfl | (intro w; kernel_rfl) | skip
 all_goals constructor
 all_goals first | kernel_rfl | (intro w; kernel_rfl) | skip
 all_goals constructor
 all_goals first | kernel_rfl | (intro w; kernel_rfl)
theorem repX : Builder.Extra Tryz.prog repRen := by
 constructor
 all_goals first | kernel_rfl | (intro w; kernel_rfl) | decide | skip
 all_goals constructor
 all_goals first | kernel_rfl | (intro w; kernel_rfl) | decide | skip
 all_goals constructor
 all_goals first | kernel_rfl | (intro w; kernel_rfl) | decide
def repF (s : List UInt8) (c : Int) : Option (List UInt8) := if s.length = 1 ∧ 0 ≤ c ∧ c ≤ 1000000 then some (Lib.repeatL s c.toNat) else none
def S_repeat : Sig := .n [.d .str, .d (.int .i64)] (.d .str) (fun x => repF x.1 x.2.1)
theorem repeat_call (s : List UInt8) (n : Nat) (h1 : s.length = 1) (h3 : n ≤ 1000000) : PCall CX 67 [.str s, .int .i64 (n : Int)] (· = .ret (.str (Lib.repeatL s n))) := by
 refine pcall_of_calls (C := CX) (by kernel_rfl) fun kn w vs hk hr => ?_
 obtain ⟨v, vs1, rfl, hv, hvs⟩ := RelL.uncons hr
 obtain ⟨u, vs2, rfl, hu, hvs⟩ := RelL.uncons hvs
 have : vs2 = [] := List.eq_nil_of_length_eq_zero hvs.1.symm
 subst this
 cases hv
 cases hu
 have hs : (⟨s.toArray⟩ : ByteArray).size = 1 := h1
 match n, h3 with
 | 0, _ =>
  refine (Any.strings_Repeat_zero repLays ⟨s.toArray⟩ w).mono ?_
  rintro e w' ⟨rfl, rfl⟩
  exact ⟨⟨_, rfl, .str []⟩, Below.refl _ _⟩
 | 1, _ =>
  refine (Any.strings_Repeat_one repLays ⟨s.toArray⟩ w).mono ?_
  rintro e w' ⟨rfl, rfl⟩
  refine ⟨⟨_, rfl, ?_⟩, Below.refl _ _⟩
  rw [Lib.repeatL_one]
  exact .str s
 | n + 2, h3 =>
  refine (Any.strings_Repeat_main repLays repX ⟨s.toArray⟩ (n + 2) w (by omega) (by omega) (by rw [hs]; omega) (by omega)).mono ?_
  rintro e w' ⟨rfl, hb⟩
  exact ⟨⟨_, rfl, .str _⟩, hb⟩
theorem S_repeat_ok : SigOK CX 67 S_repeat := fun x r h => by
 have h : repF x.1 x.2.1 = some r := h
 unfold repF at h
 split at h
 ·rename_i hc
  cases h
  have := repeat_call x.1 (show Int from x.2.1).toNat hc.1 (by have h2 : 0 ≤ (show Int from x.2.1) := hc.2.1; have h3 : (show Int from x.2.1) ≤ 1000000 := hc.2.2; omega)
  rw [Int.toNat_of_nonneg hc.2.1] at this
  exact this
 ·cases h
def trimBF (s c : List UInt8) : Option (List UInt8) := if c = blkL ∧ s.length ≤ 4611686018427387904 then some (trimBS s) else none
def S_trimB : Sig := .n [.d .str, .d .str] (.d .str) (fun x => trimBF x.1 x.2.1)
theorem S_trimB_ok : SigOK CX 75 S_trimB := fun x r h => by
 have h : trimBF x.1 x.2.1 = some r := h
 unfold trimBF at h
 split at h
 ·rename_i hc
  cases h
  obtain ⟨s, c, t⟩ := x
  obtain ⟨h1, h2⟩ := hc
  have h1 : c = blkL := h1
  subst h1
  exact trimB_call s h2
 ·cases h
def trimRBF (s c : List UInt8) : Option (List UInt8) := if c = blkL ∧ s.length ≤ 4611686018427387904 then some (trimRi (fun c => decide (c ∈ blkL)) s s.length) else none
def S_trimRB : Sig := .n [.d .str, .d .str] (.d .str) (fun x => trimRBF x.1 x.2.1)
theorem S_trimRB_ok : SigOK CX 77 S_trimRB := fun x r h => by
 have h : trimRBF x.1 x.2.1 = some r := h
 unfold trimRBF at h
 split at h
 ·rename_i hc
  cases h
  obtain ⟨s, c, t⟩ := x
  obtain ⟨h1, h2⟩ := hc
  have h1 : c = blkL := h1
  subst h1
  exact trimRightB_call s h2
 ·cases h
noncomputable def S_slIndexByte : Sig := .n [.d .str, .d (.int .u8)] (.d (.int .i64)) (fun x => indexByteF x.1 x.2.1)
theorem S_slIndexByte_ok : SigOK CX 107 S_slIndexByte := fun x r h => by
 have h : indexByteF x.1 x.2.1 = some r := h
 unfold indexByteF at h
 split at h
 ·rename_i hl
  cases h
  have := slIndexByte_call x.1 (UInt8.ofNat (show Int from x.2.1).toNat)
  rw [u8_of hl] at this
  exact this
 ·cases h
noncomputable def G_prtByte (x1 : Int) (o0 : Bool × Unit × Int × Unit) (o1 : List Int) : Option ((Bool) × ((Bool × Unit × Int × Unit) × (List Int) × Unit)) := (
 Option.bind (α := (Unit) × ((Bool × Unit × Int × Unit) × (List Int) × Unit)) (some ((), ((true, (), ((o0.1, (), o0.2.2.1, ())).2.2.1, ()), o1, ()))) fun r1 => (
 cond (decide ((r1.2.2.1.length + ([x1]).length) * 1 ≤ 140737488355328)) (some (true, ((r1.2.1.1, (), r1.2.1.2.2.1, ()), r1.2.2.1 ++ ([x1]), ()))) none))
def A_prtByte : An := .leaf
def H_prtByte : Nat → RH := fun r => match r with
 | 1 => { H := { ac := [6] } }
 | 2 => { H := { ty := [(14, (.int .u8))] } }
 | _ => {}
noncomputable def S_prtByte : Sig := .o { pre := [(false, .cells 50 [(.mref 0 0), (.gs 1 (.int .u8)), (.d (.int .i64))]), (false, .tg (.int .u8) 5)], args := [(.ref 0 0), (.d (.int .u8))], post := [(true, .cells 50 [(.mref 0 0), (.gs 1 (.int .u8)), (.d (.int .i64))]), (false, .tg (.int .u8) 5)], res := (.d .erri), f := fun x => G_prtByte x.1.2.1 x.2.1 x.2.2.1 }
theorem S_prtByte_ok : SigOK CX 30 S_prtByte := sigO_of (l := [(51, S_copyCheckP)]) ⟨S_copyCheckP_ok, trivial⟩ (hint := H_prtByte) (an := A_prtByte) (by kernel_rfl) (fun x => by kernel_rfl)
noncomputable def G_prtStr (x1 : List UInt8) (o0 : Bool × Unit × Int × Unit) (o1 : List Int) : Option ((Int × Bool × Unit) × ((Bool × Unit × Int × Unit) × (List Int) × Unit)) := (
 Option.bind (α := (Unit) × ((Bool × Unit × Int × Unit) × (List Int) × Unit)) (some ((), ((true, (), ((o0.1, (), o0.2.2.1, ())).2.2.1, ()), o1, ()))) fun r1 => (
 cond (decide ((r1.2.2.1.length + (x1.map fun b => (b.toNat : Int)).length) * 1 ≤ 140737488355328)) (some (((x1.length : Int), true, ()), ((r1.2.1.1, (), r1.2.1.2.2.1, ()), r1.2.2.1 ++ (x1.map fun b => (b.toNat : Int)), ()))) none))
def A_prtStr : An := .leaf
def H_prtStr : Nat → RH := fun r => match r with
 | 1 => { H := { ac := [7] } }
 | 2 => { H := { ty := [(14, (.int .u8))] } }
 | _ => {}
noncomputable def S_prtStr : Sig := .o { pre := [(false, .cells 50 [(.mref 0 0), (.gs 1 (.int .u8)), (.d (.int .i64))]), (false, .tg (.int .u8) 5)], args := [(.ref 0 0), (.d .str)], post := [(true, .cells 50 [(.mref 0 0), (.gs 1 (.int .u8)), (.d (.int .i64))]), (false, .tg (.int .u8) 5)], res := (.tup [(.d (.int .i64)), (.d .erri)]), f := fun x => G_prtStr x.1.2.1 x.2.1 x.2.2.1 }
theorem S_prtStr_ok : SigOK CX 31 S_prtStr := sigO_of (l := [(51, S_copyCheckP)]) ⟨S_copyCheckP_ok, trivial⟩ (hint := H_prtStr) (an := A_prtStr) (by kernel_rfl) (fun x => by kernel_rfl)
noncomputable def G_lleaf (x0 : Fm) : Option (Bool) := (
 some (cond (!decide (x0.k = 3)) true (decide ((x0.l.length : Int) = 0))))
def A_lleaf : An := .leaf
def H_lleaf : Nat → RH := fun _ => {}
noncomputable def S_lleaf : Sig := .n [(.d .form)] (.d .bool) (fun x => G_lleaf x.1)
theorem S_lleaf_ok : SigOK CX 42 S_lleaf := sigN_of (l := []) trivial (hint := H_lleaf) (an := A_lleaf) (fun x => by kernel_rfl)
noncomputable def G_isWidth (x0 : Int) : Option (Bool) := (
 some (cond (decide (x0 ≥ 20)) (decide (x0 ≤ 200)) false))
def A_isWidth : An := .leaf
def H_isWidth : Nat → RH := fun _ => {}
noncomputable def S_isWidth : Sig := .n [(.d (.int .i64))] (.d .bool) (fun x => G_isWidth x.1)
theorem S_isWidth_ok : SigOK CX 23 S_isWidth := sigN_of (l := []) trivial (hint := H_isWidth) (an := A_isWidth) (fun x => by kernel_rfl)
noncomputable def G_front (x0 : Fm) : Option ((List UInt8) × Int × Unit) := (
 Option.bind (α := List UInt8) (G_head (Fm.eta x0)) fun r1 => (
 cond (decide (r1 = [])) (some ([40], 0, ())) (cond ((ixOK 1 x0.l.length) || !(decide ((x0.l.length : Int) > 1))) (cond (cond (decide ((x0.l.length : Int) > 1)) (!decide ((x0.l.getD (1 : Int).toNat (Fm.mk 0 0 [] [])).k = 3)) false) (cond (decide (([40]).length + r1.length ≤ 9223372036854775807)) (cond (decide ((([40]) ++ r1).length + ([32]).length ≤ 9223372036854775807)) (cond (ixOK 1 x0.l.length) (Option.bind (α := List UInt8) (G_rWrite (Fm.eta (x0.l.getD (1 : Int).toNat (Fm.mk 0 0 [] [])))) fun r2 => (
 cond (decide (((([40]) ++ r1) ++ ([32])).length + r2.length ≤ 9223372036854775807)) (some (((([40]) ++ r1) ++ ([32])) ++ r2, 2, ())) none)) none) none) none) (cond (decide (([40]).length + r1.length ≤ 9223372036854775807)) (some (([40]) ++ r1, 1, ())) none)) none)))
def A_front : An := .leaf
def H_front : Nat → RH := fun _ => {}
noncomputable def S_front : Sig := .n [(.d .form)] (.tup [(.d .str), (.d (.int .i64))]) (fun x => G_front x.1)
theorem S_front_ok : SigOK CX 43 S_front := sigN_of (l := [(66, S_head), (41, S_rWrite)]) ⟨S_head_ok, S_rWrite_ok, trivial⟩ (hint := H_front) (an := A_front) (fun x => by kernel_rfl)
noncomputable def G_prtLine (x1 : Int) (o0 : Bool × Unit × Int × Unit) (o1 : List Int) : Option ((Unit) × ((Bool × Unit × Int × Unit) × (List Int) × Unit)) := (
 Option.bind (α := (Bool) × ((Bool × Unit × Int × Unit) × (List Int) × Unit)) (G_prtByte 10 (o0.1, (), o0.2.2.1, ()) o1) fun r1 => (
 Option.bind (α := List UInt8) (repF ([32]) (x1)) fun r2 => (
 Option.bind (α := (Int × Bool × Unit) × ((Bool × Unit × Int × Unit) × (List Int) × Unit)) (G_prtStr r2 (r1.2.1.1, (), r1.2.1.2.2.1, ()) r1.2.2.1) fun r3 => (
 some ((), ((r3.2.1.1, (), r3.2.1.2.2.1, ()), r3.2.2.1, ()))))))
def A_prtLine : An := .leaf
def H_prtLine : Nat → RH := fun r => match r with
 | 0 => { H := { ac := [7] } }
 | 1 => { H := { ac := [13] } }
 | _ => {}
noncomputable def S_prtLine : Sig := .o { pre := [(false, .cells 50 [(.mref 0 0), (.gs 1 (.int .u8)), (.d (.int .i64))]), (false, .tg (.int .u8) 5)], args := [(.ref 0 0), (.d (.int .i64))], post := [(true, .cells 50 [(.mref 0 0), (.gs 1 (.int .u8)), (.d (.int .i64))]), (false, .tg (.int .u8) 5)], res := (.tup []), f := fun x => G_prtLine x.1.2.1 x.2.1 x.2.2.1 }
theorem S_prtLine_ok : SigOK CX 44 S_prtLine := sigO_of (l := [(30, S_prtByte), (67, S_repeat), (31, S_prtStr)]) ⟨S_prtByte_ok, S_repeat_ok, S_prtStr_ok, trivial⟩ (hint := H_prtLine) (an := A_prtLine) (by kernel_rfl) (fun x => by kernel_rfl)
noncomputable def G_prtForm (k : Nat) (x1 : Fm) (x2 : Int) (x3 : Int) (o0 : Bool × Unit × Int × Unit) (o1 : List Int) : Option ((Unit) × ((Bool × Unit × Int × Unit) × (List Int) × Unit)) := match k with
| 0 => none
| k + 1 => (
 Option.bind (α := List UInt8) (G_rWrite (Fm.eta x1)) fun r1 => (
 Option.bind (α := Bool) (G_lleaf (Fm.eta x1)) fun r2 => (
 cond (cond r2 true (decide (IntKind.wrap .i64 (IntKind.wrap .i64 (x2 + (r1.length : Int)) + x3) ≤ o0.2.2.1))) (Option.bind (α := (Int × Bool × Unit) × ((Bool × Unit × Int × Unit) × (List Int) × Unit)) (G_prtStr r1 (o0.1, (), o0.2.2.1, ()) o1) fun r3 => (
 some ((), ((r3.2.1.1, (), r3.2.1.2.2.1, ()), r3.2.2.1, ())))) (Option.bind (α := (List UInt8) × Int × Unit) (G_front (Fm.eta x1)) fun r4 => (
 Option.bind (α := (Int × Bool × Unit) × ((Bool × Unit × Int × Unit) × (List Int) × Unit)) (G_prtStr r4.1 (o0.1, (), o0.2.2.1, ()) o1) fun r5 => (
 Option.bind (α := (Unit × Int × (Int × Int × (List UInt8) × (List Fm) × Unit) × Int × Int × Unit) × ((Bool × Unit × Int × Unit) × (List Int) × Unit))
 (cond (decide (r4.2.1 = 0)) (some (((), x3, (x1.k, x1.n, x1.t, x1.l, ()), r4.2.1, IntKind.wrap .i64 (x2 + 1), ()), ((r5.2.1.1, (), r5.2.1.2.2.1, ()), r5.2.2.1, ()))) (some (((), x3, (x1.k, x1.n, x1.t, x1.l, ()), r4.2.1, IntKind.wrap .i64 (x2 + 2), ()), ((r5.2.1.1, (), r5.2.1.2.2.1, ()), r5.2.2.1, ())))) fun d6 => (
 let l7 := d6.2.2.1
 let v3_8 := d6.1.2.1
 let v10_9 := d6.1.2.2.2.1
 let v11_10 := d6.1.2.2.2.2.1
 Option.bind (α := (Unit × Unit) × ((Bool × Unit × Int × Unit) × (List Int) × Unit))
 (loopM (L := (Unit × Int × (Int × Int × (List UInt8) × (List Fm) × Unit) × Int × Int × Unit) × ((Bool × Unit × Int × Unit) × (List Int) × Unit)) (R := (Unit × Unit) × ((Bool × Unit × Int × Unit) × (List Int) × Unit)) (fun d11 => (
 let l12 := d11.2.2.1
 let v3_13 := d11.1.2.1
 let v11_14 := d11.1.2.2.2.1
 let v12_15 := d11.1.2.2.2.2.1
 cond (decide (v12_15 < (d11.1.2.2.1.2.2.2.1.length : Int))) (Option.bind (α := (Unit × Int × (Int × Int × (List UInt8) × (List Fm) × Unit) × Int × Int × Unit) × ((Bool × Unit × Int × Unit) × (List Int) × Unit))
 (cond (decide (v12_15 > 0)) (Option.bind (α := (Unit) × ((Bool × Unit × Int × Unit) × (List Int) × Unit)) (G_prtLine v11_14 (d11.2.1.1, (), d11.2.1.2.2.1, ()) l12) fun r16 => (
 some (((), v3_13, (d11.1.2.2.1.1, d11.1.2.2.1.2.1, d11.1.2.2.1.2.2.1, d11.1.2.2.1.2.2.2.1, ()), v11_14, v12_15, ()), ((r16.2.1.1, (), r16.2.1.2.2.1, ()), r16.2.2.1, ())))) (some (((), v3_13, (d11.1.2.2.1.1, d11.1.2.2.1.2.1, d11.1.2.2.1.2.2.1, d11.1.2.2.1.2.2.2.1, ()), v11_14, v12_15, ()), ((d11.2.1.1, (), d11.2.1.2.2.1, ()), l12, ())))) fun d17 => (
 let l18 := d17.2.2.1
 let v3_19 := d17.1.2.1
 let v11_20 := d17.1.2.2.2.1
 let v12_21 := d17.1.2.2.2.2.1
 Option.bind (α := (Unit × Int × (Int × Int × (List UInt8) × (List Fm) × Unit) × Int × Int × Int × Unit) × ((Bool × Unit × Int × Unit) × (List Int) × Unit))
 (cond (decide (v12_21 = IntKind.wrap .i64 ((d17.1.2.2.1.2.2.2.1.length : Int) - 1))) (some (((), v3_19, (d17.1.2.2.1.1, d17.1.2.2.1.2.1, d17.1.2.2.1.2.2.1, d17.1.2.2.1.2.2.2.1, ()), v11_20, v12_21, IntKind.wrap .i64 (v3_19 + 1), ()), ((d17.2.1.1, (), d17.2.1.2.2.1, ()), l18, ()))) (some (((), v3_19, (d17.1.2.2.1.1, d17.1.2.2.1.2.1, d17.1.2.2.1.2.2.1, d17.1.2.2.1.2.2.2.1, ()), v11_20, v12_21, 0, ()), ((d17.2.1.1, (), d17.2.1.2.2.1, ()), l18, ())))) fun d22 => (
 let l23 := d22.2.2.1
 let v3_24 := d22.1.2.1
 let v11_25 := d22.1.2.2.2.1
 let v12_26 := d22.1.2.2.2.2.1
 let v13_27 := d22.1.2.2.2.2.2.1
 cond (ixOK v12_26 d22.1.2.2.1.2.2.2.1.length) (Option.bind (α := (Unit) × ((Bool × Unit × Int × Unit) × (List Int) × Unit)) (G_prtForm k (Fm.eta (d22.1.2.2.1.2.2.2.1.getD v12_26.toNat (Fm.mk 0 0 [] []))) v11_25 v13_27 (d22.2.1.1, (), d22.2.1.2.2.1, ()) l23) fun r28 => (
 some (Step.next (((), v3_24, (d22.1.2.2.1.1, d22.1.2.2.1.2.1, d22.1.2.2.1.2.2.1, d22.1.2.2.1.2.2.2.1, ()), v11_25, IntKind.wrap .i64 (v12_26 + 1), ()), ((r28.2.1.1, (), r28.2.1.2.2.1, ()), r28.2.2.1, ()))))) none))) (some (Step.done (((), ()), ((d11.2.1.1, (), d11.2.1.2.2.1, ()), l12, ())))))) (((), v3_8, (d6.1.2.2.1.1, d6.1.2.2.1.2.1, d6.1.2.2.1.2.2.1, d6.1.2.2.1.2.2.2.1, ()), v11_10, v10_9, ()), ((d6.2.1.1, (), d6.2.1.2.2.1, ()), l7, ()))) fun d29 => (
 let l30 := d29.2.2.1
 Option.bind (α := (Bool) × ((Bool × Unit × Int × Unit) × (List Int) × Unit)) (G_prtByte 41 (d29.2.1.1, (), d29.2.1.2.2.1, ()) l30) fun r31 => (
 some ((), ((r31.2.1.1, (), r31.2.1.2.2.1, ()), r31.2.2.1, ())))))))))))
def A_prtForm : An := .seq (.leaf) (.seq (.leaf) (.seq (.leaf) (.seq (.leaf) (.seq (.leaf) (.seq (.leaf) (.join false { env := [(0, (.ref 0 0)), (3, (.d (.int .i64))), (5, (.rptr [(.d (.int .i64)), (.d (.int .i64)), (.d .str), (.d (.slice .form))])), (10, (.d (.int .i64))), (11, (.d (.int .i64)))], objs := [(true, .cells 50 [(.mref 0 0), (.gs 1 (.int .u8)), (.d (.int .i64))]), (false, .tg (.int .u8) 5)] } (.leaf) (.join false { env := [(0, (.ref 0 0))], objs := [(true, .cells 50 [(.mref 0 0), (.gs 1 (.int .u8)), (.d (.int .i64))]), (false, .tg (.int .u8) 5)] } (.seq (.leaf) (.block (.loop { env := [(0, (.ref 0 0)), (3, (.d (.int .i64))), (5, (.rptr [(.d (.int .i64)), (.d (.int .i64)), (.d .str), (.d (.slice .form))])), (11, (.d (.int .i64))), (12, (.d (.int .i64)))], objs := [(true, .cells 50 [(.mref 0 0), (.gs 1 (.int .u8)), (.d (.int .i64))]), (false, .tg (.int .u8) 5)] } (.seq (.leaf) (.seq (.block (.join false { env := [(0, (.ref 0 0)), (3, (.d (.int .i64))), (5, (.rptr [(.d (.int .i64)), (.d (.int .i64)), (.d .str), (.d (.slice .form))])), (11, (.d (.int .i64))), (12, (.d (.int .i64)))], objs := [(true, .cells 50 [(.mref 0 0), (.gs 1 (.int .u8)), (.d (.int .i64))]), (false, .tg (.int .u8) 5)] } (.leaf) (.seq (.leaf) (.join false { env := [(0, (.ref 0 0)), (3, (.d (.int .i64))), (5, (.rptr [(.d (.int .i64)), (.d (.int .i64)), (.d .str), (.d (.slice .form))])), (11, (.d (.int .i64))), (12, (.d (.int .i64))), (13, (.d (.int .i64)))], objs := [(true, .cells 50 [(.mref 0 0), (.gs 1 (.int .u8)), (.d (.int .i64))]), (false, .tg (.int .u8) 5)] } (.leaf) (.leaf))))) (.leaf)))))) (.leaf))))))))
def H_prtForm : Nat → RH := fun r => match r with
 | 3 => { H := { ac := [35] } }
 | 5 => { H := { ac := [45] } }
 | 13 => { H := { ac := [64] } }
 | 17 => { H := { ac := [81] } }
 | 18 => { H := { ac := [85] } }
 | _ => {}
noncomputable def S_prtForm (k : Nat) : Sig := .o { pre := [(false, .cells 50 [(.mref 0 0), (.gs 1 (.int .u8)), (.d (.int .i64))]), (false, .tg (.int .u8) 5)], args := [(.ref 0 0), (.d .form), (.d (.int .i64)), (.d (.int .i64))], post := [(true, .cells 50 [(.mref 0 0), (.gs 1 (.int .u8)), (.d (.int .i64))]), (false, .tg (.int .u8) 5)], res := (.tup []), f := fun x => G_prtForm k x.1.2.1 x.1.2.2.1 x.1.2.2.2.1 x.2.1 x.2.2.1 }
theorem S_prtForm_ok : ∀ k, SigOK CX 25 (S_prtForm k)
| 0 => ⟨by kernel_rfl, fun x r h => by cases h⟩
| k + 1 => by
 have ih := S_prtForm_ok k
 exact sigO_of (l := [(41, S_rWrite), (42, S_lleaf), (31, S_prtStr), (43, S_front), (44, S_prtLine), (25, (S_prtForm k)), (30, S_prtByte)]) ⟨S_rWrite_ok, S_lleaf_ok, S_prtStr_ok, S_front_ok, S_prtLine_ok, ih, S_prtByte_ok, trivial⟩ (hint := H_prtForm) (an := A_prtForm) (by kernel_rfl) (fun x => by kernel_rfl)
noncomputable def L_prtForm (x1 : Fm) (x2 : Int) (x3 : Int) (o0 : Bool × Unit × Int × Unit) (o1 : List Int) : Option ((Unit) × ((Bool × Unit × Int × Unit) × (List Int) × Unit)) := limF fun k => G_prtForm k x1 x2 x3 o0 o1
noncomputable def S_prtForm_l : Sig := .o { pre := [(false, .cells 50 [(.mref 0 0), (.gs 1 (.int .u8)), (.d (.int .i64))]), (false, .tg (.int .u8) 5)], args := [(.ref 0 0), (.d .form), (.d (.int .i64)), (.d (.int .i64))], post := [(true, .cells 50 [(.mref 0 0), (.gs 1 (.int .u8)), (.d (.int .i64))]), (false, .tg (.int .u8) 5)], res := (.tup []), f := fun x => L_prtForm x.1.2.1 x.1.2.2.1 x.1.2.2.2.1 x.2.1 x.2.2.1 }
theorem S_prtForm_l_ok : SigOK CX 25 S_prtForm_l := SigOK.limO S_prtForm_ok fun x r h => limF_ex h
noncomputable def G_layFormat (x0 : Fm) (x1 : Int) : Option ((List UInt8) × Int × Unit) := (
 Option.bind (α := Bool) (G_isWidth x1) fun r1 => (
 Option.bind (α := Bool) (cond (!(!r1)) (G_rvalid (Fm.eta x0)) (some false)) fun r2 => (
 cond (cond (!r1) true (!r2)) (some ([], 1, ())) (Option.bind (α := (Unit) × ((Bool × Unit × Int × Unit) × (List Int) × Unit)) (L_prtForm (Fm.eta x0) 0 0 (false, (), x1, ()) ([] : List Int)) fun r3 => (
 Option.bind (α := (List UInt8) × (Unit)) (Option.map (fun s => (s, ())) (bytesOf (r3.2.2.1))) fun r4 => (
 some (r4.1, 0, ())))))))
def A_layFormat : An := .leaf
def H_layFormat : Nat → RH := fun r => match r with
 | 3 => { H := { mb := [17] } }
 | 4 => { H := { ac := [20] } }
 | 5 => { H := { ac := [24] } }
 | _ => {}
noncomputable def S_layFormat : Sig := .n [(.d .form), (.d (.int .i64))] (.tup [(.d .str), (.d (.int .i64))]) (fun x => G_layFormat x.1 x.2.1)
theorem S_layFormat_ok : SigOK CX 9 S_layFormat := sigN_of (l := [(23, S_isWidth), (24, S_rvalid), (25, S_prtForm_l), (26, S_stringP)]) ⟨S_isWidth_ok, S_rvalid_ok, S_prtForm_l_ok, S_stringP_ok, trivial⟩ (hint := H_layFormat) (an := A_layFormat) (fun x => by kernel_rfl)
noncomputable def G_slIndex (x0 : List UInt8) (x1 : List UInt8) : Option (Int) := (
 cond (cond (decide ((x1.length : Int) = 0)) true (decide (x1 = x0))) (some 0) (cond (decide ((x1.length : Int) = 1)) (cond (ixOK 0 x1.length) (Option.bind (α := Int) (indexByteF (x0) (byteAt x1 0)) fun r1 => (
 some r1)) none) (cond (decide ((x1.length : Int) ≥ (x0.length : Int))) (some (-1)) (none))))
def A_slIndex : An := .leaf
def H_slIndex : Nat → RH := fun _ => {}
noncomputable def S_slIndex : Sig := .n [(.d .str), (.d .str)] (.d (.int .i64)) (fun x => G_slIndex x.1 x.2.1)
theorem S_slIndex_ok : SigOK CX 79 S_slIndex := sigN_of (l := [(107, S_slIndexByte)]) ⟨S_slIndexByte_ok, trivial⟩ (hint := H_slIndex) (an := A_slIndex) (fun x => by kernel_rfl)
noncomputable def G_sIndex (x0 : List UInt8) (x1 : List UInt8) : Option (Int) := (
 Option.bind (α := Int) (G_slIndex x0 x1) fun r1 => (
 some r1))
def A_sIndex : An := .leaf
def H_sIndex : Nat → RH := fun _ => {}
noncomputable def S_sIndex : Sig := .n [(.d .str), (.d .str)] (.d (.int .i64)) (fun x => G_sIndex x.1 x.2.1)
theorem S_sIndex_ok : SigOK CX 52 S_sIndex := sigN_of (l := [(79, S_slIndex)]) ⟨S_slIndex_ok, trivial⟩ (hint := H_sIndex) (an := A_sIndex) (fun x => by kernel_rfl)
noncomputable def G_sContains (x0 : List UInt8) (x1 : List UInt8) : Option (Bool) := (
 Option.bind (α := Int) (G_sIndex x0 x1) fun r1 => (
 some (decide (r1 ≥ 0))))
def A_sContains : An := .leaf
def H_sContains : Nat → RH := fun _ => {}
noncomputable def S_sContains : Sig := .n [(.d .str), (.d .str)] (.d .bool) (fun x => G_sContains x.1 x.2.1)
theorem S_sContains_ok : SigOK CX 32 S_sContains := sigN_of (l := [(52, S_sIndex)]) ⟨S_sIndex_ok, trivial⟩ (hint := H_sContains) (an := A_sContains) (fun x => by kernel_rfl)
noncomputable def G_slCut (x0 : List UInt8) (x1 : List UInt8) : Option ((List UInt8) × (List UInt8) × Bool × Unit) := (
 Option.bind (α := Int) (G_slIndex x0 x1) fun r1 => (
 cond (decide (r1 ≥ 0)) (cond (slOK 0 r1 x0.length) (cond (slOK (IntKind.wrap .i64 (r1 + (x1.length : Int))) (x0.length : Int) x0.length) (some ((x0.drop (0 : Int).toNat).take (r1.toNat - (0 : Int).toNat), (x0.drop (IntKind.wrap .i64 (r1 + (x1.length : Int))).toNat).take ((x0.length : Int).toNat - (IntKind.wrap .i64 (r1 + (x1.length : Int))).toNat), true, ())) none) none) (some (x0, [], false, ()))))
def A_slCut : An := .leaf
def H_slCut : Nat → RH := fun _ => {}
noncomputable def S_slCut : Sig := .n [(.d .str), (.d .str)] (.tup [(.d .str), (.d .str), (.d .bool)]) (fun x => G_slCut x.1 x.2.1)
theorem S_slCut_ok : SigOK CX 116 S_slCut := sigN_of (l := [(79, S_slIndex)]) ⟨S_slIndex_ok, trivial⟩ (hint := H_slCut) (an := A_slCut) (fun x => by kernel_rfl)
noncomputable def G_sCut (x0 : List UInt8) (x1 : List UInt8) : Option ((List UInt8) × (List UInt8) × Bool × Unit) := (
 Option.bind (α := (List UInt8) × (List UInt8) × Bool × Unit) (G_slCut x0 x1) fun r1 => (
 some (r1.1, r1.2.1, r1.2.2.1, ())))
def A_sCut : An := .leaf
def H_sCut : Nat → RH := fun _ => {}
noncomputable def S_sCut : Sig := .n [(.d .str), (.d .str)] (.tup [(.d .str), (.d .str), (.d .bool)]) (fun x => G_sCut x.1 x.2.1)
theorem S_sCut_ok : SigOK CX 76 S_sCut := sigN_of (l := [(116, S_slCut)]) ⟨S_slCut_ok, trivial⟩ (hint := H_sCut) (an := A_sCut) (fun x => by kernel_rfl)
noncomputable def G_lastIdx0 (x0 : List UInt8) (x1 : Int) : Option (Int) := (
 Option.bind (α := Step ((Unit) × (Unit)) (Int))
 (loopM (L := ((List UInt8) × Int × Int × Unit) × (Unit)) (R := Step ((Unit) × (Unit)) (Int)) (fun d1 => (
 let v0_2 := d1.1.1
 let v1_3 := d1.1.2.1
 let v5_4 := d1.1.2.2.1
 cond (decide (v5_4 ≥ 0)) (cond (ixOK v5_4 v0_2.length) (cond (decide (byteAt v0_2 v5_4 = v1_3)) (some (Step.done (Step.done v5_4))) (some (Step.next ((v0_2, v1_3, IntKind.wrap .i64 (v5_4 - 1), ()), ())))) none) (some (Step.done (Step.next ((), ())))))) ((x0, x1, IntKind.wrap .i64 ((x0.length : Int) - 1), ()), ())) fun qd5 => match qd5 with
 | .next d5 => (
 some (-1))
 | .done r => some r)
def A_lastIdx0 : An := .seq (.leaf) (.join true { env := [], objs := [] } (.seq (.leaf) (.block (.loop { env := [(0, (.d .str)), (1, (.d (.int .u8))), (5, (.d (.int .i64)))], objs := [] } (.leaf)))) (.leaf))
def H_lastIdx0 : Nat → RH := fun _ => {}
noncomputable def S_lastIdx0 : Sig := .n [(.d .str), (.d (.int .u8))] (.d (.int .i64)) (fun x => G_lastIdx0 x.1 x.2.1)
theorem S_lastIdx0_ok : SigOK CX 108 S_lastIdx0 := sigN_of (l := []) trivial (hint := H_lastIdx0) (an := A_lastIdx0) (fun x => by kernel_rfl)
noncomputable def G_lastIdx (x0 : List UInt8) (x1 : Int) : Option (Int) := (
 Option.bind (α := Int) (G_lastIdx0 x0 x1) fun r1 => (
 some r1))
def A_lastIdx : An := .leaf
def H_lastIdx : Nat → RH := fun _ => {}
noncomputable def S_lastIdx : Sig := .n [(.d .str), (.d (.int .u8))] (.d (.int .i64)) (fun x => G_lastIdx x.1 x.2.1)
theorem S_lastIdx_ok : SigOK CX 74 S_lastIdx := sigN_of (l := [(108, S_lastIdx0)]) ⟨S_lastIdx0_ok, trivial⟩ (hint := H_lastIdx) (an := A_lastIdx) (fun x => by kernel_rfl)
noncomputable def G_lcomments (x0 : List UInt8) : Option ((List Int) × (List Int) × Unit) := (
 Option.bind (α := (Unit × Unit × Unit) × ((List Int) × (List Int) × Unit))
 (loopM (L := ((List UInt8) × Unit × Unit × Int × Int × Int × Unit) × ((List Int) × (List Int) × Unit)) (R := (Unit × Unit × Unit) × ((List Int) × (List Int) × Unit)) (fun d1 => (
 let l2 := d1.2.1
 let l3 := d1.2.2.1
 let v0_4 := d1.1.1
 let v4_5 := d1.1.2.2.2.1
 let v5_6 := d1.1.2.2.2.2.1
 let v6_7 := d1.1.2.2.2.2.2.1
 cond (decide (v6_7 < (v0_4.length : Int))) (Option.bind (α := ((List UInt8) × Unit × Unit × Int × Int × Int × Unit) × ((List Int) × (List Int) × Unit))
 (cond (ixOK v6_7 v0_4.length) (cond (decide (byteAt v0_4 v6_7 = 59)) (cond (slOK v6_7 (v0_4.length : Int) v0_4.length) (Option.bind (α := Int) (indexByteF ((v0_4.drop v6_7.toNat).take ((v0_4.length : Int).toNat - v6_7.toNat)) (10)) fun r8 => (
 Option.bind (α := ((List UInt8) × Unit × Unit × Int × Int × Int × Unit) × ((List Int) × (List Int) × Unit))
 (cond (decide (r8 < 0)) (some ((v0_4, (), (), v4_5, v6_7, IntKind.wrap .i64 ((v0_4.length : Int) - v6_7), ()), (l2, l3, ()))) (some ((v0_4, (), (), v4_5, v6_7, r8, ()), (l2, l3, ())))) fun d9 => (
 let l10 := d9.2.1
 let l11 := d9.2.2.1
 let v0_12 := d9.1.1
 let v4_13 := d9.1.2.2.2.1
 let v6_14 := d9.1.2.2.2.2.1
 let v8_15 := d9.1.2.2.2.2.2.1
 cond (slOK 0 v6_14 v0_12.length) (Option.bind (α := Int) (G_lastIdx ((v0_12.drop (0 : Int).toNat).take (v6_14.toNat - (0 : Int).toNat)) 10) fun r16 => (
 cond (slOK (IntKind.wrap .i64 (r16 + 1)) v6_14 v0_12.length) (Option.bind (α := ((List UInt8) × Unit × Unit × Int × Int × Int × Unit) × ((List Int) × (List Int) × Unit))
 (Option.bind (α := List UInt8) (cond (decide (v4_13 = 0)) (trimBF ((v0_12.drop (IntKind.wrap .i64 (r16 + 1)).toNat).take (v6_14.toNat - (IntKind.wrap .i64 (r16 + 1)).toNat)) ([32, 9])) (some ([] : List UInt8))) fun r17 => (
 cond (cond (decide (v4_13 = 0)) (decide (r17 = [])) false) (cond (decide ((l10.length + ([v6_14]).length) * 8 ≤ 140737488355328)) (some ((v0_12, (), (), v4_13, v6_14, v8_15, ()), (l10 ++ ([v6_14]), l11, ()))) none) (some ((v0_12, (), (), v4_13, v6_14, v8_15, ()), (l10, l11, ()))))) fun d18 => (
 let l19 := d18.2.1
 let l20 := d18.2.2.1
 let v0_21 := d18.1.1
 let v4_22 := d18.1.2.2.2.1
 let v6_23 := d18.1.2.2.2.2.1
 let v8_24 := d18.1.2.2.2.2.2.1
 some ((v0_21, (), (), v4_22, (-1), IntKind.wrap .i64 (v6_23 + IntKind.wrap .i64 (v8_24 - 1)), ()), (l19, l20, ())))) none)) none))) none) (cond (decide (byteAt v0_4 v6_7 = 34)) (Option.bind (α := ((List UInt8) × Unit × Unit × Int × Int × Unit) × ((List Int) × (List Int) × Unit))
 (cond (cond (decide (v4_5 = 0)) (decide (v5_6 < 0)) false) (cond (decide ((l3.length + ([v6_7]).length) * 8 ≤ 140737488355328)) (some ((v0_4, (), (), v4_5, v6_7, ()), (l2, l3 ++ ([v6_7]), ()))) none) (some ((v0_4, (), (), v4_5, v6_7, ()), (l2, l3, ())))) fun d25 => (
 let l26 := d25.2.1
 let l27 := d25.2.2.1
 let v0_28 := d25.1.1
 let v4_29 := d25.1.2.2.2.1
 let v6_30 := d25.1.2.2.2.2.1
 Option.bind (α := ((List UInt8) × Unit × Unit × Int × Int × Unit) × ((List Int) × (List Int) × Unit))
 (loopM (L := ((List UInt8) × Unit × Unit × Int × Int × Unit) × ((List Int) × (List Int) × Unit)) (R := ((List UInt8) × Unit × Unit × Int × Int × Unit) × ((List Int) × (List Int) × Unit)) (fun d31 => (
 let l32 := d31.2.1
 let l33 := d31.2.2.1
 let v0_34 := d31.1.1
 let v4_35 := d31.1.2.2.2.1
 let v6_36 := d31.1.2.2.2.2.1
 cond ((ixOK v6_36 v0_34.length) || !(decide (v6_36 < (v0_34.length : Int)))) (cond (cond (decide (v6_36 < (v0_34.length : Int))) (!decide (byteAt v0_34 v6_36 = 34)) false) (Option.bind (α := ((List UInt8) × Unit × Unit × Int × Int × Unit) × ((List Int) × (List Int) × Unit))
 (cond (ixOK v6_36 v0_34.length) (cond (decide (byteAt v0_34 v6_36 = 92)) (some ((v0_34, (), (), v4_35, IntKind.wrap .i64 (v6_36 + 1), ()), (l32, l33, ()))) (some ((v0_34, (), (), v4_35, v6_36, ()), (l32, l33, ())))) none) fun d37 => (
 let l38 := d37.2.1
 let l39 := d37.2.2.1
 let v0_40 := d37.1.1
 let v4_41 := d37.1.2.2.2.1
 let v6_42 := d37.1.2.2.2.2.1
 some (Step.next ((v0_40, (), (), v4_41, IntKind.wrap .i64 (v6_42 + 1), ()), (l38, l39, ()))))) (some (Step.done ((v0_34, (), (), v4_35, v6_36, ()), (l32, l33, ()))))) none)) ((v0_28, (), (), v4_29, IntKind.wrap .i64 (v6_30 + 1), ()), (l26, l27, ()))) fun d43 => (
 let l44 := d43.2.1
 let l45 := d43.2.2.1
 let v0_46 := d43.1.1
 let v4_47 := d43.1.2.2.2.1
 let v6_48 := d43.1.2.2.2.2.1
 some ((v0_46, (), (), v4_47, (-1), v6_48, ()), (l44, l45, ()))))) (cond (decide (byteAt v0_4 v6_7 = 40)) (Option.bind (α := ((List UInt8) × Unit × Unit × Int × Int × Unit) × ((List Int) × (List Int) × Unit))
 (cond (decide (v4_5 = 0)) (cond (decide ((l3.length + ([v6_7]).length) * 8 ≤ 140737488355328)) (some ((v0_4, (), (), v4_5, v6_7, ()), (l2, l3 ++ ([v6_7]), ()))) none) (some ((v0_4, (), (), v4_5, v6_7, ()), (l2, l3, ())))) fun d49 => (
 let l50 := d49.2.1
 let l51 := d49.2.2.1
 let v0_52 := d49.1.1
 let v4_53 := d49.1.2.2.2.1
 let v6_54 := d49.1.2.2.2.2.1
 some ((v0_52, (), (), IntKind.wrap .i64 (v4_53 + 1), (-1), v6_54, ()), (l50, l51, ())))) (cond (decide (byteAt v0_4 v6_7 = 41)) (some ((v0_4, (), (), IntKind.wrap .i64 (v4_5 - 1), (-1), v6_7, ()), (l2, l3, ()))) (cond (cond (cond (decide (byteAt v0_4 v6_7 = 32)) true (decide (byteAt v0_4 v6_7 = 9))) true (decide (byteAt v0_4 v6_7 = 10))) (some ((v0_4, (), (), v4_5, (-1), v6_7, ()), (l2, l3, ()))) (cond (decide (v5_6 < 0)) (cond (decide (v4_5 = 0)) (cond (decide ((l3.length + ([v6_7]).length) * 8 ≤ 140737488355328)) (some ((v0_4, (), (), v4_5, v6_7, v6_7, ()), (l2, l3 ++ ([v6_7]), ()))) none) (some ((v0_4, (), (), v4_5, v6_7, v6_7, ()), (l2, l3, ())))) (some ((v0_4, (), (), v4_5, v5_6, v6_7, ()), (l2, l3, ()))))))))) none) fun d55 => (
 let l56 := d55.2.1
 let l57 := d55.2.2.1
 let v0_58 := d55.1.1
 let v4_59 := d55.1.2.2.2.1
 let v5_60 := d55.1.2.2.2.2.1
 let v6_61 := d55.1.2.2.2.2.2.1
 some (Step.next ((v0_58, (), (), v4_59, v5_60, IntKind.wrap .i64 (v6_61 + 1), ()), (l56, l57, ()))))) (some (Step.done (((), (), ()), (l2, l3, ())))))) ((x0, (), (), 0, (-1), 0, ()), (([] : List Int), ([] : List Int), ()))) fun d62 => (
 let l63 := d62.2.1
 let l64 := d62.2.2.1
 some (l63, l64, ())))
def A_lcomments : An := .seq (.leaf) (.seq (.leaf) (.join false { env := [(2, (.gs 0 (.int .i64))), (3, (.gs 1 (.int .i64)))], objs := [(false, .tg (.int .i64) 3), (false, .tg (.int .i64) 3)] } (.seq (.leaf) (.block (.loop { env := [(0, (.d .str)), (2, (.gs 0 (.int .i64))), (3, (.gs 1 (.int .i64))), (4, (.d (.int .i64))), (5, (.d (.int .i64))), (6, (.d (.int .i64)))], objs := [(false, .tg (.int .i64) 3), (false, .tg (.int .i64) 3)] } (.seq (.leaf) (.join false { env := [(0, (.d .str)), (2, (.gs 0 (.int .i64))), (3, (.gs 1 (.int .i64))), (4, (.d (.int .i64))), (5, (.d (.int .i64))), (6, (.d (.int .i64)))], objs := [(false, .tg (.int .i64) 3), (false, .tg (.int .i64) 3)] } (.block (.seq (.leaf) (.block (.seq (.leaf) (.cond (.seq (.leaf) (.join false { env := [(0, (.d .str)), (2, (.gs 0 (.int .i64))), (3, (.gs 1 (.int .i64))), (4, (.d (.int .i64))), (6, (.d (.int .i64))), (8, (.d (.int .i64)))], objs := [(false, .tg (.int .i64) 3), (false, .tg (.int .i64) 3)] } (.leaf) (.seq (.leaf) (.join false { env := [(0, (.d .str)), (2, (.gs 0 (.int .i64))), (3, (.gs 1 (.int .i64))), (4, (.d (.int .i64))), (6, (.d (.int .i64))), (8, (.d (.int .i64)))], objs := [(false, .tg (.int .i64) 3), (false, .tg (.int .i64) 3)] } (.leaf) (.leaf))))) (.seq (.leaf) (.cond (.join false { env := [(0, (.d .str)), (2, (.gs 0 (.int .i64))), (3, (.gs 1 (.int .i64))), (4, (.d (.int .i64))), (6, (.d (.int .i64)))], objs := [(false, .tg (.int .i64) 3), (false, .tg (.int .i64) 3)] } (.leaf) (.join false { env := [(0, (.d .str)), (2, (.gs 0 (.int .i64))), (3, (.gs 1 (.int .i64))), (4, (.d (.int .i64))), (6, (.d (.int .i64)))], objs := [(false, .tg (.int .i64) 3), (false, .tg (.int .i64) 3)] } (.seq (.leaf) (.block (.loop { env := [(0, (.d .str)), (2, (.gs 0 (.int .i64))), (3, (.gs 1 (.int .i64))), (4, (.d (.int .i64))), (6, (.d (.int .i64)))], objs := [(false, .tg (.int .i64) 3), (false, .tg (.int .i64) 3)] } (.seq (.leaf) (.join false { env := [(0, (.d .str)), (2, (.gs 0 (.int .i64))), (3, (.gs 1 (.int .i64))), (4, (.d (.int .i64))), (6, (.d (.int .i64)))], objs := [(false, .tg (.int .i64) 3), (false, .tg (.int .i64) 3)] } (.leaf) (.leaf)))))) (.leaf))) (.seq (.leaf) (.cond (.join false { env := [(0, (.d .str)), (2, (.gs 0 (.int .i64))), (3, (.gs 1 (.int .i64))), (4, (.d (.int .i64))), (6, (.d (.int .i64)))], objs := [(false, .tg (.int .i64) 3), (false, .tg (.int .i64) 3)] } (.leaf) (.leaf)) (.leaf)))))))))) (.leaf)))))) (.leaf)))
def H_lcomments : Nat → RH := fun r => match r with
 | 12 => { H := { ty := [(50, (.int .i64))] } }
 | 17 => { H := { ty := [(67, (.int .i64))] } }
 | 26 => { H := { ty := [(96, (.int .i64))] } }
 | 37 => { H := { ty := [(124, (.int .i64))] } }
 | _ => {}
noncomputable def S_lcomments : Sig := .n [(.d .str)] (.tup [(.d (.slice (.int .i64))), (.d (.slice (.int .i64)))]) (fun x => G_lcomments x.1)
theorem S_lcomments_ok : SigOK CX 49 S_lcomments := sigN_of (l := [(73, S_indexByte), (74, S_lastIdx), (75, S_trimB)]) ⟨S_indexByte_ok, S_lastIdx_ok, S_trimB_ok, trivial⟩ (hint := H_lcomments) (an := A_lcomments) (fun x => by kernel_rfl)
noncomputable def G_lcomment (x0 : List UInt8) (x1 : Int) : Option (List UInt8) := (
 cond (slOK x1 (x0.length : Int) x0.length) (Option.bind (α := (List UInt8) × (List UInt8) × Bool × Unit) (G_sCut ((x0.drop x1.toNat).take ((x0.length : Int).toNat - x1.toNat)) ([10])) fun r1 => (
 Option.bind (α := List UInt8) (trimRBF (r1.1) ([32, 9])) fun r2 => (
 some r2))) none)
def A_lcomment : An := .leaf
def H_lcomment : Nat → RH := fun _ => {}
noncomputable def S_lcomment : Sig := .n [(.d .str), (.d (.int .i64))] (.d .str) (fun x => G_lcomment x.1 x.2.1)
theorem S_lcomment_ok : SigOK CX 50 S_lcomment := sigN_of (l := [(76, S_sCut), (77, S_trimRB)]) ⟨S_sCut_ok, S_trimRB_ok, trivial⟩ (hint := H_lcomment) (an := A_lcomment) (fun x => by kernel_rfl)
noncomputable def G_lpieces (x0 : List UInt8) : Option ((List ((List UInt8) × Fm)) × Int × Unit) := (
 Option.bind (α := (List Fm) × Int × Unit) (G_readA x0) fun r1 => (
 cond (!decide (r1.2.1 = 0)) (some (([] : List ((List UInt8) × Fm)), r1.2.1, ())) (Option.bind (α := (List Int) × (List Int) × Unit) (G_lcomments x0) fun r2 => (
 Option.bind (α := ((List UInt8) × (List Int) × Unit × Unit) × ((List ((List UInt8) × Fm)) × Unit))
 (loopM (L := ((List UInt8) × (List Int) × (List Int) × Unit × (List Fm) × Int × Int × Unit) × ((List ((List UInt8) × Fm)) × Unit)) (R := ((List UInt8) × (List Int) × Unit × Unit) × ((List ((List UInt8) × Fm)) × Unit)) (fun d3 => (
 let l4 := d3.2.1
 let v0_5 := d3.1.1
 let v6_6 := d3.1.2.1
 let v7_7 := d3.1.2.2.1
 let v26_8 := d3.1.2.2.2.2.1
 let v27_9 := d3.1.2.2.2.2.2.1
 let v28_10 := d3.1.2.2.2.2.2.2.1
 cond (decide (v28_10 < v27_9)) (Option.bind (α := ((List UInt8) × (List Int) × (List Int) × Unit × (List Fm) × Int × Int × Unit) × ((List ((List UInt8) × Fm)) × Unit))
 (cond (ixOK v28_10 v26_8.length) (Option.bind (α := ((List UInt8) × (List Int) × (List Int) × Unit × Unit × (List Fm) × Int × Int × Unit) × ((List ((List UInt8) × Fm)) × (Int × Int × (List UInt8) × (List Fm) × Unit) × Unit))
 (loopM (L := ((List UInt8) × (List Int) × (List Int) × Unit × Int × Unit × (List Fm) × Int × Int × Unit) × ((List ((List UInt8) × Fm)) × (Int × Int × (List UInt8) × (List Fm) × Unit) × Unit)) (R := ((List UInt8) × (List Int) × (List Int) × Unit × Unit × (List Fm) × Int × Int × Unit) × ((List ((List UInt8) × Fm)) × (Int × Int × (List UInt8) × (List Fm) × Unit) × Unit)) (fun d11 => (
 let l12 := d11.2.1
 let c13 := d11.2.2.1.1
 let c14 := d11.2.2.1.2.1
 let c15 := d11.2.2.1.2.2.1
 let c16 := d11.2.2.1.2.2.2.1
 let v0_17 := d11.1.1
 let v6_18 := d11.1.2.1
 let v7_19 := d11.1.2.2.1
 let v9_20 := d11.1.2.2.2.2.1
 let v26_21 := d11.1.2.2.2.2.2.2.1
 let v27_22 := d11.1.2.2.2.2.2.2.2.1
 let v28_23 := d11.1.2.2.2.2.2.2.2.2.1
 cond ((ixOK 0 v6_18.length) || !(decide ((v6_18.length : Int) > 0))) (cond ((ixOK v9_20 v7_19.length) || !(decide ((v6_18.length : Int) > 0))) (cond (cond (decide ((v6_18.length : Int) > 0)) (decide ((v6_18.getD (0 : Int).toNat (0 : Int)) < (v7_19.getD v9_20.toNat (0 : Int)))) false) (cond (ixOK 0 v6_18.length) (Option.bind (α := List UInt8) (G_lcomment v0_17 (v6_18.getD (0 : Int).toNat (0 : Int))) fun r24 => (
 cond (decide ((l12.length + ([(r24, (Fm.mk 0 0 ([]) ([] : List Fm)))]).length) * 72 ≤ 140737488355328)) (cond (slOK 1 (v6_18.length : Int) v6_18.length) (some (Step.next ((v0_17, (v6_18.drop (1 : Int).toNat).take ((v6_18.length : Int).toNat - (1 : Int).toNat), v7_19, (), v9_20, (), v26_21, v27_22, v28_23, ()), (l12 ++ ([(r24, (Fm.mk 0 0 ([]) ([] : List Fm)))]), (c13, c14, c15, c16, ()), ())))) none) none)) none) (some (Step.done ((v0_17, v6_18, v7_19, (), (), v26_21, v27_22, v28_23, ()), (l12, (c13, c14, c15, c16, ()), ()))))) none) none)) ((v0_5, v6_6, v7_7, (), v28_10, (), v26_8, v27_9, v28_10, ()), (l4, ((v26_8.getD v28_10.toNat (Fm.mk 0 0 [] [])).k, (v26_8.getD v28_10.toNat (Fm.mk 0 0 [] [])).n, (v26_8.getD v28_10.toNat (Fm.mk 0 0 [] [])).t, (v26_8.getD v28_10.toNat (Fm.mk 0 0 [] [])).l, ()), ()))) fun d25 => (
 let l26 := d25.2.1
 let c27 := d25.2.2.1.1
 let c28 := d25.2.2.1.2.1
 let c29 := d25.2.2.1.2.2.1
 let c30 := d25.2.2.1.2.2.2.1
 let v0_31 := d25.1.1
 let v6_32 := d25.1.2.1
 let v7_33 := d25.1.2.2.1
 let v26_34 := d25.1.2.2.2.2.2.1
 let v27_35 := d25.1.2.2.2.2.2.2.1
 let v28_36 := d25.1.2.2.2.2.2.2.2.1
 cond (decide ((l26.length + ([(([] : List UInt8), (Fm.mk c27 c28 c29 c30))]).length) * 72 ≤ 140737488355328)) (some ((v0_31, v6_32, v7_33, (), v26_34, v27_35, v28_36, ()), (l26 ++ ([(([] : List UInt8), (Fm.mk c27 c28 c29 c30))]), ()))) none)) none) fun d37 => (
 let l38 := d37.2.1
 let v0_39 := d37.1.1
 let v6_40 := d37.1.2.1
 let v7_41 := d37.1.2.2.1
 let v26_42 := d37.1.2.2.2.2.1
 let v27_43 := d37.1.2.2.2.2.2.1
 let v28_44 := d37.1.2.2.2.2.2.2.1
 some (Step.next ((v0_39, v6_40, v7_41, (), v26_42, v27_43, IntKind.wrap .i64 (v28_44 + 1), ()), (l38, ()))))) (some (Step.done ((v0_5, v6_6, (), ()), (l4, ())))))) ((x0, r2.1, r2.2.1, (), r1.1, (r1.1.length : Int), 0, ()), (([] : List ((List UInt8) × Fm)), ()))) fun d45 => (
 let l46 := d45.2.1
 let v0_47 := d45.1.1
 let v6_48 := d45.1.2.1
 Option.bind (α := (Unit × Unit) × ((List ((List UInt8) × Fm)) × Unit))
 (loopM (L := ((List UInt8) × Unit × (List Int) × Int × Int × Unit) × ((List ((List UInt8) × Fm)) × Unit)) (R := (Unit × Unit) × ((List ((List UInt8) × Fm)) × Unit)) (fun d49 => (
 let l50 := d49.2.1
 let v0_51 := d49.1.1
 let v63_52 := d49.1.2.2.1
 let v64_53 := d49.1.2.2.2.1
 let v65_54 := d49.1.2.2.2.2.1
 cond (decide (v65_54 < v64_53)) (cond (ixOK v65_54 v63_52.length) (Option.bind (α := List UInt8) (G_lcomment v0_51 (v63_52.getD v65_54.toNat (0 : Int))) fun r55 => (
 cond (decide ((l50.length + ([(r55, (Fm.mk 0 0 ([]) ([] : List Fm)))]).length) * 72 ≤ 140737488355328)) (some (Step.next ((v0_51, (), v63_52, v64_53, IntKind.wrap .i64 (v65_54 + 1), ()), (l50 ++ ([(r55, (Fm.mk 0 0 ([]) ([] : List Fm)))]), ())))) none)) none) (some (Step.done (((), ()), (l50, ())))))) ((v0_47, (), v6_48, (v6_48.length : Int), 0, ()), (l46, ()))) fun d56 => (
 let l57 := d56.2.1
 some (l57, 0, ())))))))
def A_lpieces : An := .seq (.leaf) (.seq (.leaf) (.seq (.leaf) (.seq (.leaf) (.seq (.leaf) (.join false { env := [(0, (.d .str)), (6, (.d (.slice (.int .i64)))), (8, (.gs 0 (.pr .str .form)))], objs := [(false, .tg (.pr .str .form) 58)] } (.seq (.leaf) (.block (.loop { env := [(0, (.d .str)), (6, (.d (.slice (.int .i64)))), (7, (.d (.slice (.int .i64)))), (8, (.gs 0 (.pr .str .form))), (26, (.d (.slice .form))), (27, (.d (.int .i64))), (28, (.d (.int .i64)))], objs := [(false, .tg (.pr .str .form) 58)] } (.seq (.leaf) (.seq (.leaf) (.join false { env := [(0, (.d .str)), (6, (.d (.slice (.int .i64)))), (7, (.d (.slice (.int .i64)))), (8, (.gs 0 (.pr .str .form))), (26, (.d (.slice .form))), (27, (.d (.int .i64))), (28, (.d (.int .i64)))], objs := [(false, .tg (.pr .str .form) 58)] } (.block (.seq (.leaf) (.join false { env := [(0, (.d .str)), (6, (.d (.slice (.int .i64)))), (7, (.d (.slice (.int .i64)))), (8, (.gs 0 (.pr .str .form))), (10, (.ref 1 0)), (26, (.d (.slice .form))), (27, (.d (.int .i64))), (28, (.d (.int .i64)))], objs := [(false, .tg (.pr .str .form) 58), (false, .cells 24 [(.d (.int .i64)), (.d (.int .i64)), (.d .str), (.d (.slice .form))])] } (.block (.loop { env := [(0, (.d .str)), (6, (.d (.slice (.int .i64)))), (7, (.d (.slice (.int .i64)))), (8, (.gs 0 (.pr .str .form))), (9, (.d (.int .i64))), (10, (.ref 1 0)), (26, (.d (.slice .form))), (27, (.d (.int .i64))), (28, (.d (.int .i64)))], objs := [(false, .tg (.pr .str .form) 58), (false, .cells 24 [(.d (.int .i64)), (.d (.int .i64)), (.d .str), (.d (.slice .form))])] } (.leaf))) (.leaf)))) (.leaf))))))) (.join false { env := [(8, (.gs 0 (.pr .str .form)))], objs := [(false, .tg (.pr .str .form) 58)] } (.seq (.leaf) (.block (.loop { env := [(0, (.d .str)), (8, (.gs 0 (.pr .str .form))), (63, (.d (.slice (.int .i64)))), (64, (.d (.int .i64))), (65, (.d (.int .i64)))], objs := [(false, .tg (.pr .str .form) 58)] } (.leaf)))) (.leaf)))))))
def H_lpieces : Nat → RH := fun r => match r with
 | 9 => { H := { pl := [39, 43] } }
 | 10 => { H := { ty := [(54, (.pr .str .form))] } }
 | 12 => { H := { ty := [(61, (.pr .str .form))] } }
 | 17 => { H := { ty := [(75, (.pr .str .form))] } }
 | _ => {}
noncomputable def S_lpieces : Sig := .n [(.d .str)] (.tup [(.d (.slice (.pr .str .form))), (.d (.int .i64))]) (fun x => G_lpieces x.1)
theorem S_lpieces_ok : SigOK CX 29 S_lpieces := sigN_of (l := [(36, S_readA), (49, S_lcomments), (50, S_lcomment)]) ⟨S_readA_ok, S_lcomments_ok, S_lcomment_ok, trivial⟩ (hint := H_lpieces) (an := A_lpieces) (fun x => by kernel_rfl)
noncomputable def G_layText (x0 : List UInt8) (x1 : Int) : Option ((List UInt8) × Int × Unit) := (
 Option.bind (α := Bool) (G_isWidth x1) fun r1 => (
 cond (!r1) (some ([], 1, ())) (Option.bind (α := (List ((List UInt8) × Fm)) × Int × Unit) (G_lpieces x0) fun r2 => (
 cond (!decide (r2.2.1 = 0)) (some ([], r2.2.1, ())) (Option.bind (α := (Unit × Unit) × ((Bool × Unit × Unit) × (List Int) × Unit))
 (loopM (L := (Int × (List ((List UInt8) × Fm)) × Unit × Bool × (List ((List UInt8) × Fm)) × Int × Int × Unit) × ((Bool × Unit × Unit) × (List Int) × Unit)) (R := (Unit × Unit) × ((Bool × Unit × Unit) × (List Int) × Unit)) (fun d3 => (
 let l4 := d3.2.2.1
 let v1_5 := d3.1.1
 let v6_6 := d3.1.2.1
 let v9_7 := d3.1.2.2.2.1
 let v27_8 := d3.1.2.2.2.2.1
 let v28_9 := d3.1.2.2.2.2.2.1
 let v29_10 := d3.1.2.2.2.2.2.2.1
 cond (decide (v29_10 < v28_9)) (Option.bind (α := (Int × (List ((List UInt8) × Fm)) × Unit × Bool × (List ((List UInt8) × Fm)) × Int × Int × Unit) × ((Bool × Unit × Unit) × (List Int) × Unit))
 (cond (ixOK v29_10 v27_8.length) (cond ((ixOK (IntKind.wrap .i64 (v29_10 - 1)) v6_6.length) || !(decide (v29_10 > 0))) (cond (!decide ((v27_8.getD v29_10.toNat (([] : List UInt8), (Fm.mk 0 0 [] []))).1 = [])) (Option.bind (α := (Int × (List ((List UInt8) × Fm)) × Unit × Bool × Unit × (List ((List UInt8) × Fm)) × Int × Int × Unit) × ((Bool × Unit × Unit) × ((List UInt8) × Int × Int × (List UInt8) × (List Fm) × Unit) × (List Int) × Unit))
 (cond (cond (decide (v29_10 > 0)) (!(cond (decide (v29_10 > 0)) (!decide ((v6_6.getD (IntKind.wrap .i64 (v29_10 - 1)).toNat (([] : List UInt8), (Fm.mk 0 0 [] []))).1 = [])) false)) false) (Option.bind (α := (Bool) × ((Bool × Unit × Unit) × (List Int) × Unit)) (G_bldByte 10 (d3.2.1.1, (), ()) l4) fun r11 => (
 some ((v1_5, v6_6, (), v9_7, (), v27_8, v28_9, v29_10, ()), ((r11.2.1.1, (), ()), ((v27_8.getD v29_10.toNat (([] : List UInt8), (Fm.mk 0 0 [] []))).1, ((v27_8.getD v29_10.toNat (([] : List UInt8), (Fm.mk 0 0 [] []))).2).k, ((v27_8.getD v29_10.toNat (([] : List UInt8), (Fm.mk 0 0 [] []))).2).n, ((v27_8.getD v29_10.toNat (([] : List UInt8), (Fm.mk 0 0 [] []))).2).t, ((v27_8.getD v29_10.toNat (([] : List UInt8), (Fm.mk 0 0 [] []))).2).l, ()), r11.2.2.1, ())))) (some ((v1_5, v6_6, (), v9_7, (), v27_8, v28_9, v29_10, ()), ((d3.2.1.1, (), ()), ((v27_8.getD v29_10.toNat (([] : List UInt8), (Fm.mk 0 0 [] []))).1, ((v27_8.getD v29_10.toNat (([] : List UInt8), (Fm.mk 0 0 [] []))).2).k, ((v27_8.getD v29_10.toNat (([] : List UInt8), (Fm.mk 0 0 [] []))).2).n, ((v27_8.getD v29_10.toNat (([] : List UInt8), (Fm.mk 0 0 [] []))).2).t, ((v27_8.getD v29_10.toNat (([] : List UInt8), (Fm.mk 0 0 [] []))).2).l, ()), l4, ())))) fun d12 => (
 let c13 := d12.2.2.1.1
 let c14 := d12.2.2.1.2.1
 let c15 := d12.2.2.1.2.2.1
 let c16 := d12.2.2.1.2.2.2.1
 let c17 := d12.2.2.1.2.2.2.2.1
 let l18 := d12.2.2.2.1
 let v1_19 := d12.1.1
 let v6_20 := d12.1.2.1
 let v9_21 := d12.1.2.2.2.1
 let v27_22 := d12.1.2.2.2.2.2.1
 let v28_23 := d12.1.2.2.2.2.2.2.1
 let v29_24 := d12.1.2.2.2.2.2.2.2.1
 cond (decide (c13.length + ([10]).length ≤ 9223372036854775807)) (Option.bind (α := (Int × Bool × Unit) × ((Bool × Unit × Unit) × (List Int) × Unit)) (G_bldStr (c13 ++ ([10])) (d12.2.1.1, (), ()) l18) fun r25 => (
 some ((v1_19, v6_20, (), v9_21, v27_22, v28_23, v29_24, ()), ((r25.2.1.1, (), ()), r25.2.2.1, ())))) none)) (Option.bind (α := (List UInt8) × Int × Unit) (G_layFormat (Fm.eta ((v27_8.getD v29_10.toNat (([] : List UInt8), (Fm.mk 0 0 [] []))).2)) v1_5) fun r26 => (
 Option.bind (α := Bool) (G_sContains r26.1 ([10])) fun r27 => (
 Option.bind (α := (Int × (List ((List UInt8) × Fm)) × Unit × (List UInt8) × Bool × (List ((List UInt8) × Fm)) × Int × Int × Unit) × ((Bool × Unit × Unit) × (List Int) × Unit))
 (cond (cond (cond (cond (decide (v29_10 > 0)) (!(cond (decide (v29_10 > 0)) (!decide ((v6_6.getD (IntKind.wrap .i64 (v29_10 - 1)).toNat (([] : List UInt8), (Fm.mk 0 0 [] []))).1 = [])) false)) false) v9_7 false) r27 false) (Option.bind (α := (Bool) × ((Bool × Unit × Unit) × (List Int) × Unit)) (G_bldByte 10 (d3.2.1.1, (), ()) l4) fun r28 => (
 some ((v1_5, v6_6, (), r26.1, r27, v27_8, v28_9, v29_10, ()), ((r28.2.1.1, (), ()), r28.2.2.1, ())))) (some ((v1_5, v6_6, (), r26.1, r27, v27_8, v28_9, v29_10, ()), ((d3.2.1.1, (), ()), l4, ())))) fun d29 => (
 let l30 := d29.2.2.1
 let v1_31 := d29.1.1
 let v6_32 := d29.1.2.1
 let v13_33 := d29.1.2.2.2.1
 let v15_34 := d29.1.2.2.2.2.1
 let v27_35 := d29.1.2.2.2.2.2.1
 let v28_36 := d29.1.2.2.2.2.2.2.1
 let v29_37 := d29.1.2.2.2.2.2.2.2.1
 cond (decide (v13_33.length + ([10]).length ≤ 9223372036854775807)) (Option.bind (α := (Int × Bool × Unit) × ((Bool × Unit × Unit) × (List Int) × Unit)) (G_bldStr (v13_33 ++ ([10])) (d29.2.1.1, (), ()) l30) fun r38 => (
 some ((v1_31, v6_32, (), v15_34, v27_35, v28_36, v29_37, ()), ((r38.2.1.1, (), ()), r38.2.2.1, ())))) none))))) none) none) fun d39 => (
 let l40 := d39.2.2.1
 let v1_41 := d39.1.1
 let v6_42 := d39.1.2.1
 let v9_43 := d39.1.2.2.2.1
 let v27_44 := d39.1.2.2.2.2.1
 let v28_45 := d39.1.2.2.2.2.2.1
 let v29_46 := d39.1.2.2.2.2.2.2.1
 some (Step.next ((v1_41, v6_42, (), v9_43, v27_44, v28_45, IntKind.wrap .i64 (v29_46 + 1), ()), ((d39.2.1.1, (), ()), l40, ()))))) (some (Step.done (((), ()), ((d3.2.1.1, (), ()), l4, ())))))) ((x1, r2.1, (), false, r2.1, (r2.1.length : Int), 0, ()), ((false, (), ()), ([] : List Int), ()))) fun d47 => (
 let l48 := d47.2.2.1
 Option.bind (α := (List UInt8) × (Unit)) (Option.map (fun s => (s, ())) (bytesOf (l48))) fun r49 => (
 some (r49.1, 0, ()))))))))
def A_layText : An := .seq (.leaf) (.seq (.leaf) (.seq (.leaf) (.seq (.leaf) (.seq (.leaf) (.seq (.leaf) (.join false { env := [(8, (.ref 0 0))], objs := [(false, .cells 48 [(.mref 0 0), (.gs 1 (.int .u8))]), (false, .tg (.int .u8) 5)] } (.seq (.leaf) (.block (.loop { env := [(1, (.d (.int .i64))), (6, (.d (.slice (.pr .str .form)))), (8, (.ref 0 0)), (9, (.d .bool)), (27, (.d (.slice (.pr .str .form)))), (28, (.d (.int .i64))), (29, (.d (.int .i64)))], objs := [(false, .cells 48 [(.mref 0 0), (.gs 1 (.int .u8))]), (false, .tg (.int .u8) 5)] } (.seq (.leaf) (.seq (.leaf) (.join false { env := [(1, (.d (.int .i64))), (6, (.d (.slice (.pr .str .form)))), (8, (.ref 0 0)), (9, (.d .bool)), (27, (.d (.slice (.pr .str .form)))), (28, (.d (.int .i64))), (29, (.d (.int .i64)))], objs := [(false, .cells 48 [(.mref 0 0), (.gs 1 (.int .u8))]), (false, .tg (.int .u8) 5)] } (.block (.seq (.leaf) (.seq (.leaf) (.seq (.seq (.leaf) (.cond (.join false { env := [(1, (.d (.int .i64))), (6, (.d (.slice (.pr .str .form)))), (8, (.ref 0 0)), (9, (.d .bool)), (11, (.ref 1 0)), (27, (.d (.slice (.pr .str .form)))), (28, (.d (.int .i64))), (29, (.d (.int .i64)))], objs := [(false, .cells 48 [(.mref 0 0), (.gs 2 (.int .u8))]), (false, .cells 58 [(.d .str), (.d (.int .i64)), (.d (.int .i64)), (.d .str), (.d (.slice .form))]), (false, .tg (.int .u8) 5)] } (.leaf) (.leaf)) (.leaf))) (.seq (.leaf) (.seq (.leaf) (.join false { env := [(1, (.d (.int .i64))), (6, (.d (.slice (.pr .str .form)))), (8, (.ref 0 0)), (13, (.d .str)), (15, (.d .bool)), (27, (.d (.slice (.pr .str .form)))), (28, (.d (.int .i64))), (29, (.d (.int .i64)))], objs := [(false, .cells 48 [(.mref 0 0), (.gs 1 (.int .u8))]), (false, .tg (.int .u8) 5)] } (.leaf) (.leaf)))))))) (.leaf))))))) (.leaf)))))))
def H_layText : Nat → RH := fun r => match r with
 | 14 => { H := { ac := [54] } }
 | 15 => { H := { ac := [58] } }
 | 19 => { H := { ac := [80] } }
 | 20 => { H := { ac := [83] } }
 | 23 => { H := { ac := [86] } }
 | _ => {}
noncomputable def S_layText : Sig := .n [(.d .str), (.d (.int .i64))] (.tup [(.d .str), (.d (.int .i64))]) (fun x => G_layText x.1 x.2.1)
theorem S_layText_ok : SigOK CX 12 S_layText := sigN_of (l := [(23, S_isWidth), (29, S_lpieces), (30, S_bldByte), (31, S_bldStr), (9, S_layFormat), (32, S_sContains), (26, S_string)]) ⟨S_isWidth_ok, S_lpieces_ok, S_bldByte_ok, S_bldStr_ok, S_layFormat_ok, S_sContains_ok, S_string_ok, trivial⟩ (hint := H_layText) (an := A_layText) (fun x => by kernel_rfl)
noncomputable def G_laySame (x0 : List UInt8) (x1 : List UInt8) : Option (Bool × Int × Unit) := (
 Option.bind (α := (List Fm) × Int × Unit) (G_readA x0) fun r1 => (
 cond (!decide (r1.2.1 = 0)) (some (false, r1.2.1, ())) (Option.bind (α := (List Fm) × Int × Unit) (G_readA x1) fun r2 => (
 cond (!decide (r2.2.1 = 0)) (some (false, r2.2.1, ())) (Option.bind (α := Bool) (G_requal (Fm.mk 3 0 ([]) r1.1) (Fm.mk 3 0 ([]) r2.1)) fun r3 => (
 some (r3, 0, ())))))))
def A_laySame : An := .leaf
def H_laySame : Nat → RH := fun _ => {}
noncomputable def S_laySame : Sig := .n [(.d .str), (.d .str)] (.tup [(.d .bool), (.d (.int .i64))]) (fun x => G_laySame x.1 x.2.1)
theorem S_laySame_ok : SigOK CX 17 S_laySame := sigN_of (l := [(36, S_readA), (38, S_requal)]) ⟨S_readA_ok, S_requal_ok, trivial⟩ (hint := H_laySame) (an := A_laySame) (fun x => by kernel_rfl)
noncomputable def G_layComments (x0 : List UInt8) : Option ((List (List UInt8)) × Int × Unit) := (
 Option.bind (α := (List ((List UInt8) × Fm)) × Int × Unit) (G_lpieces x0) fun r1 => (
 cond (!decide (r1.2.1 = 0)) (some (([] : List (List UInt8)), r1.2.1, ())) (Option.bind (α := (Unit × Unit) × ((List (List UInt8)) × Unit))
 (loopM (L := (Unit × (List ((List UInt8) × Fm)) × Int × Int × Unit) × ((List (List UInt8)) × Unit)) (R := (Unit × Unit) × ((List (List UInt8)) × Unit)) (fun d2 => (
 let l3 := d2.2.1
 let v17_4 := d2.1.2.1
 let v18_5 := d2.1.2.2.1
 let v19_6 := d2.1.2.2.2.1
 cond (decide (v19_6 < v18_5)) (Option.bind (α := (Unit × (List ((List UInt8) × Fm)) × Int × Int × Unit) × ((List (List UInt8)) × Unit))
 (cond (ixOK v19_6 v17_4.length) (cond (!decide ((v17_4.getD v19_6.toNat (([] : List UInt8), (Fm.mk 0 0 [] []))).1 = [])) (cond (decide ((l3.length + ([(v17_4.getD v19_6.toNat (([] : List UInt8), (Fm.mk 0 0 [] []))).1]).length) * 16 ≤ 140737488355328)) (some (((), v17_4, v18_5, v19_6, ()), (l3 ++ ([(v17_4.getD v19_6.toNat (([] : List UInt8), (Fm.mk 0 0 [] []))).1]), ()))) none) (some (((), v17_4, v18_5, v19_6, ()), (l3, ())))) none) fun d7 => (
 let l8 := d7.2.1
 let v17_9 := d7.1.2.1
 let v18_10 := d7.1.2.2.1
 let v19_11 := d7.1.2.2.2.1
 some (Step.next (((), v17_9, v18_10, IntKind.wrap .i64 (v19_11 + 1), ()), (l8, ()))))) (some (Step.done (((), ()), (l3, ())))))) (((), r1.1, (r1.1.length : Int), 0, ()), (([] : List (List UInt8)), ()))) fun d12 => (
 let l13 := d12.2.1
 some (l13, 0, ())))))
def A_layComments : An := .seq (.leaf) (.seq (.leaf) (.seq (.leaf) (.seq (.leaf) (.join false { env := [(6, (.gs 0 .str))], objs := [(false, .tg .str 9)] } (.seq (.leaf) (.block (.loop { env := [(6, (.gs 0 .str)), (17, (.d (.slice (.pr .str .form)))), (18, (.d (.int .i64))), (19, (.d (.int .i64)))], objs := [(false, .tg .str 9)] } (.seq (.leaf) (.seq (.leaf) (.join false { env := [(6, (.gs 0 .str)), (17, (.d (.slice (.pr .str .form)))), (18, (.d (.int .i64))), (19, (.d (.int .i64)))], objs := [(false, .tg .str 9)] } (.leaf) (.leaf))))))) (.leaf)))))
def H_layComments : Nat → RH := fun r => match r with
 | 9 => { H := { ty := [(30, .str)] } }
 | _ => {}
noncomputable def S_layComments : Sig := .n [(.d .str)] (.tup [(.d (.slice .str)), (.d (.int .i64))]) (fun x => G_layComments x.1)
theorem S_layComments_ok : SigOK CX 18 S_layComments := sigN_of (l := [(29, S_lpieces)]) ⟨S_lpieces_ok, trivial⟩ (hint := H_layComments) (an := A_layComments) (fun x => by kernel_rfl)
noncomputable def G_sane02  : Option (Bool) := (
 Option.bind (α := (List UInt8) × Int × Unit) (G_layText ([40, 102, 32, 32, 32, 49, 41]) 40) fun r1 => (
 some (cond (decide (r1.2.1 = 0)) (decide (r1.1 = [40, 102, 32, 49, 41, 10])) false)))
def A_sane02 : An := .leaf
def H_sane02 : Nat → RH := fun _ => {}
noncomputable def S_sane02 : Sig := .n [] (.d .bool) (fun x => G_sane02 )
theorem S_sane02_ok : SigOK CX 11 S_sane02 := sigN_of (l := [(12, S_layText)]) ⟨S_layText_ok, trivial⟩ (hint := H_sane02) (an := A_sane02) (fun x => by kernel_rfl)
noncomputable def G_lawTwice (x0 : List UInt8) (x1 : Int) : Option (Bool) := (
 Option.bind (α := (List UInt8) × Int × Unit) (G_layText x0 x1) fun r1 => (
 cond (cond (!decide (r1.2.1 = 0)) true (decide ((r1.1.length : Int) > 60000))) (Option.bind (α := Bool) (G_sane02) fun r2 => (
 some r2)) (Option.bind (α := (List UInt8) × Int × Unit) (G_layText r1.1 x1) fun r3 => (
 cond (cond (!decide (r3.2.1 = 0)) true (!decide (r1.1 = r3.1))) (some false) (Option.bind (α := Bool × Int × Unit) (G_laySame x0 r1.1) fun r4 => (
 cond (cond (!decide (r4.2.1 = 0)) true (!r4.1)) (some false) (Option.bind (α := (List (List UInt8)) × Int × Unit) (G_layComments x0) fun r5 => (
 Option.bind (α := (List (List UInt8)) × Int × Unit) (G_layComments r1.1) fun r6 => (
 cond (cond (cond (!decide (r5.2.1 = 0)) true (!decide (r6.2.1 = 0))) true (!decide ((r5.1.length : Int) = (r6.1.length : Int)))) (some false) (Option.bind (α := Step ((Unit) × (Unit)) (Bool))
 (loopM (L := ((List (List UInt8)) × (List (List UInt8)) × Int × Unit) × (Unit)) (R := Step ((Unit) × (Unit)) (Bool)) (fun d7 => (
 let v9_8 := d7.1.1
 let v10_9 := d7.1.2.1
 let v12_10 := d7.1.2.2.1
 cond (decide (v12_10 < (v9_8.length : Int))) (cond (ixOK v12_10 v9_8.length) (cond (ixOK v12_10 v10_9.length) (cond (!decide ((v9_8.getD v12_10.toNat ([] : List UInt8)) = (v10_9.getD v12_10.toNat ([] : List UInt8)))) (some (Step.done (Step.done false))) (some (Step.next ((v9_8, v10_9, IntKind.wrap .i64 (v12_10 + 1), ()), ())))) none) none) (some (Step.done (Step.next ((), ())))))) ((r5.1, r6.1, 0, ()), ())) fun qd11 => match qd11 with
 | .next d11 => (
 Option.bind (α := Bool) (G_sane02) fun r12 => (
 some r12))
 | .done r => some r))))))))))
def A_lawTwice : An := .seq (.leaf) (.seq (.leaf) (.seq (.leaf) (.seq (.leaf) (.seq (.leaf) (.seq (.leaf) (.seq (.leaf) (.seq (.leaf) (.seq (.leaf) (.seq (.leaf) (.join true { env := [], objs := [] } (.seq (.leaf) (.block (.loop { env := [(9, (.d (.slice .str))), (10, (.d (.slice .str))), (12, (.d (.int .i64)))], objs := [] } (.leaf)))) (.leaf)))))))))))
def H_lawTwice : Nat → RH := fun r => match r with
 | 17 => { H := { pl := [84, 88] } }
 | _ => {}
noncomputable def S_lawTwice : Sig := .n [(.d .str), (.d (.int .i64))] (.d .bool) (fun x => G_lawTwice x.1 x.2.1)
theorem S_lawTwice_ok : SigOK CX 7 S_lawTwice := sigN_of (l := [(12, S_layText), (11, S_sane02), (17, S_laySame), (18, S_layComments)]) ⟨S_layText_ok, S_sane02_ok, S_laySame_ok, S_layComments_ok, trivial⟩ (hint := H_lawTwice) (an := A_lawTwice) (fun x => by kernel_rfl)
end Go.Ab

set_option maxRecDepth 100000
namespace Go.Ab
open Go Go.RowKit Go.Proofs
def visS (c : UInt8) : Bool := !outsideS c
def wrdF (w : List UInt8) : Fm := .mk 1 0 w []
def nuF (n : Int) : Fm := .mk 0 n [] []
def tokS (num : List UInt8 → Int × Int) (w : List UInt8) : Int ⊕ Fm :=
 if numericS w = true then (if (num w).2 = 0 then .inr (nuF (num w).1) else .inl (num w).2)
 else if w.length > 30 then .inl 4 else .inr (wrdF w)
theorem yout (c : UInt8) : outsideF ((c.toNat : Nat) : Int) = some (outsideS c) := by
 unfold outsideF
 have := c.toNat_lt
 rw [if_pos (by omega)]
 congr 2
 simp
def NextQ (num : List UInt8 → Int × Int) (s : List UInt8) (i0 : Nat) (v : ((Int × Fm) × Bool × Int × Unit) × (((List UInt8) × Int × Unit) × Unit)) : List UInt8 → Prop
 | [] => v = (((0, Fm.mk 0 0 [] []), false, 0, ()), ((s, (s.length : Int), ()), ()))
 | c :: r =>
  if c = 40 ∨ c = 41 then ∃ j : Nat, v = (((((c.toNat : Nat) : Int), Fm.mk 0 0 [] []), true, 0, ()), ((s, (j : Int), ()), ())) ∧ i0 < j ∧ j ≤ s.length ∧ s.drop j = r
  else if c = 34 then (match textS r [] with
   | .inl e => e ≠ 0 ∧ ∃ (t : Int × Fm) (a : Bool) (j : Int), v = ((t, a, e, ()), ((s, j, ()), ()))
   | .inr (b, q) => ∃ j : Nat, v = (((0, txtF b), true, 0, ()), ((s, (j : Int), ()), ())) ∧ i0 < j ∧ j ≤ s.length ∧ s.drop j = q)
  else if visS c = true then (match tokS num ((c :: r).takeWhile visS) with
   | .inl e => e ≠ 0 ∧ ∃ (t : Int × Fm) (a : Bool) (j : Int), v = ((t, a, e, ()), ((s, j, ()), ()))
   | .inr f => ∃ j : Nat, v = (((0, f), true, 0, ()), ((s, (j : Int), ()), ())) ∧ i0 < j ∧ j ≤ s.length ∧ s.drop j = (c :: r).dropWhile visS)
  else ∃ (t : Int × Fm) (a : Bool) (j : Int), v = ((t, a, 4, ()), ((s, j, ()), ()))
theorem next_val {num : List UInt8 → Int × Int} {s : List UInt8} {i0 : Nat} (hs : s.length ≤ 1000000000) (h0 : i0 ≤ s.length) (hnum : ∀ w : List UInt8, w.length ≤ s.length → numericS w = true → G_numberA w = some ((num w).1, (num w).2, ())) :
  ∃ v, G_nextA (s, (i0 : Int), ()) = some v ∧ NextQ num s i0 v (skipS false (s.drop i0)) := by
 obtain ⟨i, h1, h2, h3, h4, h5⟩ := skip_val hs h0
 rw [← h4]
 unfold G_nextA
 rw [show G_skip ((s, (i0 : Int), ()).1, (s, (i0 : Int), ()).2.1, ()) = _ from h1]
 simp only [Option.bind_some]
 by_cases hl : i = s.length
 ·have dl : decide ((i : Int) = (s.length : Int)) = true := decide_eq_true (by omega)
  rw [dl, cond_true, List.drop_of_length_le (by omega)]
  exact ⟨_, rfl, by subst hl; rfl⟩
 ·have hi' : i < s.length := by omega
  have dl : decide ((i : Int) = (s.length : Int)) = false := decide_eq_false (by omega)
  have x1 : ixOK (i : Int) s.length = true := ixOK_iff.2 (by omega)
  have q40 : decide (((s[i].toNat : Nat) : Int) = 40) = decide (s[i] = 40) := ybyteD _ 40 (by decide)
  have q41 : decide (((s[i].toNat : Nat) : Int) = 41) = decide (s[i] = 41) := ybyteD _ 41 (by decide)
  have q34 : decide (((s[i].toNat : Nat) : Int) = 34) = decide (s[i] = 34) := ybyteD _ 34 (by decide)
  have hd := ydrop hi'
  rw [hd]
  simp only [dl, cond_false, x1, cond_true, ybyte hi', q40, q41, q34, ywrap (show i < 4611686018427387904 by omega), NextQ]
  by_cases c4 : s[i] = 40 ∨ s[i] = 41
  ·have dd : cond (decide (s[i] = 40)) true (decide (s[i] = 41)) = true := by rcases c4 with h | h <;> simp [h]
   rw [dd, cond_true]
   simp only [if_pos c4]
   exact ⟨_, rfl, i + 1, rfl, by omega, by omega, rfl⟩
  ·have dd : cond (decide (s[i] = 40)) true (decide (s[i] = 41)) = false := by simp only [not_or] at c4; simp [c4.1, c4.2]
   rw [dd, cond_false]
   simp only [if_neg c4]
   by_cases c34 : s[i] = 34
   ·rw [decide_eq_true c34, cond_true]
    simp only [if_pos c34]
    obtain ⟨v, w1, w2⟩ := text_val hs hi'
    rw [w1]
    cases hx : textS (s.drop (i + 1)) [] with
    | inl e =>
     rw [hx] at w2
     obtain ⟨he, j, rfl⟩ := w2
     exact ⟨_, rfl, he, _, _, _, rfl⟩
    | inr p =>
     obtain ⟨b, q⟩ := p
     rw [hx] at w2
     obtain ⟨j, rfl, a1, a2, a3⟩ := w2
     exact ⟨_, rfl, j, rfl, by omega, a2, a3⟩
   ·rw [decide_eq_false c34, cond_false, yout]
    simp only [Option.bind_some, if_neg c34]
    cases ho : outsideS s[i] with
    | true =>
     have hv : ¬ visS s[i] = true := by simp [visS, ho]
     rw [cond_true]
     simp only [if_neg hv]
     exact ⟨_, rfl, _, _, _, rfl⟩
    | false =>
     have hv : visS s[i] = true := by simp [visS, ho]
     rw [cond_false]
     simp only [if_pos hv]
     refine yloop (fun d => ∃ k : Nat, d = (((), (), (i : Int), ()), ((s, (k : Int), ()), (0, 0, 0, [], (), ()), ())) ∧ i ≤ k ∧ k ≤ s.length ∧ (s.drop i).takeWhile visS = (s.drop i).take (k - i) ++ (s.drop k).takeWhile visS ∧ (s.drop i).dropWhile visS = (s.drop k).dropWhile visS) (fun d => s.length - d.2.1.2.1.toNat) _ ?_ ⟨i, rfl, Nat.le_refl _, h3, by simp, rfl⟩
     rintro d ⟨k, rfl, hk1, hk2, hk3, hk4⟩
     simp only [Int.toNat_natCast]
     have sl : slOK (i : Int) (k : Int) s.length = true := slOK_iff.2 (by omega)
     by_cases hk' : k < s.length
     ·have e1 : decide ((k : Int) < (s.length : Int)) = true := by apply decide_eq_true; omega
      have x2 : ixOK (k : Int) s.length = true := ixOK_iff.2 (by omega)
      have hdk := ydrop hk'
      simp only [e1, x2, ybyte hk', yout, cond_true, Bool.true_or, Option.bind_some, ywrap (show k < 4611686018427387904 by omega)]
      cases hok : outsideS s[k] with
      | false =>
       have hvk : visS s[k] = true := by simp [visS, hok]
       simp only [Bool.not_false, cond_true]
       refine .inl ⟨_, rfl, ⟨k + 1, rfl, by omega, by omega, ?_, ?_⟩, by simp only [Int.toNat_natCast]; omega⟩
       ·rw [hk3, hdk, List.takeWhile_cons_of_pos hvk, show k + 1 - i = (k - i) + 1 by omega]
        have hlt : k - i < (s.drop i).length := by rw [List.length_drop]; omega
        rw [List.take_succ_eq_append_getElem hlt, List.append_assoc]
        congr 1
        simp only [List.getElem_drop, List.singleton_append]
        congr 2
        omega
       ·rw [hk4, hdk, List.dropWhile_cons_of_pos hvk]
      | true =>
       have hvk : ¬ visS s[k] = true := by simp [visS, hok]
       have t1 : (s.drop k).takeWhile visS = [] := by rw [hdk, List.takeWhile_cons_of_neg hvk]
       have t2 : (s.drop k).dropWhile visS = s.drop k := by rw [hdk, List.dropWhile_cons_of_neg hvk]
       refine .inr ⟨_, by simp only [Bool.not_true, cond_false]; rfl, ?_⟩
       have hw : (s.drop i).take (k - i) = (s[i] :: s.drop (i + 1)).takeWhile visS := by rw [← hd, hk3, t1, List.append_nil]
       have hq : s.drop k = (s[i] :: s.drop (i + 1)).dropWhile visS := by rw [← hd, hk4, t2]
       have hpos : 0 < k - i := by
        have hne : 0 < ((s.drop i).take (k - i)).length := by rw [hw, List.takeWhile_cons_of_pos hv]; simp
        rw [List.length_take] at hne; omega
       have hwl : ((s.drop i).take (k - i)).length ≤ s.length := by rw [List.length_take, List.length_drop]; omega
       simp only [Int.toNat_natCast, sl, cond_true]
       rw [← hw]
       have hn : numericF ((s.drop i).take (k - i)) = some (numericS ((s.drop i).take (k - i))) := by unfold numericF; rw [if_pos (by omega)]
       rw [hn]
       simp only [Option.bind_some, tokS]
       by_cases hnw : numericS ((s.drop i).take (k - i)) = true
       ·rw [hnw, cond_true, hnum _ hwl hnw]
        refine ⟨_, rfl, ?_⟩
        simp only [if_true]
        by_cases hz : (num ((s.drop i).take (k - i))).2 = 0
        ·simp only [if_pos hz]
         exact ⟨k, by rw [hz]; rfl, by omega, hk2, hq⟩
        ·simp only [if_neg hz]
         exact ⟨hz, _, _, _, rfl⟩
       ·have hnf : numericS ((s.drop i).take (k - i)) = false := by simpa using hnw
        rw [hnf, cond_false]
        by_cases hl30 : ((s.drop i).take (k - i)).length > 30
        ·have d30 : ∀ j : Decidable ((((s.drop i).take (k - i)).length : Int) > 30), @decide _ j = true := fun j => decide_eq_true (by omega)
         rw [d30, cond_true]
         refine ⟨_, rfl, ?_⟩
         simp only [Bool.false_eq_true, if_false, if_pos hl30]
         exact ⟨by decide, _, _, _, rfl⟩
        ·have d30 : ∀ j : Decidable ((((s.drop i).take (k - i)).length : Int) > 30), @decide _ j = false := fun j => decide_eq_false (by omega)
         rw [d30, cond_false]
         refine ⟨_, rfl, ?_⟩
         simp only [Bool.false_eq_true, if_false, if_neg hl30]
         exact ⟨k, rfl, by omega, hk2, hq⟩
     ·have e1 : decide ((k : Int) < (s.length : Int)) = false := by apply decide_eq_false; omega
      have t0 : s.drop k = [] := List.drop_of_length_le (by omega)
      have t1 : (s.drop k).takeWhile visS = [] := by rw [t0]; rfl
      have t2 : (s.drop k).dropWhile visS = s.drop k := by rw [t0]; rfl
      refine .inr ⟨_, by simp only [e1, Bool.not_false, Bool.or_true, cond_true, cond_false, Option.bind_some]; rfl, ?_⟩
      have hw : (s.drop i).take (k - i) = (s[i] :: s.drop (i + 1)).takeWhile visS := by rw [← hd, hk3, t1, List.append_nil]
      have hq : s.drop k = (s[i] :: s.drop (i + 1)).dropWhile visS := by rw [← hd, hk4, t2]
      have hpos : 0 < k - i := by
       have hne : 0 < ((s.drop i).take (k - i)).length := by rw [hw, List.takeWhile_cons_of_pos hv]; simp
       rw [List.length_take] at hne; omega
      have hwl : ((s.drop i).take (k - i)).length ≤ s.length := by rw [List.length_take, List.length_drop]; omega
      simp only [Int.toNat_natCast, sl, cond_true]
      rw [← hw]
      have hn : numericF ((s.drop i).take (k - i)) = some (numericS ((s.drop i).take (k - i))) := by unfold numericF; rw [if_pos (by omega)]
      rw [hn]
      simp only [Option.bind_some, tokS]
      by_cases hnw : numericS ((s.drop i).take (k - i)) = true
      ·rw [hnw, cond_true, hnum _ hwl hnw]
       refine ⟨_, rfl, ?_⟩
       simp only [if_true]
       by_cases hz : (num ((s.drop i).take (k - i))).2 = 0
       ·simp only [if_pos hz]
        exact ⟨k, by rw [hz]; rfl, by omega, hk2, hq⟩
       ·simp only [if_neg hz]
        exact ⟨hz, _, _, _, rfl⟩
      ·have hnf : numericS ((s.drop i).take (k - i)) = false := by simpa using hnw
       rw [hnf, cond_false]
       by_cases hl30 : ((s.drop i).take (k - i)).length > 30
       ·have d30 : ∀ j : Decidable ((((s.drop i).take (k - i)).length : Int) > 30), @decide _ j = true := fun j => decide_eq_true (by omega)
        rw [d30, cond_true]
        refine ⟨_, rfl, ?_⟩
        simp only [Bool.false_eq_true, if_false, if_pos hl30]
        exact ⟨by decide, _, _, _, rfl⟩
       ·have d30 : ∀ j : Decidable ((((s.drop i).take (k - i)).length : Int) > 30), @decide _ j = false := fun j => decide_eq_false (by omega)
        rw [d30, cond_false]
        refine ⟨_, rfl, ?_⟩
        simp only [Bool.false_eq_true, if_false, if_neg hl30]
        exact ⟨k, rfl, by omega, hk2, hq⟩
end Go.Ab

set_option maxRecDepth 100000
namespace Go.Ab
open Go Go.RowKit Go.Proofs
def valD (acc : Nat) (r : List UInt8) : Nat := r.foldl (fun a c => 10 * a + (c.toNat - 48)) acc
theorem valD_cons (acc : Nat) (c : UInt8) (r : List UInt8) : valD acc (c :: r) = valD (10 * acc + (c.toNat - 48)) r := by unfold valD; rw [List.foldl_cons]
theorem valD_nil (acc : Nat) : valD acc [] = acc := by unfold valD; rw [List.foldl_nil]
theorem valD_ge (r : List UInt8) : ∀ acc : Nat, acc ≤ valD acc r := by
 induction r with
 | nil => intro acc; rw [valD_nil]; exact Nat.le_refl _
 | cons c r ih =>
  intro acc
  have h := ih (10 * acc + (c.toNat - 48))
  rw [valD_cons]
  exact Nat.le_trans (by omega) h
theorem digit_iff (c : UInt8) : digitB c = true ↔ 48 ≤ c.toNat ∧ c.toNat ≤ 57 := by
 have : ∀ n : Fin 256, digitB (UInt8.ofFin n) = true ↔ 48 ≤ (UInt8.ofFin n).toNat ∧ (UInt8.ofFin n).toNat ≤ 57 := by decide +kernel
 exact this c.toFin
theorem parse_digits : ∀ (r : List UInt8) (acc : Nat), r.all digitB = true → match Lib.parseUint10 acc r with
  | .ok u => u = valD acc r
  | .range => 18446744073709551616 ≤ valD acc r
  | _ => False
 | [], acc, h => by simp only [Lib.parseUint10, valD_nil]
 | c :: r, acc, h => by
  simp only [List.all_cons, Bool.and_eq_true] at h
  have hc := (digit_iff c).1 h.1
  have hge := valD_ge r (10 * acc + (c.toNat - 48))
  have ih := parse_digits r (10 * acc + (c.toNat - 48)) h.2
  rw [valD_cons]
  generalize valD (10 * acc + (c.toNat - 48)) r = v at hge ih ⊢
  simp only [Lib.parseUint10, if_pos hc]
  by_cases h1 : 1844674407370955162 ≤ acc
  ·rw [if_pos h1]
   show 18446744073709551616 ≤ v
   omega
  ·rw [if_neg h1]
   by_cases h2 : 18446744073709551616 ≤ acc * 10 + (c.toNat - 48)
   ·rw [if_pos h2]
    show 18446744073709551616 ≤ v
    omega
   ·rw [if_neg h2, Nat.mul_comm acc 10]
    exact ih
def numS (w : List UInt8) : Int × Int :=
 if (1 < (cutMinus w).length ∧ (cutMinus w).head? = some 48) ∨ w = [45, 48] then (0, 4)
 else if 1152921504606846976 < valD 0 (cutMinus w) then (0, 5)
 else (if w.head? = some 45 then - (valD 0 (cutMinus w) : Int) else (valD 0 (cutMinus w) : Int), 0)
theorem num_atoi {w : List UInt8} (h : numericS w = true) : (match Lib.atoiAll w with
   | .ok v => if v < -1152921504606846976 ∨ v > 1152921504606846976 then ((0 : Int), (5 : Int)) else (v, 0)
   | _ => (0, 5)) = if 1152921504606846976 < valD 0 (cutMinus w) then (0, 5) else (if w.head? = some 45 then - (valD 0 (cutMinus w) : Int) else (valD 0 (cutMinus w) : Int), 0) := by
 unfold numericS at h
 simp only [Bool.and_eq_true, decide_eq_true_eq] at h
 obtain ⟨hne, hd⟩ := h
 have hp := parse_digits (cutMinus w) 0 hd
 generalize hv : valD 0 (cutMinus w) = V at hp ⊢
 cases w with
 | nil => exact absurd rfl hne
 | cons c r =>
  have hc45 : (c.toNat = 45) ↔ c = 45 := by
   constructor
   ·intro e; exact UInt8.toNat_inj.1 e
   ·intro e; subst e; rfl
  by_cases h45 : c = 45
  ·have hcm : cutMinus (c :: r) = r := by unfold cutMinus; rw [if_pos (by simp [h45])]; rfl
   rw [hcm] at hne hp
   have hh : (c :: r).head? = some 45 := by simp [h45]
   have hn : c.toNat = 45 := hc45.2 h45
   simp only [hh, if_true]
   have hm : Lib.parseMag r = Lib.parseUint10 0 r := by unfold Lib.parseMag; rw [if_neg hne]
   clear hv
   simp only [Lib.atoiAll, hn, or_true, if_true, hm]
   cases hx : Lib.parseUint10 0 r with
   | ok u =>
    rw [hx] at hp
    have hp : V = u := Eq.symm hp
    subst hp
    simp only [not_true_eq_false, false_and, if_false, true_and]
    by_cases hb : 9223372036854775808 < V
    ·rw [if_pos hb, if_pos (by omega)]
    ·rw [if_neg hb]
     simp only
     by_cases hm : 1152921504606846976 < V
     ·rw [if_pos hm, if_pos (by omega)]
     ·rw [if_neg hm, if_neg (by omega)]
   | range =>
    rw [hx] at hp
    have hp : 18446744073709551616 ≤ V := hp
    simp only
    rw [if_pos (by omega)]
   | _ => rw [hx] at hp; exact hp.elim
  ·have hcm : cutMinus (c :: r) = c :: r := by unfold cutMinus; rw [if_neg (by simp [h45])]
   rw [hcm] at hne hp hd
   have hh : ¬ (c :: r).head? = some 45 := by simp [h45]
   have hdc := (digit_iff c).1 (by simp only [List.all_cons, Bool.and_eq_true] at hd; exact hd.1)
   have hn : ¬ c.toNat = 45 := by omega
   have hn3 : ¬ (c.toNat = 43 ∨ c.toNat = 45) := by omega
   simp only [hh, if_false]
   have hm : Lib.parseMag (c :: r) = Lib.parseUint10 0 (c :: r) := by unfold Lib.parseMag; rw [if_neg hne]
   clear hv
   have hn43 : ¬ c.toNat = 43 := by omega
   simp only [Lib.atoiAll, hn, hn43, or_self, if_false, hm]
   cases hx : Lib.parseUint10 0 (c :: r) with
   | ok u =>
    rw [hx] at hp
    have hp : V = u := Eq.symm hp
    subst hp
    simp only [not_false_eq_true, true_and, false_and, if_false]
    by_cases hb : 9223372036854775808 ≤ V
    ·rw [if_pos hb, if_pos (by omega)]
    ·rw [if_neg hb]
     simp only
     by_cases hm : 1152921504606846976 < V
     ·rw [if_pos hm, if_pos (by omega)]
     ·rw [if_neg hm, if_neg (by omega)]
   | range =>
    rw [hx] at hp
    have hp : 18446744073709551616 ≤ V := hp
    simp only
    rw [if_pos (by omega)]
   | _ => rw [hx] at hp; exact hp.elim
theorem num_nosyn {w : List UInt8} (h : numericS w = true) : (match Lib.atoiAll w with
  | .ok _ => True
  | .range => True
  | _ => False) := by
 unfold numericS at h
 simp only [Bool.and_eq_true, decide_eq_true_eq] at h
 obtain ⟨hne, hd⟩ := h
 have hp := parse_digits (cutMinus w) 0 hd
 cases hs : Lib.atoiAll w with
 | ok v => trivial
 | range => trivial
 | _ =>
 exfalso
 cases w with
 | nil => exact absurd rfl hne
 | cons c r =>
  by_cases h45 : c = 45
  ·have hcm : cutMinus (c :: r) = r := by unfold cutMinus; rw [if_pos (by simp [h45])]; rfl
   rw [hcm] at hne hp
   have hm : Lib.parseMag r = Lib.parseUint10 0 r := by unfold Lib.parseMag; rw [if_neg hne]
   subst h45
   have e : (45 : UInt8).toNat = 45 := rfl
   simp only [Lib.atoiAll, e, or_true, if_true, hm] at hs
   cases hx : Lib.parseUint10 0 r with
   | range => rw [hx] at hs; cases hs
   | ok u =>
    rw [hx] at hs
    simp only at hs
    split at hs
    ·cases hs
    ·split at hs <;> cases hs
   | _ => rw [hx] at hp; exact hp
  ·have hcm : cutMinus (c :: r) = c :: r := by unfold cutMinus; rw [if_neg (by simp [h45])]
   rw [hcm] at hne hp hd
   have hdc := (digit_iff c).1 (by simp only [List.all_cons, Bool.and_eq_true] at hd; exact hd.1)
   have hm : Lib.parseMag (c :: r) = Lib.parseUint10 0 (c :: r) := by unfold Lib.parseMag; rw [if_neg hne]
   have hn : ¬ c.toNat = 45 := by omega
   have hn43 : ¬ c.toNat = 43 := by omega
   simp only [Lib.atoiAll, hn, hn43, or_self, if_false, hm] at hs
   cases hx : Lib.parseUint10 0 (c :: r) with
   | range => rw [hx] at hs; cases hs
   | ok u =>
    rw [hx] at hs
    simp only at hs
    split at hs
    ·cases hs
    ·split at hs <;> cases hs
   | _ => rw [hx] at hp; exact hp
end Go.Ab

set_option maxRecDepth 100000
namespace Go.Ab
open Go Go.RowKit Go.Proofs
theorem number_val {w : List UInt8} (hw : w.length ≤ 1000000000) (h : numericS w = true) : G_numberA w = some ((numS w).1, (numS w).2, ()) := by
 have hc : trimPrefixF w [45] = cutMinus w := cutMinus_eq w
 have hne : cutMinus w ≠ [] := by
  unfold numericS at h
  simp only [Bool.and_eq_true, decide_eq_true_eq] at h
  exact h.1
 have hpos : 0 < (cutMinus w).length := List.length_pos_iff.2 hne
 have hat := num_atoi h
 unfold G_numberA
 rw [hc]
 have x1 : ixOK 0 (cutMinus w).length = true := ixOK_iff.2 (by omega)
 refine ycond (by rw [x1]; rfl) ?_
 have hb : byteAt (cutMinus w) 0 = (((cutMinus w)[0].toNat : Nat) : Int) := ybyte (i := 0) hpos
 have hh : (cutMinus w).head? = some (cutMinus w)[0] := by rw [List.head?_eq_getElem?, List.getElem?_eq_getElem hpos]
 have q48 : decide (byteAt (cutMinus w) 0 = 48) = decide ((cutMinus w)[0] = 48) := by rw [hb]; exact ybyteD _ 48 (by decide)
 rw [q48]
 unfold numS
 rw [hh]
 by_cases hz : (1 < (cutMinus w).length ∧ some (cutMinus w)[0] = some 48) ∨ w = [45, 48]
 ·rw [if_pos hz]
  refine ycond ?_ rfl
  rcases hz with ⟨z1, z2⟩ | z
  ·have e1 : decide (((cutMinus w).length : Int) > 1) = true := decide_eq_true (by omega)
   have e2 : decide ((cutMinus w)[0] = 48) = true := decide_eq_true (Option.some.inj z2)
   rw [e1, e2]; rfl
  ·rw [decide_eq_true z]
   cases cond (decide (((cutMinus w).length : Int) > 1)) (decide ((cutMinus w)[0] = 48)) false <;> rfl
 ·rw [if_neg hz]
  have z1 : ¬ (1 < (cutMinus w).length ∧ some (cutMinus w)[0] = some 48) := fun h => hz (.inl h)
  have z2 : ¬ w = [45, 48] := fun h => hz (.inr h)
  refine ycondn ?_ ?_
  ·rw [decide_eq_false z2]
   by_cases e : ((cutMinus w).length : Int) > 1
   ·have : ¬ (cutMinus w)[0] = 48 := fun h => z1 ⟨by omega, by rw [h]⟩
    rw [decide_eq_true e, decide_eq_false this]; rfl
   ·rw [decide_eq_false e]; rfl
  ·unfold atoiF
   rw [if_pos (by omega)]
   rw [← hat]
   cases hx : Lib.atoiAll w with
   | ok v =>
    simp only [Option.bind_some, Bool.not_true, cond_false]
    by_cases c : v < -1152921504606846976 ∨ v > 1152921504606846976
    ·rw [if_pos c]
     refine ycond ?_ rfl
     rcases c with c | c
     ·rw [decide_eq_true c]; rfl
     ·rw [decide_eq_true c]; cases decide (v < -1152921504606846976) <;> rfl
    ·rw [if_neg c]
     simp only [not_or] at c
     refine ycondn ?_ rfl
     rw [decide_eq_false c.1, decide_eq_false c.2]; rfl
   | range => rfl
   | _ =>
    exfalso
    have hp := parse_digits (cutMinus w) 0 (by unfold numericS at h; simp only [Bool.and_eq_true] at h; exact h.2)
    have := num_nosyn h
    rw [hx] at this
    exact this
end Go.Ab

set_option maxRecDepth 100000
namespace Go.Ab
open Go Go.RowKit Go.Proofs
end Go.Ab

set_option maxRecDepth 100000
namespace Go.Ab
open Go Go.RowKit Go.Proofs
theorem ymg {R : Type} {a b : Option R} {v : R} (ha : a = some v) (hb : b = some v) : mgC a b = some v := by
 subst ha; subst hb
 unfold mgC
 split
 ·rfl
 ·rename_i h _; exact absurd rfl h
section
variable {α : Type} {P : List α} {x y d : α}
theorem stk_len : (P ++ [x]).length = P.length + 1 := by simp
theorem stk_get : (P ++ [x]).getD P.length d = x := by simp [List.getD_eq_getElem?_getD]
theorem stk_set : (P ++ [x]).set P.length y = P ++ [y] := by
 rw [List.set_append_right _ _ (Nat.le_refl _), Nat.sub_self]; rfl
theorem stk_take : (P ++ [x]).take P.length = P := by simp
theorem stk_top (h : P.length < 4611686018427387904) : IntKind.wrap .i64 (((P.length + 1 : Nat) : Int) - 1) = (P.length : Int) := by
 rw [w64 (by omega) (by omega)]; omega
theorem one_set {f z : α} {n : Nat} : [z].set (n - n) f = [f] := by rw [Nat.sub_self]; rfl
end
theorem touches_val (c : UInt8) : G_touches ((c.toNat : Nat) : Int) = some (decide (c = 34) || visS c) := by
 unfold G_touches
 have q34 : decide (((c.toNat : Nat) : Int) = 34) = decide (c = 34) := ybyteD _ 34 (by decide)
 simp only [q34, yout]
 cases hc : decide (c = 34) with
 | true => rfl
 | false => rfl
def resP : Int ⊕ List Fm → List Fm × Int × Unit
 | .inl e => ([], e, ())
 | .inr l => (l, 0, ())
structure Szs (j : Nat) (top : List Fm) (st : List (List Fm)) : Prop where
 hst : st.length ≤ j
 htop : top.length ≤ j
 hrows : ∀ t ∈ st, t.length ≤ j
theorem Szs.app {j j' : Nat} {top : List Fm} {st : List (List Fm)} (h : Szs j top st) (hj : j < j') (f : Fm) : Szs j' (top ++ [f]) st :=
 ⟨by have := h.hst; omega, by have := h.htop; simp; omega, fun t ht => by have := h.hrows t ht; omega⟩
theorem Szs.push {j j' : Nat} {top : List Fm} {st : List (List Fm)} (h : Szs j top st) (hj : j < j') : Szs j' [] (top :: st) :=
 ⟨by have := h.hst; simp only [List.length_cons]; omega, by simp, fun t ht => by
  rcases List.mem_cons.1 ht with rfl | ht
  ·have := h.htop; omega
  ·have := h.hrows t ht; omega⟩
theorem Szs.pop {j j' : Nat} {top t : List Fm} {st : List (List Fm)} (h : Szs j top (t :: st)) (hj : j < j') (f : Fm) : Szs j' (t ++ [f]) st :=
 ⟨by have := h.hst; simp only [List.length_cons] at this; omega, by have := h.hrows t (by simp); simp; omega, fun x hx => by have := h.hrows x (by simp [hx]); omega⟩
theorem Szs.le {j j' : Nat} {top : List Fm} {st : List (List Fm)} (h : Szs j top st) (hj : j ≤ j') : Szs j' top st :=
 ⟨Nat.le_trans h.hst hj, Nat.le_trans h.htop hj, fun t ht => Nat.le_trans (h.hrows t ht) hj⟩
theorem ywpv {L R : Type} {b : L → Option (Step L R)} {l0 : L} {v : R} (I : L → Prop) (μ : L → Nat) (h0 : I l0)
  (h : ∀ l, I l → (∃ l', b l = some (.next l') ∧ I l' ∧ μ l' < μ l) ∨ b l = some (.done v)) : loopM b l0 = some v := by
 obtain ⟨r, h1, h2⟩ := ywp I μ (fun r => r = v) (fun l hl => (h l hl).imp id fun h => ⟨v, h, rfl⟩) h0
 rw [← h2]; exact h1
end Go.Ab
