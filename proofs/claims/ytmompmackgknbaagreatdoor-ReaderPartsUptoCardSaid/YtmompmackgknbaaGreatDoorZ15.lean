/-
  FORMS: the reference's parts of a form, and a form with another part.
-/
import Derived.Test.YtmompmackgknbaaGreatDoorZ12
import Derived.Test.YtmompmackgknbaaGreatDoorZ13
import Derived.Test.YtmompmackgknbaaGreatDoorZ11
import Derived.Test.YtmompmackgknbaaGreatDoorZ14
/-
  THE READER: what is read from a text.
-/
set_option linter.unusedVariables false
set_option maxRecDepth 100000
namespace Go.Ab
open Go Go.RowKit Go.Proofs
noncomputable def G_bldLen (o0 : Bool × Unit × Unit) (o1 : List Int) : Option ((Int) × ((Bool × Unit × Unit) × (List Int) × Unit)) := (
 some ((o1.length : Int), ((o0.1, (), ()), o1, ())))
def A_bldLen : An := .leaf
def H_bldLen : Nat → RH := fun _ => {}
noncomputable def S_bldLen : Sig := .o { pre := [(false, .cells 124 [(.mref 0 0), (.gs 1 (.int .u8))]), (false, .tg (.int .u8) 5)], args := [(.ref 0 0)], post := [(true, .cells 124 [(.mref 0 0), (.gs 1 (.int .u8))]), (true, .tg (.int .u8) 5)], res := (.d (.int .i64)), f := fun x => G_bldLen x.2.1 x.2.2.1 }
theorem S_bldLen_ok : SigOK CX 181 S_bldLen := sigO_of (l := []) trivial (hint := H_bldLen) (an := A_bldLen) (by kernel_rfl) (fun x => by kernel_rfl)
noncomputable def G_bldByte (x1 : Int) (o0 : Bool × Unit × Unit) (o1 : List Int) : Option ((Bool) × ((Bool × Unit × Unit) × (List Int) × Unit)) := (
 Option.bind (α := (Unit) × ((Bool × Unit × Unit) × (List Int) × Unit)) (some ((), ((true, (), ()), o1, ()))) fun r1 => (
 cond (decide ((r1.2.2.1.length + ([x1]).length) * 1 ≤ 140737488355328)) (some (true, ((r1.2.1.1, (), ()), r1.2.2.1 ++ ([x1]), ()))) none))
def A_bldByte : An := .leaf
def H_bldByte : Nat → RH := fun r => match r with
  | 1 => { H := { ac := [6] } }
  | 2 => { H := { ty := [(14, (.int .u8))] } }
  | _ => {}
noncomputable def S_bldByte : Sig := .o { pre := [(false, .cells 124 [(.mref 0 0), (.gs 1 (.int .u8))]), (false, .tg (.int .u8) 5)], args := [(.ref 0 0), (.d (.int .u8))], post := [(true, .cells 124 [(.mref 0 0), (.gs 1 (.int .u8))]), (false, .tg (.int .u8) 5)], res := (.d .erri), f := fun x => G_bldByte x.1.2.1 x.2.1 x.2.2.1 }
theorem S_bldByte_ok : SigOK CX 135 S_bldByte := sigO_of (l := [(141, S_copyCheck)]) ⟨S_copyCheck_ok, trivial⟩ (hint := H_bldByte) (an := A_bldByte) (by kernel_rfl) (fun x => by kernel_rfl)
noncomputable def G_skip (o0 : (List UInt8) × Int × Unit) : Option ((Unit) × (((List UInt8) × Int × Unit) × Unit)) := (
 loopM (L := (Unit × Unit) × (((List UInt8) × Int × Unit) × Unit)) (R := (Unit) × (((List UInt8) × Int × Unit) × Unit)) (fun d1 => (
 let c2 := d1.2.1.1
 let c3 := d1.2.1.2.1
 cond (decide (c3 < (c2.length : Int))) (cond (ixOK c3 c2.length) (cond (cond (cond (decide (byteAt c2 c3 = 32)) true (decide (byteAt c2 c3 = 9))) true (decide (byteAt c2 c3 = 10))) (some (Step.next (((), ()), ((c2, IntKind.wrap .i64 (c3 + 1), ()), ())))) (cond (decide (byteAt c2 c3 = 59)) (cond (slOK c3 (c2.length : Int) c2.length) (Option.bind (α := Int) (indexByteF ((c2.drop c3.toNat).take ((c2.length : Int).toNat - c3.toNat)) (10)) fun r4 => (
 Option.bind (α := (Unit × Int × Unit) × (((List UInt8) × Int × Unit) × Unit))
 (cond (decide (r4 < 0)) (some (((), IntKind.wrap .i64 ((c2.length : Int) - c3), ()), ((c2, c3, ()), ()))) (some (((), r4, ()), ((c2, c3, ()), ())))) fun d5 => (
 let c6 := d5.2.1.1
 let c7 := d5.2.1.2.1
 let v3_8 := d5.1.2.1
 some (Step.next (((), ()), ((c6, IntKind.wrap .i64 (c7 + v3_8), ()), ())))))) none) (some (Step.done ((), ((c2, c3, ()), ())))))) none) (some (Step.done ((), ((c2, c3, ()), ())))))) (((), ()), ((o0.1, o0.2.1, ()), ())))
def A_skip : An := .block (.loop { env := [(0, (.ref 0 0))], objs := [(true, .cells 148 [(.d .str), (.d (.int .i64))])] } (.seq (.leaf) (.block (.seq (.leaf) (.block (.seq (.leaf) (.cond (.leaf) (.seq (.leaf) (.cond (.seq (.leaf) (.join false { env := [(0, (.ref 0 0)), (3, (.d (.int .i64)))], objs := [(true, .cells 148 [(.d .str), (.d (.int .i64))])] } (.leaf) (.leaf))) (.leaf))))))))))
def H_skip : Nat → RH := fun _ => {}
noncomputable def S_skip : Sig := .o { pre := [(false, .cells 148 [(.d .str), (.d (.int .i64))])], args := [(.ref 0 0)], post := [(true, .cells 148 [(.d .str), (.d (.int .i64))])], res := (.tup []), f := fun x => G_skip x.2.1 }
theorem S_skip_ok : SigOK CX 152 S_skip := sigO_of (l := [(180, S_indexByte)]) ⟨S_indexByte_ok, trivial⟩ (hint := H_skip) (an := A_skip) (by kernel_rfl) (fun x => by kernel_rfl)
noncomputable def G_text (o0 : (List UInt8) × Int × Unit) : Option (((List UInt8) × Int × Unit) × (((List UInt8) × Int × Unit) × Unit)) := (
 Option.bind (α := Step ((Unit) × (((List UInt8) × Int × Unit) × Unit)) (((List UInt8) × Int × Unit) × (((List UInt8) × Int × Unit) × Unit)))
 (loopM (L := (Unit × Unit × Unit) × (((List UInt8) × Int × Unit) × (Bool × Unit × Unit) × (List Int) × Unit)) (R := Step ((Unit) × (((List UInt8) × Int × Unit) × Unit)) (((List UInt8) × Int × Unit) × (((List UInt8) × Int × Unit) × Unit))) (fun d1 => (
 let c2 := d1.2.1.1
 let c3 := d1.2.1.2.1
 let l4 := d1.2.2.2.1
 cond (decide (c3 < (c2.length : Int))) (cond (ixOK c3 c2.length) (Option.bind (α := Step ((Unit × Unit × Int × Unit) × (((List UInt8) × Int × Unit) × (Bool × Unit × Unit) × (List Int) × Unit)) (Step ((Unit × Unit × Unit) × (((List UInt8) × Int × Unit) × (Bool × Unit × Unit) × (List Int) × Unit)) (Step ((Unit) × (((List UInt8) × Int × Unit) × Unit)) (((List UInt8) × Int × Unit) × (((List UInt8) × Int × Unit) × Unit)))))
 (cond (decide (byteAt c2 c3 = 34)) (Option.bind (α := (Int) × ((Bool × Unit × Unit) × (List Int) × Unit)) (G_bldLen (d1.2.2.1.1, (), ()) l4) fun r5 => (
 cond (decide (r5.1 > 2000)) (some (Step.done (Step.done (Step.done (([], 4, ()), ((c2, IntKind.wrap .i64 (c3 + 1), ()), ())))))) (Option.bind (α := (List UInt8) × (Unit)) (Option.map (fun s => (s, ())) (bytesOf (r5.2.2.1))) fun r6 => (
 some (Step.done (Step.done (Step.done ((r6.1, 0, ()), ((c2, IntKind.wrap .i64 (c3 + 1), ()), ()))))))))) (cond (decide (byteAt c2 c3 = 92)) (cond (decide (IntKind.wrap .i64 (c3 + 1) = (c2.length : Int))) (some (Step.done (Step.done (Step.done (([], 12, ()), ((c2, IntKind.wrap .i64 (c3 + 1), ()), ())))))) (cond (ixOK (IntKind.wrap .i64 (c3 + 1)) c2.length) (cond (decide (byteAt c2 (IntKind.wrap .i64 (c3 + 1)) = 110)) (some (Step.next (((), (), 10, ()), ((c2, IntKind.wrap .i64 (c3 + 1), ()), (d1.2.2.1.1, (), ()), l4, ())))) (cond (cond (!decide (byteAt c2 (IntKind.wrap .i64 (c3 + 1)) = 34)) (!decide (byteAt c2 (IntKind.wrap .i64 (c3 + 1)) = 92)) false) (some (Step.done (Step.done (Step.done (([], 4, ()), ((c2, IntKind.wrap .i64 (c3 + 1), ()), ())))))) (some (Step.next (((), (), byteAt c2 (IntKind.wrap .i64 (c3 + 1)), ()), ((c2, IntKind.wrap .i64 (c3 + 1), ()), (d1.2.2.1.1, (), ()), l4, ())))))) none)) (cond (cond (decide (byteAt c2 c3 < 32)) true (decide (byteAt c2 c3 > 126))) (some (Step.done (Step.done (Step.done (([], 4, ()), ((c2, c3, ()), ())))))) (some (Step.next (((), (), byteAt c2 c3, ()), ((c2, c3, ()), (d1.2.2.1.1, (), ()), l4, ()))))))) fun qd7 => match qd7 with
 | .next d7 => (
 let c8 := d7.2.1.1
 let c9 := d7.2.1.2.1
 let l10 := d7.2.2.2.1
 let v5_11 := d7.1.2.2.1
 Option.bind (α := (Bool) × ((Bool × Unit × Unit) × (List Int) × Unit)) (G_bldByte v5_11 (d7.2.2.1.1, (), ()) l10) fun r12 => (
 some (Step.next (((), (), ()), ((c8, IntKind.wrap .i64 (c9 + 1), ()), (r12.2.1.1, (), ()), r12.2.2.1, ())))))
 | .done r => some r) none) (some (Step.done (Step.next ((), ((c2, c3, ()), ()))))))) (((), (), ()), ((o0.1, IntKind.wrap .i64 (o0.2.1 + 1), ()), (false, (), ()), ([] : List Int), ()))) fun qd13 => match qd13 with
 | .next d13 => (
 let c14 := d13.2.1.1
 let c15 := d13.2.1.2.1
 some (([], 12, ()), ((c14, c15, ()), ())))
 | .done r => some r)
def A_text : An := .seq (.leaf) (.seq (.leaf) (.join true { env := [], objs := [(true, .cells 148 [(.d .str), (.d (.int .i64))])] } (.seq (.leaf) (.block (.loop { env := [(0, (.ref 0 0)), (4, (.ref 1 0))], objs := [(true, .cells 148 [(.d .str), (.d (.int .i64))]), (false, .cells 124 [(.mref 1 0), (.gs 2 (.int .u8))]), (false, .tg (.int .u8) 5)] } (.seq (.leaf) (.seq (.block (.seq (.leaf) (.join true { env := [(0, (.ref 0 0)), (4, (.ref 1 0)), (5, (.d (.int .u8)))], objs := [(true, .cells 148 [(.d .str), (.d (.int .i64))]), (false, .cells 124 [(.mref 1 0), (.gs 2 (.int .u8))]), (false, .tg (.int .u8) 5)] } (.leaf) (.leaf)))) (.leaf)))))) (.leaf)))
def H_text : Nat → RH := fun r => match r with
  | 8 => { H := { ac := [49] } }
  | 10 => { H := { ac := [51] } }
  | 22 => { H := { ac := [97] } }
  | _ => {}
noncomputable def S_text : Sig := .o { pre := [(false, .cells 148 [(.d .str), (.d (.int .i64))])], args := [(.ref 0 0)], post := [(true, .cells 148 [(.d .str), (.d (.int .i64))])], res := (.tup [(.d .str), (.d (.int .i64))]), f := fun x => G_text x.2.1 }
theorem S_text_ok : SigOK CX 153 S_text := sigO_of (l := [(181, S_bldLen), (90, S_string), (135, S_bldByte)]) ⟨S_bldLen_ok, S_string_ok, S_bldByte_ok, trivial⟩ (hint := H_text) (an := A_text) (by kernel_rfl) (fun x => by kernel_rfl)
noncomputable def G_iatoi (x0 : List UInt8) : Option (Int × Bool × Unit) := (
 Option.bind (α := Step (((List UInt8) × Unit) × (Unit)) (Int × Bool × Unit))
 (cond (cond (cond false (cond (decide ((0 : Int) < (x0.length : Int))) (decide ((x0.length : Int) < 10)) false) false) true (cond true (cond (decide ((0 : Int) < (x0.length : Int))) (decide ((x0.length : Int) < 19)) false) false)) (Option.bind (α := Step (((List UInt8) × (List UInt8) × Unit) × (Unit)) (Step (((List UInt8) × Unit) × (Unit)) (Int × Bool × Unit)))
 (cond (ixOK 0 x0.length) (cond ((ixOK 0 x0.length) || !(!(decide (byteAt x0 0 = 45)))) (cond (cond (decide (byteAt x0 0 = 45)) true (decide (byteAt x0 0 = 43))) (cond (slOK 1 (x0.length : Int) x0.length) (cond (decide ((((x0.drop (1 : Int).toNat).take ((x0.length : Int).toNat - (1 : Int).toNat)).length : Int) < 1)) (some (Step.done (Step.done (0, false, ())))) (some (Step.next (((x0.drop (1 : Int).toNat).take ((x0.length : Int).toNat - (1 : Int).toNat), x0, ()), ())))) none) (some (Step.next ((x0, x0, ()), ())))) none) none) fun qd1 => match qd1 with
 | .next d1 => (
 let v0_2 := d1.1.1
 let v5_3 := d1.1.2.1
 Option.bind (α := Step (((List UInt8) × Int × Unit) × (Unit)) (Step (((List UInt8) × Unit) × (Unit)) (Int × Bool × Unit)))
 (cond (decide (v0_2.length ≤ 4611686018427387904)) (loopM (L := ((List UInt8) × Int × (List Int) × Int × Int × Unit) × (Unit)) (R := Step (((List UInt8) × Int × Unit) × (Unit)) (Step (((List UInt8) × Unit) × (Unit)) (Int × Bool × Unit))) (fun d4 => (
 let v5_5 := d4.1.1
 let v6_6 := d4.1.2.1
 let v47_7 := d4.1.2.2.1
 let v48_8 := d4.1.2.2.2.1
 let v49_9 := d4.1.2.2.2.2.1
 cond (decide (v49_9 < v48_8)) (cond (ixOK v49_9 v47_7.length) (cond (decide (IntKind.wrap .u8 ((v47_7.getD v49_9.toNat (0 : Int)) - 48) > 9)) (some (Step.done (Step.done (Step.done (0, false, ()))))) (some (Step.next ((v5_5, IntKind.wrap .i64 (IntKind.wrap .i64 (v6_6 * 10) + IntKind.wrap .i64 (IntKind.wrap .u8 ((v47_7.getD v49_9.toNat (0 : Int)) - 48))), v47_7, v48_8, IntKind.wrap .i64 (v49_9 + 1), ()), ())))) none) (some (Step.done (Step.next ((v5_5, v6_6, ()), ())))))) ((v5_3, 0, intsOf v0_2, ((intsOf v0_2).length : Int), 0, ()), ())) none) fun qd10 => match qd10 with
 | .next d10 => (
 let v5_11 := d10.1.1
 let v6_12 := d10.1.2.1
 Option.bind (α := (Int × Unit) × (Unit))
 (cond (ixOK 0 v5_11.length) (cond (decide (byteAt v5_11 0 = 45)) (some ((IntKind.wrap .i64 (0 - v6_12), ()), ())) (some ((v6_12, ()), ()))) none) fun d13 => (
 let v6_14 := d13.1.1
 some (Step.done (v6_14, true, ()))))
 | .done r => some r)
 | .done r => some r) (some (Step.next ((x0, ()), ())))) fun qd15 => match qd15 with
 | .next d15 => (
 let v0_16 := d15.1.1
 none)
 | .done r => some r)
def A_iatoi : An := .seq (.leaf) (.seq (.leaf) (.join true { env := [(0, (.d .str))], objs := [] } (.seq (.leaf) (.cond (.seq (.leaf) (.join true { env := [(0, (.d .str)), (5, (.d .str))], objs := [] } (.leaf) (.seq (.leaf) (.join true { env := [(5, (.d .str)), (6, (.d (.int .i64)))], objs := [] } (.seq (.leaf) (.block (.loop { env := [(5, (.d .str)), (6, (.d (.int .i64))), (47, (.d (.slice (.int .u8)))), (48, (.d (.int .i64))), (49, (.d (.int .i64)))], objs := [] } (.leaf)))) (.join false { env := [(6, (.d (.int .i64)))], objs := [] } (.leaf) (.leaf)))))) (.leaf))) (.leaf)))
def H_iatoi : Nat → RH := fun _ => {}
noncomputable def S_iatoi : Sig := .n [(.d .str)] (.tup [(.d (.int .i64)), (.d .erri)]) (fun x => G_iatoi x.1)
theorem S_iatoi_ok : SigOK CX 210 S_iatoi := sigN_of (l := []) trivial (hint := H_iatoi) (an := A_iatoi) (fun x => by kernel_rfl)
noncomputable def G_atoi (x0 : List UInt8) : Option (Int × Bool × Unit) := (
 Option.bind (α := Int × Bool × Unit) (G_iatoi x0) fun r1 => (
 cond (!r1.2.1) (none) (some (r1.1, true, ()))))
def A_atoi : An := .leaf
def H_atoi : Nat → RH := fun _ => {}
noncomputable def S_atoi : Sig := .n [(.d .str)] (.tup [(.d (.int .i64)), (.d .erri)]) (fun x => G_atoi x.1)
theorem S_atoi_ok : SigOK CX 184 S_atoi := sigN_of (l := [(210, S_iatoi)]) ⟨S_iatoi_ok, trivial⟩ (hint := H_atoi) (an := A_atoi) (fun x => by kernel_rfl)
noncomputable def G_number (x0 : List UInt8) : Option (Int × Int × Unit) := (
 cond ((ixOK 0 (trimPrefixF (x0) ([45])).length) || !(decide (((trimPrefixF (x0) ([45])).length : Int) > 1))) (cond (cond (cond (decide (((trimPrefixF (x0) ([45])).length : Int) > 1)) (decide (byteAt (trimPrefixF (x0) ([45])) 0 = 48)) false) true (decide (x0 = [45, 48]))) (some (0, 4, ())) (Option.bind (α := Int × Bool × Unit) (G_atoi x0) fun r1 => (
 cond (cond (cond (!r1.2.1) true (decide (r1.1 < (-1152921504606846976)))) true (decide (r1.1 > 1152921504606846976))) (some (0, 5, ())) (some (r1.1, 0, ()))))) none)
def A_number : An := .leaf
def H_number : Nat → RH := fun _ => {}
noncomputable def S_number : Sig := .n [(.d .str)] (.tup [(.d (.int .i64)), (.d (.int .i64))]) (fun x => G_number x.1)
theorem S_number_ok : SigOK CX 156 S_number := sigN_of (l := [(182, S_trimPrefix), (184, S_atoi)]) ⟨S_trimPrefix_ok, S_atoi_ok, trivial⟩ (hint := H_number) (an := A_number) (fun x => by kernel_rfl)
noncomputable def G_next (o0 : (List UInt8) × Int × Unit) : Option (((Int × Fm) × Bool × Int × Unit) × (((List UInt8) × Int × Unit) × Unit)) := (
 Option.bind (α := (Unit) × (((List UInt8) × Int × Unit) × Unit)) (G_skip (o0.1, o0.2.1, ())) fun r1 => (
 cond (decide (r1.2.1.2.1 = (r1.2.1.1.length : Int))) (some (((0, (Fm.mk 0 0 ([]) ([] : List Fm))), false, 0, ()), ((r1.2.1.1, r1.2.1.2.1, ()), ()))) (cond (ixOK r1.2.1.2.1 r1.2.1.1.length) (cond (cond (decide (byteAt r1.2.1.1 r1.2.1.2.1 = 40)) true (decide (byteAt r1.2.1.1 r1.2.1.2.1 = 41))) (some (((byteAt r1.2.1.1 r1.2.1.2.1, (Fm.mk 0 0 ([]) ([] : List Fm))), true, 0, ()), ((r1.2.1.1, IntKind.wrap .i64 (r1.2.1.2.1 + 1), ()), ()))) (cond (decide (byteAt r1.2.1.1 r1.2.1.2.1 = 34)) (Option.bind (α := ((List UInt8) × Int × Unit) × (((List UInt8) × Int × Unit) × Unit)) (G_text (r1.2.1.1, r1.2.1.2.1, ())) fun r2 => (
 some (((0, (Fm.mk 2 0 r2.1.1 ([] : List Fm))), true, r2.1.2.1, ()), ((r2.2.1.1, r2.2.1.2.1, ()), ())))) (Option.bind (α := Bool) (outsideF (byteAt r1.2.1.1 r1.2.1.2.1)) fun r3 => (
 cond r3 (some (((0, (Fm.mk 0 0 ([]) ([] : List Fm))), true, 4, ()), ((r1.2.1.1, r1.2.1.2.1, ()), ()))) (Option.bind (α := (Unit × Unit × Int × Unit) × (((List UInt8) × Int × Unit) × (Int × Int × Int × (List UInt8) × Unit × Unit) × Unit))
 (loopM (L := (Unit × Unit × Int × Unit) × (((List UInt8) × Int × Unit) × (Int × Int × Int × (List UInt8) × Unit × Unit) × Unit)) (R := (Unit × Unit × Int × Unit) × (((List UInt8) × Int × Unit) × (Int × Int × Int × (List UInt8) × Unit × Unit) × Unit)) (fun d4 => (
 let c5 := d4.2.1.1
 let c6 := d4.2.1.2.1
 let v8_7 := d4.1.2.2.1
 cond ((ixOK c6 c5.length) || !(decide (c6 < (c5.length : Int)))) (Option.bind (α := Bool) (cond (decide (c6 < (c5.length : Int))) (outsideF (byteAt c5 c6)) (some false)) fun r8 => (
 cond (cond (decide (c6 < (c5.length : Int))) (!r8) false) (some (Step.next (((), (), v8_7, ()), ((c5, IntKind.wrap .i64 (c6 + 1), ()), (d4.2.2.1.1, d4.2.2.1.2.1, d4.2.2.1.2.2.1, d4.2.2.1.2.2.2.1, (), ()), ())))) (some (Step.done (((), (), v8_7, ()), ((c5, c6, ()), (d4.2.2.1.1, d4.2.2.1.2.1, d4.2.2.1.2.2.1, d4.2.2.1.2.2.2.1, (), ()), ())))))) none)) (((), (), r1.2.1.2.1, ()), ((r1.2.1.1, r1.2.1.2.1, ()), (0, 0, 0, [], (), ()), ()))) fun d9 => (
 let c10 := d9.2.1.1
 let c11 := d9.2.1.2.1
 let v8_12 := d9.1.2.2.1
 cond (slOK v8_12 c11 c10.length) (Option.bind (α := Bool) (numericF ((c10.drop v8_12.toNat).take (c11.toNat - v8_12.toNat))) fun r13 => (
 cond r13 (Option.bind (α := Int × Int × Unit) (G_number ((c10.drop v8_12.toNat).take (c11.toNat - v8_12.toNat))) fun r14 => (
 some (((0, (Fm.mk 0 r14.1 ([]) ([] : List Fm))), true, r14.2.1, ()), ((c10, c11, ()), ())))) (cond (decide ((((c10.drop v8_12.toNat).take (c11.toNat - v8_12.toNat)).length : Int) > 30)) (some (((d9.2.2.1.1, (Fm.mk d9.2.2.1.2.1 d9.2.2.1.2.2.1 d9.2.2.1.2.2.2.1 ([] : List Fm))), true, 4, ()), ((c10, c11, ()), ()))) (some (((0, (Fm.mk 1 0 ((c10.drop v8_12.toNat).take (c11.toNat - v8_12.toNat)) ([] : List Fm))), true, 0, ()), ((c10, c11, ()), ())))))) none)))))) none)))
def A_next : An := .seq (.leaf) (.seq (.leaf) (.seq (.leaf) (.seq (.leaf) (.seq (.leaf) (.join false { env := [(0, (.ref 0 0)), (2, (.ref 1 0)), (8, (.d (.int .i64)))], objs := [(true, .cells 148 [(.d .str), (.d (.int .i64))]), (false, .cells 150 [(.d (.int .u8)), (.d (.int .i64)), (.d (.int .i64)), (.d .str), (.c (.base (.slice none 0 0)))])] } (.block (.loop { env := [(0, (.ref 0 0)), (2, (.ref 1 0)), (8, (.d (.int .i64)))], objs := [(true, .cells 148 [(.d .str), (.d (.int .i64))]), (false, .cells 150 [(.d (.int .u8)), (.d (.int .i64)), (.d (.int .i64)), (.d .str), (.c (.base (.slice none 0 0)))])] } (.leaf))) (.leaf))))))
def H_next : Nat → RH := fun r => match r with
  | 1 => { H := { ac := [13] } }
  | 9 => { H := { ac := [55] } }
  | _ => {}
noncomputable def S_next : Sig := .o { pre := [(false, .cells 148 [(.d .str), (.d (.int .i64))])], args := [(.ref 0 0)], post := [(true, .cells 148 [(.d .str), (.d (.int .i64))])], res := (.tup [(.d (.pr (.int .u8) .form)), (.d .bool), (.d (.int .i64))]), f := fun x => G_next x.2.1 }
theorem S_next_ok : SigOK CX 116 S_next := sigO_of (l := [(152, S_skip), (153, S_text), (154, S_outside), (155, S_numeric), (156, S_number)]) ⟨S_skip_ok, S_text_ok, S_outside_ok, S_numeric_ok, S_number_ok, trivial⟩ (hint := H_next) (an := A_next) (by kernel_rfl) (fun x => by kernel_rfl)
noncomputable def G_touches (x0 : Int) : Option (Bool) := (
 Option.bind (α := Bool) (cond (!(decide (x0 = 34))) (outsideF (x0)) (some false)) fun r1 => (
 some (cond (decide (x0 = 34)) true (!r1))))
def A_touches : An := .leaf
def H_touches : Nat → RH := fun _ => {}
noncomputable def S_touches : Sig := .n [(.d (.int .u8))] (.d .bool) (fun x => G_touches x.1)
theorem S_touches_ok : SigOK CX 117 S_touches := sigN_of (l := [(154, S_outside)]) ⟨S_outside_ok, trivial⟩ (hint := H_touches) (an := A_touches) (fun x => by kernel_rfl)
-- BAD plinth/reader.parse parse
-- bldLen needs no bound
-- bldByte needs no bound
noncomputable def E_skip (d : Nat) (o0 : (List UInt8) × Int × Unit) : Option ((Unit) × (((List UInt8) × Int × Unit) × Unit)) := (
 iterE d (L := (Unit × Unit) × (((List UInt8) × Int × Unit) × Unit)) (R := (Unit) × (((List UInt8) × Int × Unit) × Unit)) (fun d1 => (
 let c2 := d1.2.1.1
 let c3 := d1.2.1.2.1
 cond (decide (c3 < (c2.length : Int))) (cond (ixOK c3 c2.length) (cond (cond (cond (decide (byteAt c2 c3 = 32)) true (decide (byteAt c2 c3 = 9))) true (decide (byteAt c2 c3 = 10))) (some (Step.next (((), ()), ((c2, IntKind.wrap .i64 (c3 + 1), ()), ())))) (cond (decide (byteAt c2 c3 = 59)) (cond (slOK c3 (c2.length : Int) c2.length) (Option.bind (α := Int) (indexByteF ((c2.drop c3.toNat).take ((c2.length : Int).toNat - c3.toNat)) (10)) fun r4 => (
 Option.bind (α := (Unit × Int × Unit) × (((List UInt8) × Int × Unit) × Unit))
 (cond (decide (r4 < 0)) (some (((), IntKind.wrap .i64 ((c2.length : Int) - c3), ()), ((c2, c3, ()), ()))) (some (((), r4, ()), ((c2, c3, ()), ())))) fun d5 => (
 let c6 := d5.2.1.1
 let c7 := d5.2.1.2.1
 let v3_8 := d5.1.2.1
 some (Step.next (((), ()), ((c6, IntKind.wrap .i64 (c7 + v3_8), ()), ())))))) none) (some (Step.done ((), ((c2, c3, ()), ())))))) none) (some (Step.done ((), ((c2, c3, ()), ())))))) (((), ()), ((o0.1, o0.2.1, ()), ())))
theorem E_skip_le (d : Nat) (o0 : (List UInt8) × Int × Unit) : Le (E_skip d o0) (G_skip o0) := by
  unfold E_skip G_skip
  try dsimp only
  repeat' (first | with_reducible exact Le.refl _ | with_reducible apply Le.cond | with_reducible refine Le.bind ?_ (fun _ => ?_) | with_reducible refine Le.loop (fun _ => ?_) _ | with_reducible refine Le.map ?_ | (rename_i q; cases q <;> dsimp only))
noncomputable def E_text (d : Nat) (o0 : (List UInt8) × Int × Unit) : Option (((List UInt8) × Int × Unit) × (((List UInt8) × Int × Unit) × Unit)) := (
 Option.bind (α := Step ((Unit) × (((List UInt8) × Int × Unit) × Unit)) (((List UInt8) × Int × Unit) × (((List UInt8) × Int × Unit) × Unit)))
 (iterE d (L := (Unit × Unit × Unit) × (((List UInt8) × Int × Unit) × (Bool × Unit × Unit) × (List Int) × Unit)) (R := Step ((Unit) × (((List UInt8) × Int × Unit) × Unit)) (((List UInt8) × Int × Unit) × (((List UInt8) × Int × Unit) × Unit))) (fun d1 => (
 let c2 := d1.2.1.1
 let c3 := d1.2.1.2.1
 let l4 := d1.2.2.2.1
 cond (decide (c3 < (c2.length : Int))) (cond (ixOK c3 c2.length) (Option.bind (α := Step ((Unit × Unit × Int × Unit) × (((List UInt8) × Int × Unit) × (Bool × Unit × Unit) × (List Int) × Unit)) (Step ((Unit × Unit × Unit) × (((List UInt8) × Int × Unit) × (Bool × Unit × Unit) × (List Int) × Unit)) (Step ((Unit) × (((List UInt8) × Int × Unit) × Unit)) (((List UInt8) × Int × Unit) × (((List UInt8) × Int × Unit) × Unit)))))
 (cond (decide (byteAt c2 c3 = 34)) (Option.bind (α := (Int) × ((Bool × Unit × Unit) × (List Int) × Unit)) (G_bldLen (d1.2.2.1.1, (), ()) l4) fun r5 => (
 cond (decide (r5.1 > 2000)) (some (Step.done (Step.done (Step.done (([], 4, ()), ((c2, IntKind.wrap .i64 (c3 + 1), ()), ())))))) (Option.bind (α := (List UInt8) × (Unit)) (Option.map (fun s => (s, ())) (bytesOf (r5.2.2.1))) fun r6 => (
 some (Step.done (Step.done (Step.done ((r6.1, 0, ()), ((c2, IntKind.wrap .i64 (c3 + 1), ()), ()))))))))) (cond (decide (byteAt c2 c3 = 92)) (cond (decide (IntKind.wrap .i64 (c3 + 1) = (c2.length : Int))) (some (Step.done (Step.done (Step.done (([], 12, ()), ((c2, IntKind.wrap .i64 (c3 + 1), ()), ())))))) (cond (ixOK (IntKind.wrap .i64 (c3 + 1)) c2.length) (cond (decide (byteAt c2 (IntKind.wrap .i64 (c3 + 1)) = 110)) (some (Step.next (((), (), 10, ()), ((c2, IntKind.wrap .i64 (c3 + 1), ()), (d1.2.2.1.1, (), ()), l4, ())))) (cond (cond (!decide (byteAt c2 (IntKind.wrap .i64 (c3 + 1)) = 34)) (!decide (byteAt c2 (IntKind.wrap .i64 (c3 + 1)) = 92)) false) (some (Step.done (Step.done (Step.done (([], 4, ()), ((c2, IntKind.wrap .i64 (c3 + 1), ()), ())))))) (some (Step.next (((), (), byteAt c2 (IntKind.wrap .i64 (c3 + 1)), ()), ((c2, IntKind.wrap .i64 (c3 + 1), ()), (d1.2.2.1.1, (), ()), l4, ())))))) none)) (cond (cond (decide (byteAt c2 c3 < 32)) true (decide (byteAt c2 c3 > 126))) (some (Step.done (Step.done (Step.done (([], 4, ()), ((c2, c3, ()), ())))))) (some (Step.next (((), (), byteAt c2 c3, ()), ((c2, c3, ()), (d1.2.2.1.1, (), ()), l4, ()))))))) fun qd7 => match qd7 with
 | .next d7 => (
 let c8 := d7.2.1.1
 let c9 := d7.2.1.2.1
 let l10 := d7.2.2.2.1
 let v5_11 := d7.1.2.2.1
 Option.bind (α := (Bool) × ((Bool × Unit × Unit) × (List Int) × Unit)) (G_bldByte v5_11 (d7.2.2.1.1, (), ()) l10) fun r12 => (
 some (Step.next (((), (), ()), ((c8, IntKind.wrap .i64 (c9 + 1), ()), (r12.2.1.1, (), ()), r12.2.2.1, ())))))
 | .done r => some r) none) (some (Step.done (Step.next ((), ((c2, c3, ()), ()))))))) (((), (), ()), ((o0.1, IntKind.wrap .i64 (o0.2.1 + 1), ()), (false, (), ()), ([] : List Int), ()))) fun qd13 => match qd13 with
 | .next d13 => (
 let c14 := d13.2.1.1
 let c15 := d13.2.1.2.1
 some (([], 12, ()), ((c14, c15, ()), ())))
 | .done r => some r)
theorem E_text_le (d : Nat) (o0 : (List UInt8) × Int × Unit) : Le (E_text d o0) (G_text o0) := by
  unfold E_text G_text
  try dsimp only
  repeat' (first | with_reducible exact Le.refl _ | with_reducible apply Le.cond | with_reducible refine Le.bind ?_ (fun _ => ?_) | with_reducible refine Le.loop (fun _ => ?_) _ | with_reducible refine Le.map ?_ | (rename_i q; cases q <;> dsimp only))
noncomputable def E_iatoi (d : Nat) (x0 : List UInt8) : Option (Int × Bool × Unit) := (
 Option.bind (α := Step (((List UInt8) × Unit) × (Unit)) (Int × Bool × Unit))
 (cond (cond (cond false (cond (decide ((0 : Int) < (x0.length : Int))) (decide ((x0.length : Int) < 10)) false) false) true (cond true (cond (decide ((0 : Int) < (x0.length : Int))) (decide ((x0.length : Int) < 19)) false) false)) (Option.bind (α := Step (((List UInt8) × (List UInt8) × Unit) × (Unit)) (Step (((List UInt8) × Unit) × (Unit)) (Int × Bool × Unit)))
 (cond (ixOK 0 x0.length) (cond ((ixOK 0 x0.length) || !(!(decide (byteAt x0 0 = 45)))) (cond (cond (decide (byteAt x0 0 = 45)) true (decide (byteAt x0 0 = 43))) (cond (slOK 1 (x0.length : Int) x0.length) (cond (decide ((((x0.drop (1 : Int).toNat).take ((x0.length : Int).toNat - (1 : Int).toNat)).length : Int) < 1)) (some (Step.done (Step.done (0, false, ())))) (some (Step.next (((x0.drop (1 : Int).toNat).take ((x0.length : Int).toNat - (1 : Int).toNat), x0, ()), ())))) none) (some (Step.next ((x0, x0, ()), ())))) none) none) fun qd1 => match qd1 with
 | .next d1 => (
 let v0_2 := d1.1.1
 let v5_3 := d1.1.2.1
 Option.bind (α := Step (((List UInt8) × Int × Unit) × (Unit)) (Step (((List UInt8) × Unit) × (Unit)) (Int × Bool × Unit)))
 (cond (decide (v0_2.length ≤ 4611686018427387904)) (iterE d (L := ((List UInt8) × Int × (List Int) × Int × Int × Unit) × (Unit)) (R := Step (((List UInt8) × Int × Unit) × (Unit)) (Step (((List UInt8) × Unit) × (Unit)) (Int × Bool × Unit))) (fun d4 => (
 let v5_5 := d4.1.1
 let v6_6 := d4.1.2.1
 let v47_7 := d4.1.2.2.1
 let v48_8 := d4.1.2.2.2.1
 let v49_9 := d4.1.2.2.2.2.1
 cond (decide (v49_9 < v48_8)) (cond (ixOK v49_9 v47_7.length) (cond (decide (IntKind.wrap .u8 ((v47_7.getD v49_9.toNat (0 : Int)) - 48) > 9)) (some (Step.done (Step.done (Step.done (0, false, ()))))) (some (Step.next ((v5_5, IntKind.wrap .i64 (IntKind.wrap .i64 (v6_6 * 10) + IntKind.wrap .i64 (IntKind.wrap .u8 ((v47_7.getD v49_9.toNat (0 : Int)) - 48))), v47_7, v48_8, IntKind.wrap .i64 (v49_9 + 1), ()), ())))) none) (some (Step.done (Step.next ((v5_5, v6_6, ()), ())))))) ((v5_3, 0, intsOf v0_2, ((intsOf v0_2).length : Int), 0, ()), ())) none) fun qd10 => match qd10 with
 | .next d10 => (
 let v5_11 := d10.1.1
 let v6_12 := d10.1.2.1
 Option.bind (α := (Int × Unit) × (Unit))
 (cond (ixOK 0 v5_11.length) (cond (decide (byteAt v5_11 0 = 45)) (some ((IntKind.wrap .i64 (0 - v6_12), ()), ())) (some ((v6_12, ()), ()))) none) fun d13 => (
 let v6_14 := d13.1.1
 some (Step.done (v6_14, true, ()))))
 | .done r => some r)
 | .done r => some r) (some (Step.next ((x0, ()), ())))) fun qd15 => match qd15 with
 | .next d15 => (
 let v0_16 := d15.1.1
 none)
 | .done r => some r)
theorem E_iatoi_le (d : Nat) (x0 : List UInt8) : Le (E_iatoi d x0) (G_iatoi x0) := by
  unfold E_iatoi G_iatoi
  try dsimp only
  repeat' (first | with_reducible exact Le.refl _ | with_reducible apply Le.cond | with_reducible refine Le.bind ?_ (fun _ => ?_) | with_reducible refine Le.loop (fun _ => ?_) _ | with_reducible refine Le.map ?_ | (rename_i q; cases q <;> dsimp only))
noncomputable def E_atoi (d : Nat) (x0 : List UInt8) : Option (Int × Bool × Unit) := (
 Option.bind (α := Int × Bool × Unit) (E_iatoi d x0) fun r1 => (
 cond (!r1.2.1) (none) (some (r1.1, true, ()))))
theorem E_atoi_le (d : Nat) (x0 : List UInt8) : Le (E_atoi d x0) (G_atoi x0) := by
  unfold E_atoi G_atoi
  try dsimp only
  repeat' (first | with_reducible exact Le.refl _ | with_reducible exact E_iatoi_le _ _ | with_reducible apply Le.cond | with_reducible refine Le.bind ?_ (fun _ => ?_) | with_reducible refine Le.loop (fun _ => ?_) _ | with_reducible refine Le.map ?_ | (rename_i q; cases q <;> dsimp only))
noncomputable def E_number (d : Nat) (x0 : List UInt8) : Option (Int × Int × Unit) := (
 cond ((ixOK 0 (trimPrefixF (x0) ([45])).length) || !(decide (((trimPrefixF (x0) ([45])).length : Int) > 1))) (cond (cond (cond (decide (((trimPrefixF (x0) ([45])).length : Int) > 1)) (decide (byteAt (trimPrefixF (x0) ([45])) 0 = 48)) false) true (decide (x0 = [45, 48]))) (some (0, 4, ())) (Option.bind (α := Int × Bool × Unit) (E_atoi d x0) fun r1 => (
 cond (cond (cond (!r1.2.1) true (decide (r1.1 < (-1152921504606846976)))) true (decide (r1.1 > 1152921504606846976))) (some (0, 5, ())) (some (r1.1, 0, ()))))) none)
theorem E_number_le (d : Nat) (x0 : List UInt8) : Le (E_number d x0) (G_number x0) := by
  unfold E_number G_number
  try dsimp only
  repeat' (first | with_reducible exact Le.refl _ | with_reducible exact E_atoi_le _ _ | with_reducible apply Le.cond | with_reducible refine Le.bind ?_ (fun _ => ?_) | with_reducible refine Le.loop (fun _ => ?_) _ | with_reducible refine Le.map ?_ | (rename_i q; cases q <;> dsimp only))
noncomputable def E_next (d : Nat) (o0 : (List UInt8) × Int × Unit) : Option (((Int × Fm) × Bool × Int × Unit) × (((List UInt8) × Int × Unit) × Unit)) := (
 Option.bind (α := (Unit) × (((List UInt8) × Int × Unit) × Unit)) (E_skip d (o0.1, o0.2.1, ())) fun r1 => (
 cond (decide (r1.2.1.2.1 = (r1.2.1.1.length : Int))) (some (((0, (Fm.mk 0 0 ([]) ([] : List Fm))), false, 0, ()), ((r1.2.1.1, r1.2.1.2.1, ()), ()))) (cond (ixOK r1.2.1.2.1 r1.2.1.1.length) (cond (cond (decide (byteAt r1.2.1.1 r1.2.1.2.1 = 40)) true (decide (byteAt r1.2.1.1 r1.2.1.2.1 = 41))) (some (((byteAt r1.2.1.1 r1.2.1.2.1, (Fm.mk 0 0 ([]) ([] : List Fm))), true, 0, ()), ((r1.2.1.1, IntKind.wrap .i64 (r1.2.1.2.1 + 1), ()), ()))) (cond (decide (byteAt r1.2.1.1 r1.2.1.2.1 = 34)) (Option.bind (α := ((List UInt8) × Int × Unit) × (((List UInt8) × Int × Unit) × Unit)) (E_text d (r1.2.1.1, r1.2.1.2.1, ())) fun r2 => (
 some (((0, (Fm.mk 2 0 r2.1.1 ([] : List Fm))), true, r2.1.2.1, ()), ((r2.2.1.1, r2.2.1.2.1, ()), ())))) (Option.bind (α := Bool) (outsideF (byteAt r1.2.1.1 r1.2.1.2.1)) fun r3 => (
 cond r3 (some (((0, (Fm.mk 0 0 ([]) ([] : List Fm))), true, 4, ()), ((r1.2.1.1, r1.2.1.2.1, ()), ()))) (Option.bind (α := (Unit × Unit × Int × Unit) × (((List UInt8) × Int × Unit) × (Int × Int × Int × (List UInt8) × Unit × Unit) × Unit))
 (iterE d (L := (Unit × Unit × Int × Unit) × (((List UInt8) × Int × Unit) × (Int × Int × Int × (List UInt8) × Unit × Unit) × Unit)) (R := (Unit × Unit × Int × Unit) × (((List UInt8) × Int × Unit) × (Int × Int × Int × (List UInt8) × Unit × Unit) × Unit)) (fun d4 => (
 let c5 := d4.2.1.1
 let c6 := d4.2.1.2.1
 let v8_7 := d4.1.2.2.1
 cond ((ixOK c6 c5.length) || !(decide (c6 < (c5.length : Int)))) (Option.bind (α := Bool) (cond (decide (c6 < (c5.length : Int))) (outsideF (byteAt c5 c6)) (some false)) fun r8 => (
 cond (cond (decide (c6 < (c5.length : Int))) (!r8) false) (some (Step.next (((), (), v8_7, ()), ((c5, IntKind.wrap .i64 (c6 + 1), ()), (d4.2.2.1.1, d4.2.2.1.2.1, d4.2.2.1.2.2.1, d4.2.2.1.2.2.2.1, (), ()), ())))) (some (Step.done (((), (), v8_7, ()), ((c5, c6, ()), (d4.2.2.1.1, d4.2.2.1.2.1, d4.2.2.1.2.2.1, d4.2.2.1.2.2.2.1, (), ()), ())))))) none)) (((), (), r1.2.1.2.1, ()), ((r1.2.1.1, r1.2.1.2.1, ()), (0, 0, 0, [], (), ()), ()))) fun d9 => (
 let c10 := d9.2.1.1
 let c11 := d9.2.1.2.1
 let v8_12 := d9.1.2.2.1
 cond (slOK v8_12 c11 c10.length) (Option.bind (α := Bool) (numericF ((c10.drop v8_12.toNat).take (c11.toNat - v8_12.toNat))) fun r13 => (
 cond r13 (Option.bind (α := Int × Int × Unit) (E_number d ((c10.drop v8_12.toNat).take (c11.toNat - v8_12.toNat))) fun r14 => (
 some (((0, (Fm.mk 0 r14.1 ([]) ([] : List Fm))), true, r14.2.1, ()), ((c10, c11, ()), ())))) (cond (decide ((((c10.drop v8_12.toNat).take (c11.toNat - v8_12.toNat)).length : Int) > 30)) (some (((d9.2.2.1.1, (Fm.mk d9.2.2.1.2.1 d9.2.2.1.2.2.1 d9.2.2.1.2.2.2.1 ([] : List Fm))), true, 4, ()), ((c10, c11, ()), ()))) (some (((0, (Fm.mk 1 0 ((c10.drop v8_12.toNat).take (c11.toNat - v8_12.toNat)) ([] : List Fm))), true, 0, ()), ((c10, c11, ()), ())))))) none)))))) none)))
theorem E_next_le (d : Nat) (o0 : (List UInt8) × Int × Unit) : Le (E_next d o0) (G_next o0) := by
  unfold E_next G_next
  try dsimp only
  repeat' (first | with_reducible exact Le.refl _ | with_reducible exact E_skip_le _ _ | with_reducible exact E_text_le _ _ | with_reducible exact E_number_le _ _ | with_reducible apply Le.cond | with_reducible refine Le.bind ?_ (fun _ => ?_) | with_reducible refine Le.loop (fun _ => ?_) _ | with_reducible refine Le.map ?_ | (rename_i q; cases q <;> dsimp only))
-- touches needs no bound
end Go.Ab

/-
  CLOSED RUNS: functions on arguments that are known, run by the kernel.
-/
set_option linter.unusedVariables false
set_option linter.unusedSimpArgs false
namespace Go.Ab
open Go Go.RowKit

mutual
def eqSh : (s : Sh) → s.den → s.den → Bool
  | .d e, x, y => eqE e x y
  | .c _, _, _ => true
  | .ref _ _, _, _ => true
  | .gs _ _, _, _ => true
  | .mref _ _, x, y => eqBl x y
  | .gv _ _, _, _ => false
  | .agg l, x, y => eqShL l x y
  | .tup l, x, y => eqShL l x y
  | .rptr l, x, y => eqShL l x y
  | .fn _ _ _, _, _ => false
  | .iface _ s, x, y => eqSh s x y
def eqShL : (l : List Sh) → Sh.denL l → Sh.denL l → Bool
  | [], _, _ => true
  | s :: l, x, y => eqSh s x.1 y.1 && eqShL l x.2 y.2
end
mutual
theorem eqSh_sound : ∀ (s : Sh) (x y : s.den), eqSh s x y = true → x = y
  | .d e, x, y, h => eqE_sound e x y h
  | .c _, x, y, h => rfl
  | .ref _ _, x, y, h => rfl
  | .gs _ _, x, y, h => rfl
  | .mref _ _, x, y, h => eqBl_sound x y h
  | .gv _ _, x, y, h => by cases h
  | .agg l, x, y, h => eqShL_sound l x y h
  | .tup l, x, y, h => eqShL_sound l x y h
  | .rptr l, x, y, h => eqShL_sound l x y h
  | .fn _ _ _, x, y, h => by cases h
  | .iface _ s, x, y, h => eqSh_sound s x y h
theorem eqShL_sound : ∀ (l : List Sh) (x y : Sh.denL l), eqShL l x y = true → x = y
  | [], x, y, h => rfl
  | s :: l, (x1, x2), (y1, y2), h => by
    have h : (eqSh s x1 y1 && eqShL l x2 y2) = true := h
    rw [Bool.and_eq_true] at h
    rw [eqSh_sound s x1 y1 h.1, eqShL_sound l x2 y2 h.2]
end
def mgE (res : Sh) (a b : Option res.den) : Option res.den := match a with
  | some x => match b with
    | some y => match eqSh res x y with
      | true => some x
      | false => none
    | none => none
  | none => none
theorem mgE_ok (res : Sh) : MgOK (mgE res) := fun a b r h => by
  unfold mgE at h
  split at h
  · rename_i x
    split at h
    · rename_i y
      split at h
      · rename_i e; cases h; exact ⟨rfl, by rw [eqSh_sound res _ _ e]⟩
      · cases h
    · cases h
  · cases h
/-- What a function gives for arguments that are known. -/
def atF (args : List Sh) {R : Type} (x : Sh.denL args) (r : R) (y : Sh.denL args) : Option R := match eqShL args y x with
  | true => some r
  | false => none
theorem sig_at {C : Cx} {l : List (Nat × Sig)} (ht : TabOK C l) {hint : Nat → RH} {g : FuncId} {args : List Sh} {res : Sh} {an : An} {x : Sh.denL args} {r : res.den}
    (h : yfunM C (sigTab l) hint g (mgE res) (fun fn => finN C fn res) args an x = some r) : SigOK C g (.n args res (atF args x r)) := fun y r' hr => by
  unfold atF at hr
  split at hr
  · rename_i e
    cases hr
    rw [eqShL_sound args y x e]
    exact yfun_sound (sigTab_ok ht) (mgE_ok res) h fun fn s => ⟨fun e he hf => by
      have hf' : (resA C.P fn.results.toList s.st).bind (fun v => resY s.σ res v id) = some r := by rcases he with rfl | rfl <;> exact hf
      obtain ⟨v, h1, h2⟩ := Option.bind_eq_some_iff.1 hf'
      obtain ⟨y, rfl, h3, h4⟩ := resY_sound h2
      exact ⟨v, h1, h3, _, rfl, h4⟩, (fun v hv => by cases hv), (fun i hi => by cases hi), (fun i hi => by cases hi)⟩
  · cases hr
end Go.Ab

/-
  THE READER on a text that is known.
-/
set_option linter.unusedVariables false
set_option maxRecDepth 100000
namespace Go.Ab
open Go Go.RowKit Go.Proofs
noncomputable def S_nextE : Sig := .o { pre := [(false, .cells 148 [(.d .str), (.d (.int .i64))])], args := [(.ref 0 0)], post := [(true, .cells 148 [(.d .str), (.d (.int .i64))])], res := (.tup [(.d (.pr (.int .u8) .form)), (.d .bool), (.d (.int .i64))]), f := fun x => E_next 60 x.2.1 }
theorem S_nextE_ok : SigOK CX 116 S_nextE := ⟨S_next_ok.1, fun x r hr => S_next_ok.2 x r (E_next_le 60 _ _ hr)⟩
def parseA : An := .seq .leaf (.seq .leaf (.seq .leaf (.block (.unroll 40 (.block (.joinX [4, 5, 6, 7, 8] .leaf (.seq .leaf (.joinX [4, 5, 6] (.block (.seq .leaf (.cond .leaf (.seq .leaf (.cond .leaf (.seq .leaf (.cond .leaf (.seq .leaf (.cond .leaf (.seq .leaf (.cond .leaf (.seq .leaf (.cond (.seq .leaf (.seq (.frzt [74] .leaf) (.seq .leaf (.cond (.seq (.frzt [79] .leaf) .leaf) (.frzt [79] .leaf))))) .leaf))))))))))))) .leaf))))))))
def parseH : Nat → RH := fun r => match r with
  | 1 => { H := { mb := [13] } }
  | 2 => { H := { mb := [14] } }
  | 3 => { H := { ac := [17] } }
  | 5 => { H := { ty := [(32, .form)] }, pair := some ([0, 1, 2, 3, 4, 5, 6, 7, 8, 9, 11], 10, 12, []) }
  | 19 => { pair := some ([0], 1, 2, [3]) }
  | 20 => { H := { ty := [(92, .form)] } }
  | 22 => { H := { ty := [(105, .form)] } }
  | _ => {}
def text1 : List UInt8 := [40, 102, 32, 49, 32, 34, 97, 92, 110, 98, 34, 32, 40, 103, 41, 41]
def form1 : Fm := .mk 3 0 [] [.mk 1 0 [102] [], .mk 0 1 [] [], .mk 2 0 [97, 10, 98] [], .mk 3 0 [] [.mk 1 0 [103] []]]
theorem parse_run : yfunM CX (sigTab [(116, S_nextE), (117, S_touches)]) parseH 67 (mgE (.tup [.d (.slice .form), .d (.int .i64)])) (fun fn => finN CX fn (.tup [.d (.slice .form), .d (.int .i64)])) [.d .str] parseA (text1, ()) = some ([form1], (0 : Int), ()) := by kernel_rfl
end Go.Ab

/-
  THE EXAMPLE of the chapter: what is read from the known text.
-/
set_option linter.unusedVariables false
set_option maxRecDepth 100000
namespace Go.Ab
open Go Go.RowKit Go.Proofs
noncomputable def S_parse1 : Sig := .n [.d .str] (.tup [.d (.slice .form), .d (.int .i64)]) (atF [.d .str] (text1, ()) ([form1], (0 : Int), ()))
theorem S_parse1_ok : SigOK CX 67 S_parse1 := sig_at (l := [(116, S_nextE), (117, S_touches)]) ⟨S_nextE_ok, S_touches_ok, trivial⟩ parse_run
noncomputable def G_readBad (x0 : Fm) : Option (Bool) := (
 Option.bind (α := Bool) (G_rvalid (Fm.eta x0)) fun r1 => (
 some (!r1)))
def A_readBad : An := .leaf
def H_readBad : Nat → RH := fun _ => {}
noncomputable def S_readBad : Sig := .n [(.d .form)] (.d .bool) (fun x => G_readBad x.1)
theorem S_readBad_ok : SigOK CX 69 S_readBad := sigN_of (l := [(42, S_rvalid)]) ⟨S_rvalid_ok, trivial⟩ (hint := H_readBad) (an := A_readBad) (fun x => by kernel_rfl)
noncomputable def G_indexBad (x0 : List Fm) (x1 : Unit) : Option (Int) := (
 Option.bind (α := Step ((Unit) × (Unit)) (Int))
 (loopM (L := ((List Fm) × Unit × Int × Int × Unit) × (Unit)) (R := Step ((Unit) × (Unit)) (Int)) (fun d1 => (
 let v0_2 := d1.1.1
 let v7_3 := d1.1.2.2.1
 let v8_4 := d1.1.2.2.2.1
 cond (decide (v8_4 < v7_3)) (cond (ixOK v8_4 v0_2.length) (Option.bind (α := Bool) (G_readBad (Fm.eta (v0_2.getD v8_4.toNat (Fm.mk 0 0 [] [])))) fun r5 => (
 cond r5 (some (Step.done (Step.done v8_4))) (some (Step.next ((v0_2, (), v7_3, IntKind.wrap .i64 (v8_4 + 1), ()), ()))))) none) (some (Step.done (Step.next ((), ())))))) ((x0, (), (x0.length : Int), 0, ()), ())) fun qd6 => match qd6 with
 | .next d6 => (
 some (-1))
 | .done r => some r)
def A_indexBad : An := .seq (.leaf) (.join true { env := [], objs := [] } (.seq (.leaf) (.block (.loop { env := [(0, (.d (.slice .form))), (1, (.c (.fn (.func 69) [] []))), (7, (.d (.int .i64))), (8, (.d (.int .i64)))], objs := [] } (.leaf)))) (.leaf))
def H_indexBad : Nat → RH := fun _ => {}
noncomputable def S_indexBad : Sig := .n [(.d (.slice .form)), (.c (.fn (.func 69) [] []))] (.d (.int .i64)) (fun x => G_indexBad x.1 x.2.1)
theorem S_indexBad_ok : SigOK CX 118 S_indexBad := sigN_of (l := [(69, S_readBad)]) ⟨S_readBad_ok, trivial⟩ (hint := H_indexBad) (an := A_indexBad) (fun x => by kernel_rfl)
noncomputable def G_containsBad1 (x0 : List Fm) (x1 : Unit) : Option (Bool) := (
 Option.bind (α := Int) (G_indexBad x0 ()) fun r1 => (
 some (decide (r1 ≥ 0))))
def A_containsBad1 : An := .leaf
def H_containsBad1 : Nat → RH := fun _ => {}
noncomputable def S_containsBad1 : Sig := .n [(.d (.slice .form)), (.c (.fn (.func 69) [] []))] (.d .bool) (fun x => G_containsBad1 x.1 x.2.1)
theorem S_containsBad1_ok : SigOK CX 68 S_containsBad1 := sigN_of (l := [(118, S_indexBad)]) ⟨S_indexBad_ok, trivial⟩ (hint := H_containsBad1) (an := A_containsBad1) (fun x => by kernel_rfl)
noncomputable def G_read1 (x0 : List UInt8) : Option ((List Fm) × Int × Unit) := (
 cond (decide ((x0.length : Int) > 60000)) (some (([] : List Fm), 2, ())) (Option.bind (α := (List Fm) × Int × Unit) (atF [.d .str] (text1, ()) (([form1], (0 : Int), ()) : List Fm × Int × Unit) (x0, ())) fun r1 => (
 cond (!decide (r1.2.1 = 0)) (some (([] : List Fm), r1.2.1, ())) (Option.bind (α := Bool) (G_containsBad1 r1.1 ()) fun r2 => (
 cond r2 (some (([] : List Fm), 2, ())) (some (r1.1, 0, ())))))))
def A_read1 : An := .leaf
def H_read1 : Nat → RH := fun _ => {}
noncomputable def S_read1 : Sig := .n [(.d .str)] (.tup [(.d (.slice .form)), (.d (.int .i64))]) (fun x => G_read1 x.1)
theorem S_read1_ok : SigOK CX 22 S_read1 := sigN_of (l := [(67, S_parse1), (68, S_containsBad1)]) ⟨S_parse1_ok, S_containsBad1_ok, trivial⟩ (hint := H_read1) (an := A_read1) (fun x => by kernel_rfl)
noncomputable def G_one1 (x0 : List UInt8) : Option (Fm × Int × Unit) := (
 Option.bind (α := (List Fm) × Int × Unit) (G_read1 x0) fun r1 => (
 cond (!decide (r1.2.1 = 0)) (some ((Fm.mk 0 0 ([]) ([] : List Fm)), r1.2.1, ())) (cond (!decide ((r1.1.length : Int) = 1)) (some ((Fm.mk 0 0 ([]) ([] : List Fm)), 4, ())) (cond (ixOK 0 r1.1.length) (some ((Fm.eta (r1.1.getD (0 : Int).toNat (Fm.mk 0 0 [] []))), 0, ())) none))))
def A_one1 : An := .leaf
def H_one1 : Nat → RH := fun _ => {}
noncomputable def S_one1 : Sig := .n [(.d .str)] (.tup [(.d .form), (.d (.int .i64))]) (fun x => G_one1 x.1)
theorem S_one1_ok : SigOK CX 24 S_one1 := sigN_of (l := [(22, S_read1)]) ⟨S_read1_ok, trivial⟩ (hint := H_one1) (an := A_one1) (fun x => by kernel_rfl)
noncomputable def G_sane01  : Option (Bool) := (
 Option.bind (α := Fm × Int × Unit) (G_one1 ([40, 102, 32, 49, 32, 34, 97, 92, 110, 98, 34, 32, 40, 103, 41, 41])) fun r1 => (
 Option.bind (α := Int) (cond (decide (r1.2.1 = 0)) (L_size (Fm.eta r1.1)) (some (0 : Int))) fun r2 => (
 Option.bind (α := Int) (cond (cond (decide (r1.2.1 = 0)) (decide (r2 = 6)) false) (L_depth (Fm.eta r1.1)) (some (0 : Int))) fun r3 => (
 Option.bind (α := List UInt8) (cond (cond (cond (decide (r1.2.1 = 0)) (decide (r2 = 6)) false) (decide (r3 = 3)) false) (G_head (Fm.eta r1.1)) (some ([] : List UInt8))) fun r4 => (
 some (cond (cond (cond (decide (r1.2.1 = 0)) (decide (r2 = 6)) false) (decide (r3 = 3)) false) (decide (r4 = [102])) false))))))
def A_sane01 : An := .leaf
def H_sane01 : Nat → RH := fun _ => {}
noncomputable def S_sane01 : Sig := .n [] (.d .bool) (fun x => G_sane01 )
theorem S_sane01_ok : SigOK CX 28 S_sane01 := sigN_of (l := [(24, S_one1), (44, S_size_l), (45, S_depth_l), (49, S_head)]) ⟨S_one1_ok, S_size_l_ok, S_depth_l_ok, S_head_ok, trivial⟩ (hint := H_sane01) (an := A_sane01) (fun x => by kernel_rfl)
noncomputable def G_requal (x0 : Fm) (x1 : Fm) : Option (Bool) := (
 Option.bind (α := Int) (L_compare (Fm.eta x0) (Fm.eta x1)) fun r1 => (
 some (decide (r1 = 0))))
def A_requal : An := .leaf
def H_requal : Nat → RH := fun _ => {}
noncomputable def S_requal : Sig := .n [(.d .form), (.d .form)] (.d .bool) (fun x => G_requal x.1 x.2.1)
theorem S_requal_ok : SigOK CX 99 S_requal := sigN_of (l := [(97, S_compare_l)]) ⟨S_compare_l_ok, trivial⟩ (hint := H_requal) (an := A_requal) (fun x => by kernel_rfl)
end Go.Ab

/-
  VALID FORMS: what the reader's Valid comes to; and the example of the chapter.
-/
set_option linter.unusedVariables false
set_option linter.unusedSimpArgs false
set_option maxRecDepth 100000
namespace Go.Ab
open Go Go.RowKit Go.Proofs
mutual
def validS : Fm → Int → Int → Bool × Int
  | .mk k n t l, p, d => if p - 1 < 0 ∨ d = 0 ∨ leafS k n t l = false then (false, p - 1) else validLS l (p - 1) (d - 1)
def validLS : List Fm → Int → Int → Bool × Int
  | [], p, _ => (true, p)
  | f :: r, p, d => if (validS f p d).1 = true then validLS r (validS f p d).2 d else (false, (validS f p d).2)
end
def validF (f : Fm) : Bool := (validS f 20000 100).1
theorem validLS_drop {l : List Fm} {i : Nat} (h : i < l.length) (p d : Int) : validLS (l.drop i) p d = if (validS l[i] p d).1 = true then validLS (l.drop (i + 1)) (validS l[i] p d).2 d else (false, (validS l[i] p d).2) := by
  rw [List.drop_eq_getElem_cons h]; simp only [validLS]
theorem validLS_ok : ∀ (l : List Fm), (∀ f ∈ l, ∀ p d : Int, 0 ≤ p → (validS f p d).1 = true → 0 ≤ (validS f p d).2 ∧ (validS f p d).2 ≤ p) → ∀ p d : Int, 0 ≤ p → (validLS l p d).1 = true → 0 ≤ (validLS l p d).2 ∧ (validLS l p d).2 ≤ p
  | [], _, p, d, hp, _ => ⟨hp, Int.le_refl _⟩
  | f :: r, h, p, d, hp, ht => by
    simp only [validLS] at ht ⊢
    split at ht
    · rename_i hf
      rw [if_pos hf]
      obtain ⟨h1, h2⟩ := h f (by simp) p d hp hf
      obtain ⟨h3, h4⟩ := validLS_ok r (fun g hg => h g (by simp [hg])) _ d h1 ht
      exact ⟨h3, by omega⟩
    · cases ht
theorem validS_ok : ∀ f : Fm, ∀ p d : Int, 0 ≤ p → (validS f p d).1 = true → 0 ≤ (validS f p d).2 ∧ (validS f p d).2 ≤ p := Fm.ind fun k n t l ih p d hp ht => by
  simp only [validS] at ht ⊢
  split at ht
  · cases ht
  · rename_i hc
    rw [if_neg hc]
    obtain ⟨h1, h2⟩ := validLS_ok l ih (p - 1) (d - 1) (by have := fun h => hc (.inl h); omega) ht
    exact ⟨h1, by omega⟩
def cI (l : List Fm) (p d : Int) : Nat → Int
  | 0 => p
  | i + 1 => match l[i]? with
    | some f => if (validS f (cI l p d i) d).1 = true then (validS f (cI l p d i) d).2 else cI l p d i
    | none => cI l p d i
theorem cI_ok (l : List Fm) (p d : Int) (hp : 0 ≤ p) : ∀ i, 0 ≤ cI l p d i ∧ cI l p d i ≤ p
  | 0 => ⟨hp, Int.le_refl _⟩
  | i + 1 => by
    obtain ⟨h1, h2⟩ := cI_ok l p d hp i
    simp only [cI]
    split
    · rename_i f hf
      split
      · rename_i hv
        obtain ⟨h3, h4⟩ := validS_ok f _ d h1 hv
        exact ⟨h3, by omega⟩
      · exact ⟨h1, h2⟩
    · exact ⟨h1, h2⟩
theorem validS_eq (f : Fm) (p d : Int) : validS f p d = if p - 1 < 0 ∨ d = 0 ∨ leafS f.k f.n f.t f.l = false then (false, p - 1) else validLS f.l (p - 1) (d - 1) := by
  cases f; simp only [validS]; rfl
theorem valid_up : ∀ k, ∀ (f : Fm) (p d : Int), f.big ≤ 4611686018427387000 → 0 ≤ p → p ≤ 4611686018427387000 → 0 ≤ d → d ≤ 4611686018427387000 → Up (k < f.big) (G_valid k f d (p, ())) ((validS f p d).1, (((validS f p d).2, ()), ()))
  | 0 => fun f p d hb _ _ _ _ => .inr ⟨by unfold G_valid; rfl, by have := big_pos f; omega⟩
  | k + 1 => fun f p d hb hp0 hp1 hd0 hd1 => by
    have hkb := big_kids f
    have hln := length_le_big f.l
    have hmem : ∀ g ∈ f.l, g.big < f.big := fun g hg => by have := big_mem hg; omega
    rw [validS_eq]
    unfold G_valid
    simp only [Fm.eta_eq, leaf_val]
    rw [show IntKind.wrap .i64 (p - 1) = p - 1 from w64 (by omega) (by omega)]
    generalize leafS f.k f.n f.t f.l = b
    generalize f.l = l at hkb hln hmem
    by_cases h1 : p - 1 < 0
    · simp only [h1, decide_true, cond_true, Bool.not_true, cond_false, Option.bind_some, true_or, if_true]; exact .of rfl
    · by_cases h2 : d = 0
      · simp only [h1, h2, decide_false, decide_true, cond_true, cond_false, Bool.not_true, Option.bind_some, true_or, or_true, if_true]; exact .of rfl
      · cases b with
        | false => simp only [h1, h2, decide_false, cond_true, cond_false, Bool.not_false, Option.bind_some, or_true, if_true]; exact .of rfl
        | true =>
          simp only [h1, h2, decide_false, cond_true, cond_false, Bool.not_false, Bool.not_true, Option.bind_some, Bool.true_eq_false, or_false, if_false]
          refine loop_ix (fun i => (((), d, l, (l.length : Int), (i : Int), ()), ((cI l (p - 1) (d - 1) i, ()), ()))) (fun i => ((validLS (l.drop i) (cI l (p - 1) (d - 1) i) (d - 1)).1, (((validLS (l.drop i) (cI l (p - 1) (d - 1) i) (d - 1)).2, ()), ()))) l.length (fun i hi => ?_) ?_
          · have e1 : decide ((i : Int) < (l.length : Int)) = true := by simp [hi]
            have e2 : ixOK (i : Int) l.length = true := ixOK_iff.2 (by omega)
            obtain ⟨c1, c2⟩ := cI_ok l (p - 1) (d - 1) (by omega) i
            have hg := hmem _ (List.getElem_mem hi)
            simp only [e1, e2, cond_true, Int.toNat_natCast, getD_in hi, Fm.eta_eq, wrapN (show i < 4611686018427387904 by omega), validLS_drop hi, w64 (show -9223372036854775808 ≤ d - 1 by omega) (by omega)]
            have hcI : cI l (p - 1) (d - 1) (i + 1) = if (validS l[i] (cI l (p - 1) (d - 1) i) (d - 1)).1 = true then (validS l[i] (cI l (p - 1) (d - 1) i) (d - 1)).2 else cI l (p - 1) (d - 1) i := by
              simp only [cI, List.getElem?_eq_getElem hi]
            rcases valid_up k l[i] (cI l (p - 1) (d - 1) i) (d - 1) (by omega) c1 (by omega) (by omega) (by omega) with h | ⟨h, hn⟩
            · rw [h]
              simp only [Option.bind_some]
              by_cases hv : (validS l[i] (cI l (p - 1) (d - 1) i) (d - 1)).1 = true
              · rw [if_pos hv] at hcI
                refine .inl ⟨?_, ?_⟩
                · rw [hcI, hv]; rfl
                · rw [if_pos hv, hcI]
              · have hv' : (validS l[i] (cI l (p - 1) (d - 1) i) (d - 1)).1 = false := by simpa using hv
                refine .inr (.inl ⟨.done (false, (((validS l[i] (cI l (p - 1) (d - 1) i) (d - 1)).2, ()), ())), by rw [hv']; rfl, .of ?_⟩)
                rw [if_neg hv]
            · rw [h]; exact .inr (.inr ⟨rfl, by omega⟩)
          · refine ⟨.next ((), ((cI l (p - 1) (d - 1) l.length, ()), ())), by simp, .of ?_⟩
            simp [validLS]
theorem valid_val {f : Fm} {p d : Int} (hb : f.big ≤ 4611686018427387000) (h1 : 0 ≤ p) (h2 : p ≤ 4611686018427387000) (h3 : 0 ≤ d) (h4 : d ≤ 4611686018427387000) : L_valid f d (p, ()) = some ((validS f p d).1, (((validS f p d).2, ()), ())) := limF_up (b := f.big) fun k => valid_up k f p d hb h1 h2 h3 h4
theorem rvalid_val {f : Fm} (hb : f.big ≤ 4611686018427387000) : G_rvalid f = some (validF f) := by
  unfold G_rvalid
  rw [Fm.eta_eq, valid_val hb (by omega) (by omega) (by omega) (by omega)]
  rfl
theorem head_val (f : Fm) : G_head f = some (match (if f.k = 3 then f.l else []) with | [] => [] | g :: _ => if g.k = 1 then g.t else []) := by
  unfold G_head
  simp only [Fm.eta_eq, kids_val, Option.bind_some]
  generalize (if f.k = 3 then f.l else []) = l
  cases l with
  | nil => simp [ixOK]
  | cons g r =>
    have e : ixOK 0 (g :: r).length = true := ixOK_iff.2 (by simp only [List.length_cons]; omega)
    have e2 : decide (((g :: r).length : Int) > 0) = true := by simp only [List.length_cons]; simp
    simp only [e, e2, Bool.true_or, cond_true]
    show cond (decide (g.k = 1)) (some g.t) (some []) = _
    by_cases h : g.k = 1 <;> simp [h]
/-! ### The example -/
theorem one1_val : G_one1 text1 = some (form1, 0, ()) := by
  have hbig : form1.big ≤ 4611686018427387000 := by decide
  have hv : validF form1 = true := by kernel_rfl
  have hb : G_containsBad1 [form1] () = some false := by
    unfold G_containsBad1 G_indexBad
    rw [loopM_next (l' := (([form1], (), 1, 1, ()), ())) (by
      show (Option.bind (α := Bool) (G_readBad (Fm.eta form1)) fun r5 => _) = _
      unfold G_readBad
      rw [Fm.eta_eq, Fm.eta_eq, rvalid_val hbig, hv]
      rfl), loopM_done (r := .next ((), ())) (by rfl)]
    rfl
  unfold G_one1 G_read1
  have e1 : decide ((text1.length : Int) > 60000) = false := by decide
  have e2 : (atF [.d .str] (text1, ()) (([form1], (0 : Int), ()) : List Fm × Int × Unit) (text1, ())) = some ([form1], (0 : Int), ()) := by kernel_rfl
  rw [e1, e2]
  simp only [cond_false, Option.bind_some, decide_true, Bool.not_true, hb]
  rfl
theorem sane01_val : G_sane01 = some true := by
  have hbig : form1.big ≤ 4611686018427387000 := by decide
  unfold G_sane01
  rw [show ([40, 102, 32, 49, 32, 34, 97, 92, 110, 98, 34, 32, 40, 103, 41, 41] : List UInt8) = text1 from rfl, one1_val]
  simp only [Option.bind_some, decide_true, cond_true, Fm.eta_eq, size_val hbig, depth_val hbig, head_val]
  rfl
end Go.Ab

/-
  FORMS: the order is a sign; equal forms.
-/
set_option linter.unusedVariables false
set_option linter.unusedSimpArgs false
set_option maxRecDepth 100000
namespace Go.Ab
open Go Go.RowKit Go.Proofs
theorem cmpI_le (a b : Int) : -1 ≤ cmpI a b ∧ cmpI a b ≤ 1 := by unfold cmpI; split <;> (try split) <;> omega
theorem cmpS_le (a b : List UInt8) : -1 ≤ cmpS a b ∧ cmpS a b ≤ 1 := by unfold cmpS; split <;> (try split) <;> omega
theorem cmpL_le : ∀ l : List Fm, (∀ f ∈ l, ∀ g, -1 ≤ cmpF f g ∧ cmpF f g ≤ 1) → ∀ m, -1 ≤ cmpL l m ∧ cmpL l m ≤ 1
  | [], _, m => by simp only [cmpL]; split <;> omega
  | f :: r, h, m => by
    cases m with
    | nil => simp only [cmpL]; omega
    | cons g m =>
      simp only [cmpL]
      have h1 := h f (by simp) g
      have h2 := cmpL_le r (fun g hg => h g (by simp [hg])) m
      split <;> omega
theorem cmpF_le : ∀ f : Fm, ∀ g : Fm, -1 ≤ cmpF f g ∧ cmpF f g ≤ 1 := Fm.ind fun k n t l ih g => by
  obtain ⟨k', n', t', l'⟩ := g
  rw [cmpF_mk]
  split
  · split
    · exact cmpI_le _ _
    · split
      · exact cmpS_le _ _
      · split
        · exact cmpL_le l ih l'
        · omega
  · exact cmpI_le _ _
theorem requal_val {f g : Fm} (hb : f.big ≤ 4611686018427387000) : G_requal f g = some (decide (cmpF f g = 0)) := by
  unfold G_requal
  simp only [Fm.eta_eq, compare_val hb, Option.bind_some]
end Go.Ab

/-
  FORMS: parts of a form, and a form with another part.
-/
set_option linter.unusedVariables false
set_option maxRecDepth 100000
namespace Go.Ab
open Go Go.RowKit Go.Proofs
noncomputable def G_rat (x0 : Fm) (x1 : List Int) : Option (Fm × Int × Unit) := (
 Option.bind (α := Step ((Unit × Unit × Unit) × ((Int × Int × (List UInt8) × (List Fm) × Unit) × (Int × Int × (List UInt8) × Unit × Unit) × Unit)) (Fm × Int × Unit))
 (loopM (L := (Unit × Unit × (List Int) × Int × Int × Unit) × ((Int × Int × (List UInt8) × (List Fm) × Unit) × (Int × Int × (List UInt8) × Unit × Unit) × Unit)) (R := Step ((Unit × Unit × Unit) × ((Int × Int × (List UInt8) × (List Fm) × Unit) × (Int × Int × (List UInt8) × Unit × Unit) × Unit)) (Fm × Int × Unit)) (fun d1 => (
 let c2 := d1.2.1.1
 let c3 := d1.2.1.2.1
 let c4 := d1.2.1.2.2.1
 let c5 := d1.2.1.2.2.2.1
 let v9_6 := d1.1.2.2.1
 let v10_7 := d1.1.2.2.2.1
 let v11_8 := d1.1.2.2.2.2.1
 cond (decide (v11_8 < v10_7)) (cond (ixOK v11_8 v9_6.length) (Option.bind (α := List Fm) (G_kids (Fm.mk c2 c3 c4 c5)) fun r9 => (
 cond (cond (decide ((v9_6.getD v11_8.toNat (0 : Int)) < 0)) true (decide ((v9_6.getD v11_8.toNat (0 : Int)) ≥ (r9.length : Int)))) (some (Step.done (Step.done ((Fm.mk 0 0 ([]) ([] : List Fm)), 3, ())))) (cond (ixOK (v9_6.getD v11_8.toNat (0 : Int)) r9.length) (some (Step.next (((), (), v9_6, v10_7, IntKind.wrap .i64 (v11_8 + 1), ()), (((r9.getD (v9_6.getD v11_8.toNat (0 : Int)).toNat (Fm.mk 0 0 [] [])).k, (r9.getD (v9_6.getD v11_8.toNat (0 : Int)).toNat (Fm.mk 0 0 [] [])).n, (r9.getD (v9_6.getD v11_8.toNat (0 : Int)).toNat (Fm.mk 0 0 [] [])).t, (r9.getD (v9_6.getD v11_8.toNat (0 : Int)).toNat (Fm.mk 0 0 [] [])).l, ()), (d1.2.2.1.1, d1.2.2.1.2.1, d1.2.2.1.2.2.1, (), ()), ())))) none))) none) (some (Step.done (Step.next (((), (), ()), ((c2, c3, c4, c5, ()), (d1.2.2.1.1, d1.2.2.1.2.1, d1.2.2.1.2.2.1, (), ()), ()))))))) (((), (), x1, (x1.length : Int), 0, ()), ((x0.k, x0.n, x0.t, x0.l, ()), (0, 0, [], (), ()), ()))) fun qd10 => match qd10 with
 | .next d10 => (
 let c11 := d10.2.1.1
 let c12 := d10.2.1.2.1
 let c13 := d10.2.1.2.2.1
 let c14 := d10.2.1.2.2.2.1
 some ((Fm.mk c11 c12 c13 c14), 0, ()))
 | .done r => some r)
def A_rat : An := .seq (.leaf) (.join true { env := [(2, (.ref 0 0)), (4, (.ref 1 0))], objs := [(false, .cells 26 [(.d (.int .i64)), (.d (.int .i64)), (.d .str), (.d (.slice .form))]), (false, .cells 26 [(.d (.int .i64)), (.d (.int .i64)), (.d .str), (.c (.base (.slice none 0 0)))])] } (.seq (.leaf) (.block (.loop { env := [(2, (.ref 0 0)), (4, (.ref 1 0)), (9, (.d (.slice (.int .i64)))), (10, (.d (.int .i64))), (11, (.d (.int .i64)))], objs := [(false, .cells 26 [(.d (.int .i64)), (.d (.int .i64)), (.d .str), (.d (.slice .form))]), (false, .cells 26 [(.d (.int .i64)), (.d (.int .i64)), (.d .str), (.c (.base (.slice none 0 0)))])] } (.leaf)))) (.leaf))
def H_rat : Nat → RH := fun r => match r with
  | 0 => { H := { mb := [2] } }
  | _ => {}
noncomputable def S_rat : Sig := .n [(.d .form), (.d (.slice (.int .i64)))] (.tup [(.d .form), (.d (.int .i64))]) (fun x => G_rat x.1 x.2.1)
theorem S_rat_ok : SigOK CX 29 S_rat := sigN_of (l := [(73, S_kids)]) ⟨S_kids_ok, trivial⟩ (hint := H_rat) (an := A_rat) (fun x => by kernel_rfl)
noncomputable def G_cloneForm_ne (x0 : List Fm) : Option ((Unit) × ((List Fm) × Unit)) := (
 cond (!x0.isEmpty) (cond (decide ((([] : List Fm).length + x0.length) * 56 ≤ 140737488355328)) (some ((), (([] : List Fm) ++ x0, ()))) none) none)
def A_cloneForm_ne : An := .leaf
def H_cloneForm_ne : Nat → RH := fun r => match r with
  | 3 => { H := { mb := [5], ty := [(5, .form), (7, .form)] } }
  | _ => {}
noncomputable def S_cloneForm_ne : Sig := .o { pre := [], args := [(.d (.slice .form))], post := [(false, .tg .form 26)], res := (.gs 0 .form), f := fun x => G_cloneForm_ne x.1.1 }
theorem S_cloneForm_ne_ok : SigOK CX 95 S_cloneForm_ne := sigO_of (l := []) trivial (hint := H_cloneForm_ne) (an := A_cloneForm_ne) (by kernel_rfl) (fun x => by kernel_rfl)
noncomputable def G_cloneForm_nil  : Option ((Unit) × ((List Fm) × Unit)) := (
 some ((), (([] : List Fm), ())))
def A_cloneForm_nil : An := .leaf
def H_cloneForm_nil : Nat → RH := fun _ => {}
noncomputable def S_cloneForm_nil : Sig := .o { pre := [], args := [(.c (.base (.slice none 0 0)))], post := [(false, .tg .form 26)], res := (.gs 0 .form), f := fun x => G_cloneForm_nil }
theorem S_cloneForm_nil_ok : SigOK CX 95 S_cloneForm_nil := sigO_of (l := []) trivial (hint := H_cloneForm_nil) (an := A_cloneForm_nil) (by kernel_rfl) (fun x => by kernel_rfl)
noncomputable def G_cloneForm_emp  : Option ((Unit) × ((List Fm) × Unit)) := (
 cond (decide ((([] : List Fm).length + ([] : List Fm).length) * 56 ≤ 140737488355328)) (some ((), (([] : List Fm) ++ ([] : List Fm), ()))) none)
def A_cloneForm_emp : An := .leaf
def H_cloneForm_emp : Nat → RH := fun r => match r with
  | 3 => { H := { mb := [5], ty := [(5, .form), (7, .form)] } }
  | _ => {}
noncomputable def S_cloneForm_emp (a : Addr) (cap : Nat) : Sig := .o { pre := [], args := [(.c (.base (.slice (some a) 0 cap)))], post := [(false, .tg .form 26)], res := (.gs 0 .form), f := fun x => G_cloneForm_emp }
theorem S_cloneForm_emp_ok (a : Addr) (cap : Nat) : SigOK CX 95 (S_cloneForm_emp a cap) := sigO_of (l := []) trivial (hint := H_cloneForm_emp) (an := A_cloneForm_emp) (by kernel_rfl) (fun x => by kernel_rfl)
noncomputable def S_cloneForm : Sig := .o { pre := [], args := [(.d (.slice .form))], post := [(false, .tg .form 26)], res := (.gs 0 .form), f := fun x => cloneF 56 x.1.1 }
theorem S_cloneForm_ok : SigOK CX 95 S_cloneForm := by
  refine ⟨by kernel_rfl, fun x r hr B kn m w vs hI hlay hargs => ?_⟩
  obtain ⟨⟨(l : List Fm), u1⟩, u2⟩ := x
  have hr : cloneF 56 l = some r := hr
  have hargs : RelL kn m [.tvec .form l] vs := hargs
  obtain ⟨v, vs1, rfl, hv, hvs⟩ := RelL.uncons hargs
  have : vs1 = [] := List.eq_nil_of_length_eq_zero hvs.1.symm
  subst this
  cases l with
  | cons a l => exact S_cloneForm_ne_ok.2 (((a :: l), ()), ()) r (show G_cloneForm_ne (a :: l) = some r by simpa [cloneF, G_cloneForm_ne] using hr) B kn m w _ hI hlay hargs
  | nil =>
    cases hr
    have hv := rel_tvec.1 hv
    have one : ∀ u : Value, RelL kn m [.base u] [u] := fun u => .cons (.base u) (.nil _ _)
    generalize hrows : List.map (E.row .form) ([] : List Fm) = rows at hv
    cases hv with
    | vecNil _ a cap => exact (S_cloneForm_emp_ok a cap).2 (((), ()), ()) _ rfl B kn m w _ hI hlay (one _)
    | vecNone => exact S_cloneForm_nil_ok.2 (((), ()), ()) _ rfl B kn m w _ hI hlay (one _)
    | vec _ _ b o cap vals =>
      subst hrows
      exact (S_cloneForm_emp_ok ⟨b, o, none⟩ cap).2 (((), ()), ()) _ rfl B kn m w _ hI hlay (one _)
noncomputable def G_rput (k : Nat) (x0 : Fm) (x1 : List Int) (x2 : Fm) : Option (Fm) := match k with
| 0 => none
| k + 1 => (
 cond (decide ((x1.length : Int) = 0)) (some (Fm.eta x2)) (Option.bind (α := (Unit) × ((List Fm) × Unit)) (cloneF 56 x0.l) fun r1 => (
 cond (ixOK 0 x1.length) (cond (ixOK 0 x1.length) (cond (ixOK (x1.getD (0 : Int).toNat (0 : Int)) r1.2.1.length) (cond (decide ((x1.getD (0 : Int).toNat (0 : Int)).toNat < r1.2.1.length)) (cond (slOK 1 (x1.length : Int) x1.length) (Option.bind (α := Fm) (G_rput k (Fm.eta (r1.2.1.getD ((x1.getD (0 : Int).toNat (0 : Int)).toNat) (Fm.mk 0 0 [] []))) ((x1.drop (1 : Int).toNat).take ((x1.length : Int).toNat - (1 : Int).toNat)) (Fm.eta x2)) fun r2 => (
 cond (ixOK (x1.getD (0 : Int).toNat (0 : Int)) r1.2.1.length) (cond (decide ((x1.getD (0 : Int).toNat (0 : Int)).toNat < r1.2.1.length)) (some (Fm.mk x0.k x0.n x0.t (r1.2.1.set ((x1.getD (0 : Int).toNat (0 : Int)).toNat) (Fm.eta r2)))) none) none)) none) none) none) none) none)))
def A_rput : An := .leaf
def H_rput : Nat → RH := fun r => match r with
  | 0 => { H := { mb := [3] } }
  | 3 => { H := { ac := [14] } }
  | 4 => { H := { pl := [18, 22, 27] } }
  | _ => {}
noncomputable def S_rput (k : Nat) : Sig := .n [(.d .form), (.d (.slice (.int .i64))), (.d .form)] (.d .form) (fun x => G_rput k x.1 x.2.1 x.2.2.1)
theorem S_rput_rec : ∀ k, SigOK CX 75 (S_rput k)
| 0 => fun x r h => by cases h
| k + 1 => by
  have ih := S_rput_rec k
  exact sigN_of (l := [(95, S_cloneForm), (75, (S_rput k))]) ⟨S_cloneForm_ok, ih, trivial⟩ (hint := H_rput) (an := A_rput) (fun x => by kernel_rfl)
theorem S_rput_ok : ∀ k, SigOK CX 75 (S_rput k) := fun k => S_rput_rec k
noncomputable def L_rput (x0 : Fm) (x1 : List Int) (x2 : Fm) : Option (Fm) := limF fun k => G_rput k x0 x1 x2
noncomputable def S_rput_l : Sig := .n [(.d .form), (.d (.slice (.int .i64))), (.d .form)] (.d .form) (fun x => L_rput x.1 x.2.1 x.2.2.1)
theorem S_rput_l_ok : SigOK CX 75 S_rput_l := SigOK.limN S_rput_ok fun x r h => limF_ex h
noncomputable def G_rPut (x0 : Fm) (x1 : List Int) (x2 : Fm) : Option (Fm × Int × Unit) := (
 Option.bind (α := Fm × Int × Unit) (G_rat (Fm.eta x0) x1) fun r1 => (
 cond (!decide (r1.2.1 = 0)) (some ((Fm.mk 0 0 ([]) ([] : List Fm)), r1.2.1, ())) (Option.bind (α := Fm) (L_rput (Fm.eta x0) x1 (Fm.eta x2)) fun r2 => (
 Option.bind (α := Bool) (G_rvalid (Fm.eta r2)) fun r3 => (
 cond (!r3) (some ((Fm.mk 0 0 ([]) ([] : List Fm)), 2, ())) (some ((Fm.eta r2), 0, ())))))))
def A_rPut : An := .leaf
def H_rPut : Nat → RH := fun r => match r with
  | 0 => { H := { mb := [3] } }
  | _ => {}
noncomputable def S_rPut : Sig := .n [(.d .form), (.d (.slice (.int .i64))), (.d .form)] (.tup [(.d .form), (.d (.int .i64))]) (fun x => G_rPut x.1 x.2.1 x.2.2.1)
theorem S_rPut_ok : SigOK CX 31 S_rPut := sigN_of (l := [(29, S_rat), (75, S_rput_l), (42, S_rvalid)]) ⟨S_rat_ok, S_rput_l_ok, S_rvalid_ok, trivial⟩ (hint := H_rPut) (an := A_rPut) (fun x => by kernel_rfl)
end Go.Ab

/-
  PARTS OF A FORM, and a form with another part, in plain terms.
-/
set_option linter.unusedVariables false
set_option linter.unusedSimpArgs false
set_option maxRecDepth 100000
namespace Go.Ab
open Go Go.RowKit Go.Proofs
def kidsF (f : Fm) : List Fm := if f.k = 3 then f.l else []
def dF : Fm := .mk 0 0 [] []
def atP : List Int → Fm → Option Fm
  | [], f => some f
  | i :: p, f => if i < 0 ∨ i ≥ ((kidsF f).length : Int) then none else atP p ((kidsF f).getD i.toNat dF)
def atR (p : List Int) (f : Fm) : Fm × Int × Unit := match atP p f with
  | some g => (g, 0, ())
  | none => (dF, 3, ())
def stepI (f : Fm) (path : List Int) : Nat → Fm
  | 0 => f
  | i + 1 => (kidsF (stepI f path i)).getD (path.getD i 0).toNat dF
theorem rat_val {f : Fm} {path : List Int} (hp : path.length < 4611686018427387904) : G_rat f path = some (atR path f) := by
  have key : Up False (G_rat f path) (atR path f) := by
    unfold G_rat
    refine loop_ix (fun i => (((), (), path, (path.length : Int), (i : Int), ()), (((stepI f path i).k, (stepI f path i).n, (stepI f path i).t, (stepI f path i).l, ()), (0, 0, [], (), ()), ()))) (fun i => atR (path.drop i) (stepI f path i)) path.length (fun i hi => ?_) ?_
    · have e1 : decide ((i : Int) < (path.length : Int)) = true := by simp [hi]
      have e2 : ixOK (i : Int) path.length = true := ixOK_iff.2 (by omega)
      have e3 : stepI f path (i + 1) = (kidsF (stepI f path i)).getD path[i].toNat dF := by simp only [stepI, getD_in hi]
      have e4 : atR (path.drop i) (stepI f path i) = if path[i] < 0 ∨ path[i] ≥ ((kidsF (stepI f path i)).length : Int) then (dF, 3, ()) else atR (path.drop (i + 1)) ((kidsF (stepI f path i)).getD path[i].toNat dF) := by
        unfold atR
        rw [List.drop_eq_getElem_cons hi]
        simp only [atP]
        by_cases c : path[i] < 0 ∨ path[i] ≥ ((kidsF (stepI f path i)).length : Int)
        · rw [if_pos c, if_pos c]
        · rw [if_neg c, if_neg c]
      have e5 : G_kids (Fm.mk (stepI f path i).k (stepI f path i).n (stepI f path i).t (stepI f path i).l) = some (kidsF (stepI f path i)) := by
        rw [kids_val]; rfl
      simp only [e1, e2, e3, e4, e5, cond_true, Option.bind_some, Int.toNat_natCast, getD_in hi, wrapN (show i < 4611686018427387904 by omega)]
      generalize path[i] = j
      generalize kidsF (stepI f path i) = l
      by_cases c1 : j < 0
      · refine .inr (.inl ⟨_, by simp [c1]; rfl, .of ?_⟩)
        simp [c1, dF]
      · by_cases c2 : j ≥ (l.length : Int)
        · refine .inr (.inl ⟨_, by simp [c1, c2]; rfl, .of ?_⟩)
          simp [c2, dF]
        · have e6 : ixOK j l.length = true := ixOK_iff.2 (by omega)
          refine .inl ⟨?_, ?_⟩
          · simp only [c1, c2, e6, decide_false, cond_false, cond_true]
            rfl
          · simp [c1, c2]
    · refine ⟨_, by simp only [Int.lt_irrefl, decide_false, cond_false]; rfl, .of ?_⟩
      simp only [List.drop_length]
      show some (Fm.eta (stepI f path path.length), 0, ()) = _
      rw [Fm.eta_eq]
      rfl
  rcases key with h | ⟨_, h⟩
  · exact h
  · cases h
def putS : List Int → Fm → Fm → Fm
  | [], f, g => g
  | i :: p, f, g => .mk f.k f.n f.t (f.l.set i.toNat (putS p (f.l.getD i.toNat dF) g))
theorem atP_cons {i : Int} {p : List Int} {f h : Fm} (ha : atP (i :: p) f = some h) : f.k = 3 ∧ 0 ≤ i ∧ i < (f.l.length : Int) ∧ atP p (f.l.getD i.toNat dF) = some h := by
  simp only [atP] at ha
  split at ha
  · cases ha
  · rename_i hc
    have hk : f.k = 3 := Classical.byContradiction fun hk => by
      unfold kidsF at hc
      rw [if_neg hk] at hc
      simp at hc
      omega
    unfold kidsF at hc ha
    rw [if_pos hk] at hc ha
    exact ⟨hk, by omega, by omega, ha⟩
theorem kid_big {f : Fm} {i : Nat} (hi : i < f.l.length) : (f.l.getD i dF).big < f.big := by
  rw [getD_in hi]
  have h1 := big_mem (List.getElem_mem hi)
  have h2 := big_kids f
  omega
theorem rput_up : ∀ (path : List Int) (k : Nat) (f g h : Fm), atP path f = some h → path.length ≤ 4611686018427387000 → f.big ≤ 2000000000000 → Up (k < path.length + 1) (G_rput k f path g) (putS path f g)
  | [], k, f, g, h, _, hk, _ => by
    cases k with
    | zero => exact .inr ⟨by unfold G_rput; rfl, by omega⟩
    | succ k => exact .of (by unfold G_rput; simp [putS, Fm.eta_eq])
  | i :: p, k, f, g, h, ha, hk, hb => by
    cases k with
    | zero => exact .inr ⟨by unfold G_rput; rfl, by omega⟩
    | succ k =>
      obtain ⟨h1, h2, h3, h4⟩ := atP_cons ha
      have hl := length_le_big f.l
      have hkb := big_kids f
      simp only [List.length_cons] at hk
      have ei : i.toNat < f.l.length := by omega
      have ih := rput_up p k (f.l.getD i.toNat dF) g h h4 (by omega) (by have := kid_big ei; omega)
      have e0 : decide (((i :: p).length : Int) = 0) = false := by simp only [List.length_cons]; apply decide_eq_false; omega
      have e1 : ixOK 0 (i :: p).length = true := ixOK_iff.2 (by simp only [List.length_cons]; omega)
      have e2 : ixOK i f.l.length = true := ixOK_iff.2 (by omega)
      have e3 : decide (i.toNat < f.l.length) = true := by simp [ei]
      have e4 : slOK 1 ((i :: p).length : Int) (i :: p).length = true := by simp [slOK]; omega
      have e5 : cloneF 56 f.l = some ((), (f.l, ())) := by
        unfold cloneF
        rw [show decide (f.l.length * 56 ≤ 140737488355328) = true from by simp; omega]
        rfl
      have e6 : List.take (((i :: p).length : Int).toNat - (1 : Int).toNat) (List.drop (1 : Int).toNat (i :: p)) = p := by
        simp only [List.length_cons, Int.toNat_one, Int.toNat_natCast, List.drop_succ_cons, List.drop_zero]
        apply List.take_of_length_le
        omega
      have e7 : (i :: p).getD (0 : Int).toNat (0 : Int) = i := rfl
      unfold G_rput
      simp only [e0, e1, e5, e6, e7, e2, e3, e4, cond_false, cond_true, Option.bind_some, Fm.eta_eq]
      rcases ih with ih | ⟨ih, hn⟩
      · have ih' : G_rput k (f.l.getD i.toNat (Fm.mk 0 0 [] [])) p g = some (putS p (f.l.getD i.toNat dF) g) := ih
        exact .of (by simp only [ih', Option.bind_some, putS])
      · have ih' : G_rput k (f.l.getD i.toNat (Fm.mk 0 0 [] [])) p g = none := ih
        exact .inr ⟨by simp only [ih', Option.bind_none], by simp only [List.length_cons]; omega⟩
theorem lput_val {path : List Int} {f g h : Fm} (ha : atP path f = some h) (hp : path.length ≤ 4611686018427387000) (hb : f.big ≤ 2000000000000) : L_rput f path g = some (putS path f g) :=
  limF_up (b := path.length + 1) fun k => rput_up path k f g h ha hp hb
theorem putS_self : ∀ (path : List Int) (f g : Fm), atP path f = some g → putS path f g = f
  | [], f, g, h => by cases h; rfl
  | i :: p, f, g, h => by
    obtain ⟨h1, h2, h3, h4⟩ := atP_cons h
    simp only [putS]
    rw [putS_self p _ g h4]
    have ei : i.toNat < f.l.length := by omega
    rw [getD_in ei, List.set_getElem_self]
    exact Fm.eta_eq f
theorem sizeL_mem {l : List Fm} {f : Fm} (h : f ∈ l) : f.size ≤ Fm.sizeL l := by
  induction l with
  | nil => cases h
  | cons g r ih => rcases List.mem_cons.1 h with rfl | h <;> simp only [Fm.sizeL] <;> first | omega | (have := ih h; omega)
theorem depthL_mem {l : List Fm} {f : Fm} (h : f ∈ l) : f.depth ≤ Fm.depthL l := by
  induction l with
  | nil => cases h
  | cons g r ih => rcases List.mem_cons.1 h with rfl | h <;> simp only [Fm.depthL] <;> first | omega | (have := ih h; omega)
theorem at_le : ∀ (path : List Int) (f g : Fm), atP path f = some g → g.size ≤ f.size ∧ g.depth ≤ f.depth ∧ g.big ≤ f.big
  | [], f, g, h => by cases h; exact ⟨Nat.le_refl _, Nat.le_refl _, Nat.le_refl _⟩
  | i :: p, f, g, h => by
    obtain ⟨h1, h2, h3, h4⟩ := atP_cons h
    obtain ⟨a, b, c⟩ := at_le p _ g h4
    have ei : i.toNat < f.l.length := by omega
    have hm : f.l.getD i.toNat dF ∈ f.l := by rw [getD_in ei]; exact List.getElem_mem ei
    have q1 := sizeL_mem hm
    have q2 := depthL_mem hm
    have q3 := kid_big ei
    rw [Fm.size_eq f, Fm.depth_eq f, if_pos h1]
    omega
theorem rPut_val {path : List Int} {f g : Fm} (hb : f.big ≤ 2000000000000) (hp : path.length ≤ 4611686018427387000) (hv : (putS path f g).big ≤ 4611686018427387000) : G_rPut f path g = some (match atP path f with
    | some _ => if validF (putS path f g) = true then (putS path f g, 0, ()) else (dF, 2, ())
    | none => (dF, 3, ())) := by
  unfold G_rPut
  simp only [Fm.eta_eq, rat_val (show path.length < 4611686018427387904 by omega), Option.bind_some]
  unfold atR
  cases ha : atP path f with
  | none => simp [dF]
  | some h =>
    simp only [lput_val ha hp hb, Option.bind_some, rvalid_val hv, decide_true, Bool.not_true, cond_false]
    cases validF (putS path f g) <;> simp [dF]
end Go.Ab

set_option linter.unusedVariables false
set_option maxRecDepth 100000
namespace Go.Ab
open Go Go.RowKit Go.Proofs
noncomputable def G_own (k : Nat) (x0 : Fm) : Option (Fm) := match k with
| 0 => none
| k + 1 => (
 Option.bind (α := (Unit × Unit × Unit × Unit) × ((Int × Int × (List UInt8) × (List Fm) × Unit) × (Int × Int × (List UInt8) × Unit × Unit) × (List Fm) × Unit))
 (loopM (L := (Unit × Unit × Unit × Int × Unit) × ((Int × Int × (List UInt8) × (List Fm) × Unit) × (Int × Int × (List UInt8) × Unit × Unit) × (List Fm) × Unit)) (R := (Unit × Unit × Unit × Unit) × ((Int × Int × (List UInt8) × (List Fm) × Unit) × (Int × Int × (List UInt8) × Unit × Unit) × (List Fm) × Unit)) (fun d1 => (
 let c2 := d1.2.1.1
 let c3 := d1.2.1.2.1
 let c4 := d1.2.1.2.2.1
 let c5 := d1.2.1.2.2.2.1
 let l6 := d1.2.2.2.1
 let v4_7 := d1.1.2.2.2.1
 cond (decide (v4_7 < (c5.length : Int))) (cond (ixOK v4_7 c5.length) (Option.bind (α := Fm) (G_own k (Fm.eta (c5.getD v4_7.toNat (Fm.mk 0 0 [] [])))) fun r8 => (
 cond (decide ((l6.length + ([(Fm.eta r8)]).length) * 56 ≤ 140737488355328)) (some (Step.next (((), (), (), IntKind.wrap .i64 (v4_7 + 1), ()), ((c2, c3, c4, c5, ()), (d1.2.2.1.1, d1.2.2.1.2.1, d1.2.2.1.2.2.1, (), ()), l6 ++ ([(Fm.eta r8)]), ())))) none)) none) (some (Step.done (((), (), (), ()), ((c2, c3, c4, c5, ()), (d1.2.2.1.1, d1.2.2.1.2.1, d1.2.2.1.2.2.1, (), ()), l6, ())))))) (((), (), (), 0, ()), ((x0.k, x0.n, x0.t, x0.l, ()), (0, 0, [], (), ()), ([] : List Fm), ()))) fun d9 => (
 let c10 := d9.2.1.1
 let c11 := d9.2.1.2.1
 let c12 := d9.2.1.2.2.1
 let c13 := d9.2.1.2.2.2.1
 let l14 := d9.2.2.2.1
 some (Fm.mk c10 c11 c12 l14)))
def A_own : An := .seq (.leaf) (.seq (.leaf) (.join false { env := [(1, (.ref 0 0)), (2, (.ref 1 0)), (3, (.gs 2 .form))], objs := [(false, .cells 26 [(.d (.int .i64)), (.d (.int .i64)), (.d .str), (.d (.slice .form))]), (false, .cells 26 [(.d (.int .i64)), (.d (.int .i64)), (.d .str), (.c (.base (.slice none 0 0)))]), (false, .tg .form 26)] } (.seq (.leaf) (.block (.loop { env := [(1, (.ref 0 0)), (2, (.ref 1 0)), (3, (.gs 2 .form)), (4, (.d (.int .i64)))], objs := [(false, .cells 26 [(.d (.int .i64)), (.d (.int .i64)), (.d .str), (.d (.slice .form))]), (false, .cells 26 [(.d (.int .i64)), (.d (.int .i64)), (.d .str), (.c (.base (.slice none 0 0)))]), (false, .tg .form 26)] } (.leaf)))) (.leaf)))
def H_own : Nat → RH := fun r => match r with
  | 0 => { H := { mb := [1] } }
  | 5 => { H := { ty := [(20, .form)] } }
  | _ => {}
noncomputable def S_own (k : Nat) : Sig := .n [(.d .form)] (.d .form) (fun x => G_own k x.1)
theorem S_own_rec : ∀ k, SigOK CX 74 (S_own k)
| 0 => fun x r h => by cases h
| k + 1 => by
  have ih := S_own_rec k
  exact sigN_of (l := [(74, (S_own k))]) ⟨ih, trivial⟩ (hint := H_own) (an := A_own) (fun x => by kernel_rfl)
theorem S_own_ok : ∀ k, SigOK CX 74 (S_own k) := fun k => S_own_rec k
noncomputable def L_own (x0 : Fm) : Option (Fm) := limF fun k => G_own k x0
noncomputable def S_own_l : Sig := .n [(.d .form)] (.d .form) (fun x => L_own x.1)
theorem S_own_l_ok : SigOK CX 74 S_own_l := SigOK.limN S_own_ok fun x r h => limF_ex h
noncomputable def G_refAt (x0 : Fm) (x1 : List Int) : Option (Fm × Int × Unit) := (
 Option.bind (α := Step ((Unit × Unit × Unit) × ((Int × Int × (List UInt8) × (List Fm) × Unit) × (Int × Int × (List UInt8) × Unit × Unit) × Unit)) (Fm × Int × Unit))
 (loopM (L := ((List Int) × Unit × Unit × Int × Unit) × ((Int × Int × (List UInt8) × (List Fm) × Unit) × (Int × Int × (List UInt8) × Unit × Unit) × Unit)) (R := Step ((Unit × Unit × Unit) × ((Int × Int × (List UInt8) × (List Fm) × Unit) × (Int × Int × (List UInt8) × Unit × Unit) × Unit)) (Fm × Int × Unit)) (fun d1 => (
 let c2 := d1.2.1.1
 let c3 := d1.2.1.2.1
 let c4 := d1.2.1.2.2.1
 let c5 := d1.2.1.2.2.2.1
 let v1_6 := d1.1.1
 let v6_7 := d1.1.2.2.2.1
 cond (decide (v6_7 < (v1_6.length : Int))) (cond ((ixOK v6_7 v1_6.length) || !(!(!decide (c2 = 3)))) (cond ((ixOK v6_7 v1_6.length) || !(!(cond (!decide (c2 = 3)) true (decide ((v1_6.getD v6_7.toNat (0 : Int)) < 0))))) (cond (cond (cond (!decide (c2 = 3)) true (decide ((v1_6.getD v6_7.toNat (0 : Int)) < 0))) true (decide ((v1_6.getD v6_7.toNat (0 : Int)) ≥ (c5.length : Int)))) (some (Step.done (Step.done ((Fm.mk 0 0 ([]) ([] : List Fm)), 3, ())))) (cond (ixOK v6_7 v1_6.length) (cond (ixOK (v1_6.getD v6_7.toNat (0 : Int)) c5.length) (some (Step.next ((v1_6, (), (), IntKind.wrap .i64 (v6_7 + 1), ()), (((c5.getD (v1_6.getD v6_7.toNat (0 : Int)).toNat (Fm.mk 0 0 [] [])).k, (c5.getD (v1_6.getD v6_7.toNat (0 : Int)).toNat (Fm.mk 0 0 [] [])).n, (c5.getD (v1_6.getD v6_7.toNat (0 : Int)).toNat (Fm.mk 0 0 [] [])).t, (c5.getD (v1_6.getD v6_7.toNat (0 : Int)).toNat (Fm.mk 0 0 [] [])).l, ()), (d1.2.2.1.1, d1.2.2.1.2.1, d1.2.2.1.2.2.1, (), ()), ())))) none) none)) none) none) (some (Step.done (Step.next (((), (), ()), ((c2, c3, c4, c5, ()), (d1.2.2.1.1, d1.2.2.1.2.1, d1.2.2.1.2.2.1, (), ()), ()))))))) ((x1, (), (), 0, ()), ((x0.k, x0.n, x0.t, x0.l, ()), (0, 0, [], (), ()), ()))) fun qd8 => match qd8 with
 | .next d8 => (
 let c9 := d8.2.1.1
 let c10 := d8.2.1.2.1
 let c11 := d8.2.1.2.2.1
 let c12 := d8.2.1.2.2.2.1
 Option.bind (α := Fm) (L_own (Fm.mk c9 c10 c11 c12)) fun r13 => (
 some ((Fm.eta r13), 0, ())))
 | .done r => some r)
def A_refAt : An := .seq (.leaf) (.join true { env := [(2, (.ref 0 0)), (4, (.ref 1 0))], objs := [(false, .cells 26 [(.d (.int .i64)), (.d (.int .i64)), (.d .str), (.d (.slice .form))]), (false, .cells 26 [(.d (.int .i64)), (.d (.int .i64)), (.d .str), (.c (.base (.slice none 0 0)))])] } (.seq (.leaf) (.block (.loop { env := [(1, (.d (.slice (.int .i64)))), (2, (.ref 0 0)), (4, (.ref 1 0)), (6, (.d (.int .i64)))], objs := [(false, .cells 26 [(.d (.int .i64)), (.d (.int .i64)), (.d .str), (.d (.slice .form))]), (false, .cells 26 [(.d (.int .i64)), (.d (.int .i64)), (.d .str), (.c (.base (.slice none 0 0)))])] } (.leaf)))) (.leaf))
def H_refAt : Nat → RH := fun r => match r with
  | 0 => { H := { mb := [2] } }
  | 4 => { H := { pl := [20, 27] } }
  | 6 => { H := { pl := [39, 41] } }
  | _ => {}
noncomputable def S_refAt : Sig := .n [(.d .form), (.d (.slice (.int .i64)))] (.tup [(.d .form), (.d (.int .i64))]) (fun x => G_refAt x.1 x.2.1)
theorem S_refAt_ok : SigOK CX 30 S_refAt := sigN_of (l := [(74, S_own_l)]) ⟨S_own_l_ok, trivial⟩ (hint := H_refAt) (an := A_refAt) (fun x => by kernel_rfl)
noncomputable def G_ownO (x0 : Fm) : Option ((Int × Int × (List UInt8) × Unit × Unit) × ((List Fm) × Unit)) := (
 Option.bind (α := (Unit × Unit × Unit × Unit) × ((Int × Int × (List UInt8) × (List Fm) × Unit) × (Int × Int × (List UInt8) × Unit × Unit) × (List Fm) × Unit))
 (loopM (L := (Unit × Unit × Unit × Int × Unit) × ((Int × Int × (List UInt8) × (List Fm) × Unit) × (Int × Int × (List UInt8) × Unit × Unit) × (List Fm) × Unit)) (R := (Unit × Unit × Unit × Unit) × ((Int × Int × (List UInt8) × (List Fm) × Unit) × (Int × Int × (List UInt8) × Unit × Unit) × (List Fm) × Unit)) (fun d1 => (
 let c2 := d1.2.1.1
 let c3 := d1.2.1.2.1
 let c4 := d1.2.1.2.2.1
 let c5 := d1.2.1.2.2.2.1
 let l6 := d1.2.2.2.1
 let v4_7 := d1.1.2.2.2.1
 cond (decide (v4_7 < (c5.length : Int))) (cond (ixOK v4_7 c5.length) (Option.bind (α := Fm) (L_own (Fm.eta (c5.getD v4_7.toNat (Fm.mk 0 0 [] [])))) fun r8 => (
 cond (decide ((l6.length + ([(Fm.eta r8)]).length) * 56 ≤ 140737488355328)) (some (Step.next (((), (), (), IntKind.wrap .i64 (v4_7 + 1), ()), ((c2, c3, c4, c5, ()), (d1.2.2.1.1, d1.2.2.1.2.1, d1.2.2.1.2.2.1, (), ()), l6 ++ ([(Fm.eta r8)]), ())))) none)) none) (some (Step.done (((), (), (), ()), ((c2, c3, c4, c5, ()), (d1.2.2.1.1, d1.2.2.1.2.1, d1.2.2.1.2.2.1, (), ()), l6, ())))))) (((), (), (), 0, ()), ((x0.k, x0.n, x0.t, x0.l, ()), (0, 0, [], (), ()), ([] : List Fm), ()))) fun d9 => (
 let c10 := d9.2.1.1
 let c11 := d9.2.1.2.1
 let c12 := d9.2.1.2.2.1
 let c13 := d9.2.1.2.2.2.1
 let l14 := d9.2.2.2.1
 some ((c10, c11, c12, (), ()), (l14, ()))))
def A_ownO : An := .seq (.leaf) (.seq (.leaf) (.join false { env := [(1, (.ref 0 0)), (2, (.ref 1 0)), (3, (.gs 2 .form))], objs := [(false, .cells 26 [(.d (.int .i64)), (.d (.int .i64)), (.d .str), (.d (.slice .form))]), (false, .cells 26 [(.d (.int .i64)), (.d (.int .i64)), (.d .str), (.c (.base (.slice none 0 0)))]), (false, .tg .form 26)] } (.seq (.leaf) (.block (.loop { env := [(1, (.ref 0 0)), (2, (.ref 1 0)), (3, (.gs 2 .form)), (4, (.d (.int .i64)))], objs := [(false, .cells 26 [(.d (.int .i64)), (.d (.int .i64)), (.d .str), (.d (.slice .form))]), (false, .cells 26 [(.d (.int .i64)), (.d (.int .i64)), (.d .str), (.c (.base (.slice none 0 0)))]), (false, .tg .form 26)] } (.leaf)))) (.leaf)))
def H_ownO : Nat → RH := fun r => match r with
  | 0 => { H := { mb := [1] } }
  | 5 => { H := { ty := [(20, .form)] } }
  | _ => {}
noncomputable def S_ownO : Sig := .o { pre := [], args := [(.d .form)], post := [(false, .tg .form 26)], res := (.agg [(.d (.int .i64)), (.d (.int .i64)), (.d .str), (.gs 0 .form)]), f := fun x => G_ownO x.1.1 }
theorem S_ownO_ok : SigOK CX 74 S_ownO := sigO_of (l := [(74, S_own_l)]) ⟨S_own_l_ok, trivial⟩ (hint := H_ownO) (an := A_ownO) (by kernel_rfl) (fun x => by kernel_rfl)
noncomputable def G_refput (k : Nat) (x0 : Fm) (x1 : List Int) (x2 : Fm) : Option (Fm) := match k with
| 0 => none
| k + 1 => (
 cond (decide ((x1.length : Int) = 0)) (Option.bind (α := (Int × Int × (List UInt8) × Unit × Unit) × ((List Fm) × Unit)) (G_ownO (Fm.eta x2)) fun r1 => (
 some (Fm.mk r1.1.1 r1.1.2.1 r1.1.2.2.1 r1.2.1))) (Option.bind (α := (Int × Int × (List UInt8) × Unit × Unit) × ((List Fm) × Unit)) (G_ownO (Fm.eta x0)) fun r2 => (
 cond (ixOK 0 x1.length) (cond (ixOK 0 x1.length) (cond (ixOK (x1.getD (0 : Int).toNat (0 : Int)) r2.2.1.length) (cond (decide ((x1.getD (0 : Int).toNat (0 : Int)).toNat < r2.2.1.length)) (cond (slOK 1 (x1.length : Int) x1.length) (Option.bind (α := Fm) (G_refput k (Fm.eta (r2.2.1.getD ((x1.getD (0 : Int).toNat (0 : Int)).toNat) (Fm.mk 0 0 [] []))) ((x1.drop (1 : Int).toNat).take ((x1.length : Int).toNat - (1 : Int).toNat)) (Fm.eta x2)) fun r3 => (
 cond (ixOK (x1.getD (0 : Int).toNat (0 : Int)) r2.2.1.length) (cond (decide ((x1.getD (0 : Int).toNat (0 : Int)).toNat < r2.2.1.length)) (some (Fm.mk r2.1.1 r2.1.2.1 r2.1.2.2.1 (r2.2.1.set ((x1.getD (0 : Int).toNat (0 : Int)).toNat) (Fm.eta r3)))) none) none)) none) none) none) none) none)))
def A_refput : An := .leaf
def H_refput : Nat → RH := fun r => match r with
  | 0 => { H := { mb := [3] } }
  | 2 => { H := { ac := [11] } }
  | 3 => { H := { ac := [13] } }
  | 4 => { H := { pl := [18, 23, 28] } }
  | _ => {}
noncomputable def S_refput (k : Nat) : Sig := .n [(.d .form), (.d (.slice (.int .i64))), (.d .form)] (.d .form) (fun x => G_refput k x.1 x.2.1 x.2.2.1)
theorem S_refput_rec : ∀ k, SigOK CX 76 (S_refput k)
| 0 => fun x r h => by cases h
| k + 1 => by
  have ih := S_refput_rec k
  exact sigN_of (l := [(74, S_ownO), (76, (S_refput k))]) ⟨S_ownO_ok, ih, trivial⟩ (hint := H_refput) (an := A_refput) (fun x => by kernel_rfl)
theorem S_refput_ok : ∀ k, SigOK CX 76 (S_refput k) := fun k => S_refput_rec k
noncomputable def L_refput (x0 : Fm) (x1 : List Int) (x2 : Fm) : Option (Fm) := limF fun k => G_refput k x0 x1 x2
noncomputable def S_refput_l : Sig := .n [(.d .form), (.d (.slice (.int .i64))), (.d .form)] (.d .form) (fun x => L_refput x.1 x.2.1 x.2.2.1)
theorem S_refput_l_ok : SigOK CX 76 S_refput_l := SigOK.limN S_refput_ok fun x r h => limF_ex h
noncomputable def G_refPut (x0 : Fm) (x1 : List Int) (x2 : Fm) : Option (Fm × Int × Unit) := (
 Option.bind (α := Fm × Int × Unit) (G_refAt (Fm.eta x0) x1) fun r1 => (
 cond (!decide (r1.2.1 = 0)) (some ((Fm.mk 0 0 ([]) ([] : List Fm)), r1.2.1, ())) (Option.bind (α := Fm) (L_refput (Fm.eta x0) x1 (Fm.eta x2)) fun r2 => (
 Option.bind (α := Bool) (G_refValid (Fm.eta r2)) fun r3 => (
 cond (!r3) (some ((Fm.mk 0 0 ([]) ([] : List Fm)), 2, ())) (some ((Fm.eta r2), 0, ())))))))
def A_refPut : An := .leaf
def H_refPut : Nat → RH := fun _ => {}
noncomputable def S_refPut : Sig := .n [(.d .form), (.d (.slice (.int .i64))), (.d .form)] (.tup [(.d .form), (.d (.int .i64))]) (fun x => G_refPut x.1 x.2.1 x.2.2.1)
theorem S_refPut_ok : SigOK CX 32 S_refPut := sigN_of (l := [(30, S_refAt), (76, S_refput_l), (43, S_refValid)]) ⟨S_refAt_ok, S_refput_l_ok, S_refValid_ok, trivial⟩ (hint := H_refPut) (an := A_refPut) (fun x => by kernel_rfl)
noncomputable def G_refEqual1 (x0 : Fm) (x1 : Fm) : Option (Bool) := (
 Option.bind (α := Int) (L_refCompare (Fm.eta x0) (Fm.eta x1)) fun r1 => (
 some (decide (r1 = 0))))
def A_refEqual1 : An := .leaf
def H_refEqual1 : Nat → RH := fun _ => {}
noncomputable def S_refEqual1 : Sig := .n [(.d .form), (.d .form)] (.d .bool) (fun x => G_refEqual1 x.1 x.2.1)
theorem S_refEqual1_ok : SigOK CX 27 S_refEqual1 := sigN_of (l := [(72, S_refCompare_l)]) ⟨S_refCompare_l_ok, trivial⟩ (hint := H_refEqual1) (an := A_refEqual1) (fun x => by kernel_rfl)
end Go.Ab
