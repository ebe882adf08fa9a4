/-
  LINEAR: products of words, and numbers within bounds.
-/
import Derived.Test.YtdagildojaagiaaGreatDoorZ13
import Derived.Test.YtdagildojaagiaaGreatDoorZ12
import Derived.Shelf.Strconv.AtoiAll
import Derived.Laws.Bits64b
set_option linter.unusedVariables false
set_option linter.unusedSimpArgs false
set_option maxRecDepth 100000
namespace Go.Ab
open Go Go.RowKit Go.Proofs
noncomputable def G_bldLen (o0 : Bool × Unit × Unit) (o1 : List Int) : Option ((Int) × ((Bool × Unit × Unit) × (List Int) × Unit)) := (
 some ((o1.length : Int), ((o0.1, (), ()), o1, ())))
def A_bldLen : An := .leaf
def H_bldLen : Nat → RH := fun _ => {}
noncomputable def S_bldLen : Sig := .o { pre := [(false, .cells 106 [(.mref 0 0), (.gs 1 (.int .u8))]), (false, .tg (.int .u8) 5)], args := [(.ref 0 0)], post := [(true, .cells 106 [(.mref 0 0), (.gs 1 (.int .u8))]), (true, .tg (.int .u8) 5)], res := (.d (.int .i64)), f := fun x => G_bldLen x.2.1 x.2.2.1 }
theorem S_bldLen_ok : SigOK CX 165 S_bldLen := sigO_of (l := []) trivial (hint := H_bldLen) (an := A_bldLen) (by kernel_rfl) (fun x => by kernel_rfl)
noncomputable def G_bldByte (x1 : Int) (o0 : Bool × Unit × Unit) (o1 : List Int) : Option ((Bool) × ((Bool × Unit × Unit) × (List Int) × Unit)) := (
 Option.bind (α := (Unit) × ((Bool × Unit × Unit) × (List Int) × Unit)) (some ((), ((true, (), ()), o1, ()))) fun r1 => (
 cond (decide ((r1.2.2.1.length + ([x1]).length) * 1 ≤ 140737488355328)) (some (true, ((r1.2.1.1, (), ()), r1.2.2.1 ++ ([x1]), ()))) none))
def A_bldByte : An := .leaf
def H_bldByte : Nat → RH := fun r => match r with
 | 1 => { H := { ac := [6] } }
 | 2 => { H := { ty := [(14, (.int .u8))] } }
 | _ => {}
noncomputable def S_bldByte : Sig := .o { pre := [(false, .cells 106 [(.mref 0 0), (.gs 1 (.int .u8))]), (false, .tg (.int .u8) 5)], args := [(.ref 0 0), (.d (.int .u8))], post := [(true, .cells 106 [(.mref 0 0), (.gs 1 (.int .u8))]), (false, .tg (.int .u8) 5)], res := (.d .erri), f := fun x => G_bldByte x.1.2.1 x.2.1 x.2.2.1 }
theorem S_bldByte_ok : SigOK CX 120 S_bldByte := sigO_of (l := [(126, S_copyCheck)]) ⟨S_copyCheck_ok, trivial⟩ (hint := H_bldByte) (an := A_bldByte) (by kernel_rfl) (fun x => by kernel_rfl)
noncomputable def G_skip (o0 : (List UInt8) × Int × Unit) : Option ((Unit) × (((List UInt8) × Int × Unit) × Unit)) := (
 loopM (L := (Unit × Unit) × (((List UInt8) × Int × Unit) × Unit)) (R := (Unit) × (((List UInt8) × Int × Unit) × Unit)) (fun d1 => (
 let c2 := d1.2.1.1
 let c3 := d1.2.1.2.1
 cond (decide (c3 < (c2.length : Int))) (cond (ixOK c3 c2.length) (cond (cond (cond (decide (byteAt c2 c3 = 32)) true (decide (byteAt c2 c3 = 9))) true (decide (byteAt c2 c3 = 10))) (some (Step.next (((), ()), ((c2, IntKind.wrap .i64 (c3 + 1), ()), ())))) (cond (decide (byteAt c2 c3 = 59)) (cond (slOK c3 (c2.length : Int) c2.length) (Option.bind (α := Int) (indexByteF ((c2.drop c3.toNat).take ((c2.length : Int).toNat - c3.toNat)) (10)) fun r4 => (
 Option.bind (α := (Unit × Int × Unit) × (((List UInt8) × Int × Unit) × Unit))
 (cond (decide (r4 < 0)) (some (((), IntKind.wrap .i64 ((c2.length : Int) - c3), ()), ((c2, c3, ()), ()))) (some (((), r4, ()), ((c2, c3, ()), ())))) fun d5 => (
 let c6 := d5.2.1.1
 let c7 := d5.2.1.2.1
 let v3_8 := d5.1.2.1
 some (Step.next (((), ()), ((c6, IntKind.wrap .i64 (c7 + v3_8), ()), ())))))) none) (some (Step.done ((), ((c2, c3, ()), ())))))) none) (some (Step.done ((), ((c2, c3, ()), ())))))) (((), ()), ((o0.1, o0.2.1, ()), ())))
def A_skip : An := .block (.loop { env := [(0, (.ref 0 0))], objs := [(true, .cells 132 [(.d .str), (.d (.int .i64))])] } (.seq (.leaf) (.block (.seq (.leaf) (.block (.seq (.leaf) (.cond (.leaf) (.seq (.leaf) (.cond (.seq (.leaf) (.join false { env := [(0, (.ref 0 0)), (3, (.d (.int .i64)))], objs := [(true, .cells 132 [(.d .str), (.d (.int .i64))])] } (.leaf) (.leaf))) (.leaf))))))))))
def H_skip : Nat → RH := fun _ => {}
noncomputable def S_skip : Sig := .o { pre := [(false, .cells 132 [(.d .str), (.d (.int .i64))])], args := [(.ref 0 0)], post := [(true, .cells 132 [(.d .str), (.d (.int .i64))])], res := (.tup []), f := fun x => G_skip x.2.1 }
theorem S_skip_ok : SigOK CX 137 S_skip := sigO_of (l := [(164, S_indexByte)]) ⟨S_indexByte_ok, trivial⟩ (hint := H_skip) (an := A_skip) (by kernel_rfl) (fun x => by kernel_rfl)
noncomputable def G_text (o0 : (List UInt8) × Int × Unit) : Option (((List UInt8) × Int × Unit) × (((List UInt8) × Int × Unit) × Unit)) := (
 Option.bind (α := Step ((Unit) × (((List UInt8) × Int × Unit) × Unit)) (((List UInt8) × Int × Unit) × (((List UInt8) × Int × Unit) × Unit)))
 (loopM (L := (Unit × Unit × Unit) × (((List UInt8) × Int × Unit) × (Bool × Unit × Unit) × (List Int) × Unit)) (R := Step ((Unit) × (((List UInt8) × Int × Unit) × Unit)) (((List UInt8) × Int × Unit) × (((List UInt8) × Int × Unit) × Unit))) (fun d1 => (
 let c2 := d1.2.1.1
 let c3 := d1.2.1.2.1
 let l4 := d1.2.2.2.1
 cond (decide (c3 < (c2.length : Int))) (cond (ixOK c3 c2.length) (Option.bind (α := Step ((Unit × Unit × Int × Unit) × (((List UInt8) × Int × Unit) × (Bool × Unit × Unit) × (List Int) × Unit)) (Step ((Unit × Unit × Unit) × (((List UInt8) × Int × Unit) × (Bool × Unit × Unit) × (List Int) × Unit)) (Step ((Unit) × (((List UInt8) × Int × Unit) × Unit)) (((List UInt8) × Int × Unit) × (((List UInt8) × Int × Unit) × Unit)))))
 (cond (decide (byteAt c2 c3 = 34)) (Option.bind (α := (Int) × ((Bool × Unit × Unit) × (List Int) × Unit)) (G_bldLen (d1.2.2.1.1, (), ()) l4) fun r5 => (
 cond (decide (r5.1 > 2000)) (some (Step.done (Step.done (Step.done (([], 4, ()), ((c2, IntKind.wrap .i64 (c3 + 1), ()), ())))))) (Option.bind (α := (List UInt8) × (Unit)) (Option.map (fun s => (s, ())) (bytesOf (r5.2.2.1))) fun r6 => (
 some (Step.done (Step.done (Step.done ((r6.1, 0, ()), ((c2, IntKind.wrap .i64 (c3 + 1), ()), ()))))))))) (cond (decide (byteAt c2 c3 = 92)) (cond (decide (IntKind.wrap .i64 (c3 + 1) = (c2.length : Int))) (some (Step.done (Step.done (Step.done (([], 12, ()), ((c2, IntKind.wrap .i64 (c3 + 1), ()), ())))))) (cond (ixOK (IntKind.wrap .i64 (c3 + 1)) c2.length) (cond (decide (byteAt c2 (IntKind.wrap .i64 (c3 + 1)) = 110)) (some (Step.next (((), (), 10, ()), ((c2, IntKind.wrap .i64 (c3 + 1), ()), (d1.2.2.1.1, (), ()), l4, ())))) (cond (cond (!decide (byteAt c2 (IntKind.wrap .i64 (c3 + 1)) = 34)) (!decide (byteAt c2 (IntKind.wrap .i64 (c3 + 1)) = 92)) false) (some (Step.done (Step.done (Step.done (([], 4, ()), ((c2, IntKind.wrap .i64 (c3 + 1), ()), ())))))) (some (Step.next (((), (), byteAt c2 (IntKind.wrap .i64 (c3 + 1)), ()), ((c2, IntKind.wrap .i64 (c3 + 1), ()), (d1.2.2.1.1, (), ()), l4, ())))))) none)) (cond (cond (decide (byteAt c2 c3 < 32)) true (decide (byteAt c2 c3 > 126))) (some (Step.done (Step.done (Step.done (([], 4, ()), ((c2, c3, ()), ())))))) (some (Step.next (((), (), byteAt c2 c3, ()), ((c2, c3, ()), (d1.2.2.1.1, (), ()), l4, ()))))))) fun qd7 => match qd7 with
 | .next d7 => (
 let c8 := d7.2.1.1
 let c9 := d7.2.1.2.1
 let l10 := d7.2.2.2.1
 let v5_11 := d7.1.2.2.1
 Option.bind (α := (Bool) × ((Bool × Unit × Unit) × (List Int) × Unit)) (G_bldByte v5_11 (d7.2.2.1.1, (), ()) l10) fun r12 => (
 some (Step.next (((), (), ()), ((c8, IntKind.wrap .i64 (c9 + 1), ()), (r12.2.1.1, (), ()), r12.2.2.1, ())))))
 | .done r => some r) none) (some (Step.done (Step.next ((), ((c2, c3, ()), ()))))))) (((), (), ()), ((o0.1, IntKind.wrap .i64 (o0.2.1 + 1), ()), (false, (), ()), ([] : List Int), ()))) fun qd13 => match qd13 with
 | .next d13 => (
 let c14 := d13.2.1.1
 let c15 := d13.2.1.2.1
 some (([], 12, ()), ((c14, c15, ()), ())))
 | .done r => some r)
def A_text : An := .seq (.leaf) (.seq (.leaf) (.join true { env := [], objs := [(true, .cells 132 [(.d .str), (.d (.int .i64))])] } (.seq (.leaf) (.block (.loop { env := [(0, (.ref 0 0)), (4, (.ref 1 0))], objs := [(true, .cells 132 [(.d .str), (.d (.int .i64))]), (false, .cells 106 [(.mref 1 0), (.gs 2 (.int .u8))]), (false, .tg (.int .u8) 5)] } (.seq (.leaf) (.seq (.block (.seq (.leaf) (.join true { env := [(0, (.ref 0 0)), (4, (.ref 1 0)), (5, (.d (.int .u8)))], objs := [(true, .cells 132 [(.d .str), (.d (.int .i64))]), (false, .cells 106 [(.mref 1 0), (.gs 2 (.int .u8))]), (false, .tg (.int .u8) 5)] } (.leaf) (.leaf)))) (.leaf)))))) (.leaf)))
def H_text : Nat → RH := fun r => match r with
 | 8 => { H := { ac := [49] } }
 | 10 => { H := { ac := [51] } }
 | 22 => { H := { ac := [97] } }
 | _ => {}
noncomputable def S_text : Sig := .o { pre := [(false, .cells 132 [(.d .str), (.d (.int .i64))])], args := [(.ref 0 0)], post := [(true, .cells 132 [(.d .str), (.d (.int .i64))])], res := (.tup [(.d .str), (.d (.int .i64))]), f := fun x => G_text x.2.1 }
theorem S_text_ok : SigOK CX 138 S_text := sigO_of (l := [(165, S_bldLen), (76, S_string), (120, S_bldByte)]) ⟨S_bldLen_ok, S_string_ok, S_bldByte_ok, trivial⟩ (hint := H_text) (an := A_text) (by kernel_rfl) (fun x => by kernel_rfl)
noncomputable def G_iatoi (x0 : List UInt8) : Option (Int × Bool × Unit) := (
 Option.bind (α := Step (((List UInt8) × Unit) × (Unit)) (Int × Bool × Unit))
 (cond (cond (cond false (cond (decide ((0 : Int) < (x0.length : Int))) (decide ((x0.length : Int) < 10)) false) false) true (cond true (cond (decide ((0 : Int) < (x0.length : Int))) (decide ((x0.length : Int) < 19)) false) false)) (Option.bind (α := Step (((List UInt8) × (List UInt8) × Unit) × (Unit)) (Step (((List UInt8) × Unit) × (Unit)) (Int × Bool × Unit)))
 (cond (ixOK 0 x0.length) (cond ((ixOK 0 x0.length) || !(!(decide (byteAt x0 0 = 45)))) (cond (cond (decide (byteAt x0 0 = 45)) true (decide (byteAt x0 0 = 43))) (cond (slOK 1 (x0.length : Int) x0.length) (cond (decide ((((x0.drop (1 : Int).toNat).take ((x0.length : Int).toNat - (1 : Int).toNat)).length : Int) < 1)) (some (Step.done (Step.done (0, false, ())))) (some (Step.next (((x0.drop (1 : Int).toNat).take ((x0.length : Int).toNat - (1 : Int).toNat), x0, ()), ())))) none) (some (Step.next ((x0, x0, ()), ())))) none) none) fun qd1 => match qd1 with
 | .next d1 => (
 let v0_2 := d1.1.1
 let v5_3 := d1.1.2.1
 Option.bind (α := Step (((List UInt8) × Int × Unit) × (Unit)) (Step (((List UInt8) × Unit) × (Unit)) (Int × Bool × Unit)))
 (cond (decide (v0_2.length ≤ 4611686018427387904)) (loopM (L := ((List UInt8) × Int × (List Int) × Int × Int × Unit) × (Unit)) (R := Step (((List UInt8) × Int × Unit) × (Unit)) (Step (((List UInt8) × Unit) × (Unit)) (Int × Bool × Unit))) (fun d4 => (
 let v5_5 := d4.1.1
 let v6_6 := d4.1.2.1
 let v47_7 := d4.1.2.2.1
 let v48_8 := d4.1.2.2.2.1
 let v49_9 := d4.1.2.2.2.2.1
 cond (decide (v49_9 < v48_8)) (cond (ixOK v49_9 v47_7.length) (cond (decide (IntKind.wrap .u8 ((v47_7.getD v49_9.toNat (0 : Int)) - 48) > 9)) (some (Step.done (Step.done (Step.done (0, false, ()))))) (some (Step.next ((v5_5, IntKind.wrap .i64 (IntKind.wrap .i64 (v6_6 * 10) + IntKind.wrap .i64 (IntKind.wrap .u8 ((v47_7.getD v49_9.toNat (0 : Int)) - 48))), v47_7, v48_8, IntKind.wrap .i64 (v49_9 + 1), ()), ())))) none) (some (Step.done (Step.next ((v5_5, v6_6, ()), ())))))) ((v5_3, 0, intsOf v0_2, ((intsOf v0_2).length : Int), 0, ()), ())) none) fun qd10 => match qd10 with
 | .next d10 => (
 let v5_11 := d10.1.1
 let v6_12 := d10.1.2.1
 Option.bind (α := (Int × Unit) × (Unit))
 (cond (ixOK 0 v5_11.length) (cond (decide (byteAt v5_11 0 = 45)) (some ((IntKind.wrap .i64 (0 - v6_12), ()), ())) (some ((v6_12, ()), ()))) none) fun d13 => (
 let v6_14 := d13.1.1
 some (Step.done (v6_14, true, ()))))
 | .done r => some r)
 | .done r => some r) (some (Step.next ((x0, ()), ())))) fun qd15 => match qd15 with
 | .next d15 => (
 let v0_16 := d15.1.1
 none)
 | .done r => some r)
def A_iatoi : An := .seq (.leaf) (.seq (.leaf) (.join true { env := [(0, (.d .str))], objs := [] } (.seq (.leaf) (.cond (.seq (.leaf) (.join true { env := [(0, (.d .str)), (5, (.d .str))], objs := [] } (.leaf) (.seq (.leaf) (.join true { env := [(5, (.d .str)), (6, (.d (.int .i64)))], objs := [] } (.seq (.leaf) (.block (.loop { env := [(5, (.d .str)), (6, (.d (.int .i64))), (47, (.d (.slice (.int .u8)))), (48, (.d (.int .i64))), (49, (.d (.int .i64)))], objs := [] } (.leaf)))) (.join false { env := [(6, (.d (.int .i64)))], objs := [] } (.leaf) (.leaf)))))) (.leaf))) (.leaf)))
def H_iatoi : Nat → RH := fun _ => {}
noncomputable def S_iatoi : Sig := .n [(.d .str)] (.tup [(.d (.int .i64)), (.d .erri)]) (fun x => G_iatoi x.1)
theorem S_iatoi_ok : SigOK CX 194 S_iatoi := sigN_of (l := []) trivial (hint := H_iatoi) (an := A_iatoi) (fun x => by kernel_rfl)
noncomputable def G_atoi (x0 : List UInt8) : Option (Int × Bool × Unit) := (
 Option.bind (α := Int × Bool × Unit) (G_iatoi x0) fun r1 => (
 cond (!r1.2.1) (none) (some (r1.1, true, ()))))
def A_atoi : An := .leaf
def H_atoi : Nat → RH := fun _ => {}
noncomputable def S_atoi : Sig := .n [(.d .str)] (.tup [(.d (.int .i64)), (.d .erri)]) (fun x => G_atoi x.1)
theorem S_atoi_ok : SigOK CX 168 S_atoi := sigN_of (l := [(194, S_iatoi)]) ⟨S_iatoi_ok, trivial⟩ (hint := H_atoi) (an := A_atoi) (fun x => by kernel_rfl)
noncomputable def G_number (x0 : List UInt8) : Option (Int × Int × Unit) := (
 cond ((ixOK 0 (trimPrefixF (x0) ([45])).length) || !(decide (((trimPrefixF (x0) ([45])).length : Int) > 1))) (cond (cond (cond (decide (((trimPrefixF (x0) ([45])).length : Int) > 1)) (decide (byteAt (trimPrefixF (x0) ([45])) 0 = 48)) false) true (decide (x0 = [45, 48]))) (some (0, 4, ())) (Option.bind (α := Int × Bool × Unit) (G_atoi x0) fun r1 => (
 cond (cond (cond (!r1.2.1) true (decide (r1.1 < (-1152921504606846976)))) true (decide (r1.1 > 1152921504606846976))) (some (0, 5, ())) (some (r1.1, 0, ()))))) none)
def A_number : An := .leaf
def H_number : Nat → RH := fun _ => {}
noncomputable def S_number : Sig := .n [(.d .str)] (.tup [(.d (.int .i64)), (.d (.int .i64))]) (fun x => G_number x.1)
theorem S_number_ok : SigOK CX 141 S_number := sigN_of (l := [(166, S_trimPrefix), (168, S_atoi)]) ⟨S_trimPrefix_ok, S_atoi_ok, trivial⟩ (hint := H_number) (an := A_number) (fun x => by kernel_rfl)
noncomputable def G_next (o0 : (List UInt8) × Int × Unit) : Option (((Int × Fm) × Bool × Int × Unit) × (((List UInt8) × Int × Unit) × Unit)) := (
 Option.bind (α := (Unit) × (((List UInt8) × Int × Unit) × Unit)) (G_skip (o0.1, o0.2.1, ())) fun r1 => (
 cond (decide (r1.2.1.2.1 = (r1.2.1.1.length : Int))) (some (((0, (Fm.mk 0 0 ([]) ([] : List Fm))), false, 0, ()), ((r1.2.1.1, r1.2.1.2.1, ()), ()))) (cond (ixOK r1.2.1.2.1 r1.2.1.1.length) (cond (cond (decide (byteAt r1.2.1.1 r1.2.1.2.1 = 40)) true (decide (byteAt r1.2.1.1 r1.2.1.2.1 = 41))) (some (((byteAt r1.2.1.1 r1.2.1.2.1, (Fm.mk 0 0 ([]) ([] : List Fm))), true, 0, ()), ((r1.2.1.1, IntKind.wrap .i64 (r1.2.1.2.1 + 1), ()), ()))) (cond (decide (byteAt r1.2.1.1 r1.2.1.2.1 = 34)) (Option.bind (α := ((List UInt8) × Int × Unit) × (((List UInt8) × Int × Unit) × Unit)) (G_text (r1.2.1.1, r1.2.1.2.1, ())) fun r2 => (
 some (((0, (Fm.mk 2 0 r2.1.1 ([] : List Fm))), true, r2.1.2.1, ()), ((r2.2.1.1, r2.2.1.2.1, ()), ())))) (Option.bind (α := Bool) (outsideF (byteAt r1.2.1.1 r1.2.1.2.1)) fun r3 => (
 cond r3 (some (((0, (Fm.mk 0 0 ([]) ([] : List Fm))), true, 4, ()), ((r1.2.1.1, r1.2.1.2.1, ()), ()))) (Option.bind (α := (Unit × Unit × Int × Unit) × (((List UInt8) × Int × Unit) × (Int × Int × Int × (List UInt8) × Unit × Unit) × Unit))
 (loopM (L := (Unit × Unit × Int × Unit) × (((List UInt8) × Int × Unit) × (Int × Int × Int × (List UInt8) × Unit × Unit) × Unit)) (R := (Unit × Unit × Int × Unit) × (((List UInt8) × Int × Unit) × (Int × Int × Int × (List UInt8) × Unit × Unit) × Unit)) (fun d4 => (
 let c5 := d4.2.1.1
 let c6 := d4.2.1.2.1
 let v8_7 := d4.1.2.2.1
 cond ((ixOK c6 c5.length) || !(decide (c6 < (c5.length : Int)))) (Option.bind (α := Bool) (cond (decide (c6 < (c5.length : Int))) (outsideF (byteAt c5 c6)) (some false)) fun r8 => (
 cond (cond (decide (c6 < (c5.length : Int))) (!r8) false) (some (Step.next (((), (), v8_7, ()), ((c5, IntKind.wrap .i64 (c6 + 1), ()), (d4.2.2.1.1, d4.2.2.1.2.1, d4.2.2.1.2.2.1, d4.2.2.1.2.2.2.1, (), ()), ())))) (some (Step.done (((), (), v8_7, ()), ((c5, c6, ()), (d4.2.2.1.1, d4.2.2.1.2.1, d4.2.2.1.2.2.1, d4.2.2.1.2.2.2.1, (), ()), ())))))) none)) (((), (), r1.2.1.2.1, ()), ((r1.2.1.1, r1.2.1.2.1, ()), (0, 0, 0, [], (), ()), ()))) fun d9 => (
 let c10 := d9.2.1.1
 let c11 := d9.2.1.2.1
 let v8_12 := d9.1.2.2.1
 cond (slOK v8_12 c11 c10.length) (Option.bind (α := Bool) (numericF ((c10.drop v8_12.toNat).take (c11.toNat - v8_12.toNat))) fun r13 => (
 cond r13 (Option.bind (α := Int × Int × Unit) (G_number ((c10.drop v8_12.toNat).take (c11.toNat - v8_12.toNat))) fun r14 => (
 some (((0, (Fm.mk 0 r14.1 ([]) ([] : List Fm))), true, r14.2.1, ()), ((c10, c11, ()), ())))) (cond (decide ((((c10.drop v8_12.toNat).take (c11.toNat - v8_12.toNat)).length : Int) > 30)) (some (((d9.2.2.1.1, (Fm.mk d9.2.2.1.2.1 d9.2.2.1.2.2.1 d9.2.2.1.2.2.2.1 ([] : List Fm))), true, 4, ()), ((c10, c11, ()), ()))) (some (((0, (Fm.mk 1 0 ((c10.drop v8_12.toNat).take (c11.toNat - v8_12.toNat)) ([] : List Fm))), true, 0, ()), ((c10, c11, ()), ())))))) none)))))) none)))
def A_next : An := .seq (.leaf) (.seq (.leaf) (.seq (.leaf) (.seq (.leaf) (.seq (.leaf) (.join false { env := [(0, (.ref 0 0)), (2, (.ref 1 0)), (8, (.d (.int .i64)))], objs := [(true, .cells 132 [(.d .str), (.d (.int .i64))]), (false, .cells 134 [(.d (.int .u8)), (.d (.int .i64)), (.d (.int .i64)), (.d .str), (.c (.base (.slice none 0 0)))])] } (.block (.loop { env := [(0, (.ref 0 0)), (2, (.ref 1 0)), (8, (.d (.int .i64)))], objs := [(true, .cells 132 [(.d .str), (.d (.int .i64))]), (false, .cells 134 [(.d (.int .u8)), (.d (.int .i64)), (.d (.int .i64)), (.d .str), (.c (.base (.slice none 0 0)))])] } (.leaf))) (.leaf))))))
def H_next : Nat → RH := fun r => match r with
 | 1 => { H := { ac := [13] } }
 | 9 => { H := { ac := [55] } }
 | _ => {}
noncomputable def S_next : Sig := .o { pre := [(false, .cells 132 [(.d .str), (.d (.int .i64))])], args := [(.ref 0 0)], post := [(true, .cells 132 [(.d .str), (.d (.int .i64))])], res := (.tup [(.d (.pr (.int .u8) .form)), (.d .bool), (.d (.int .i64))]), f := fun x => G_next x.2.1 }
theorem S_next_ok : SigOK CX 104 S_next := sigO_of (l := [(137, S_skip), (138, S_text), (139, S_outside), (140, S_numeric), (141, S_number)]) ⟨S_skip_ok, S_text_ok, S_outside_ok, S_numeric_ok, S_number_ok, trivial⟩ (hint := H_next) (an := A_next) (by kernel_rfl) (fun x => by kernel_rfl)
noncomputable def G_touches (x0 : Int) : Option (Bool) := (
 Option.bind (α := Bool) (cond (!(decide (x0 = 34))) (outsideF (x0)) (some false)) fun r1 => (
 some (cond (decide (x0 = 34)) true (!r1))))
def A_touches : An := .leaf
def H_touches : Nat → RH := fun _ => {}
noncomputable def S_touches : Sig := .n [(.d (.int .u8))] (.d .bool) (fun x => G_touches x.1)
theorem S_touches_ok : SigOK CX 105 S_touches := sigN_of (l := [(139, S_outside)]) ⟨S_outside_ok, trivial⟩ (hint := H_touches) (an := A_touches) (fun x => by kernel_rfl)
noncomputable def E_skip (d : Nat) (o0 : (List UInt8) × Int × Unit) : Option ((Unit) × (((List UInt8) × Int × Unit) × Unit)) := (
 iterE d (L := (Unit × Unit) × (((List UInt8) × Int × Unit) × Unit)) (R := (Unit) × (((List UInt8) × Int × Unit) × Unit)) (fun d1 => (
 let c2 := d1.2.1.1
 let c3 := d1.2.1.2.1
 cond (decide (c3 < (c2.length : Int))) (cond (ixOK c3 c2.length) (cond (cond (cond (decide (byteAt c2 c3 = 32)) true (decide (byteAt c2 c3 = 9))) true (decide (byteAt c2 c3 = 10))) (some (Step.next (((), ()), ((c2, IntKind.wrap .i64 (c3 + 1), ()), ())))) (cond (decide (byteAt c2 c3 = 59)) (cond (slOK c3 (c2.length : Int) c2.length) (Option.bind (α := Int) (indexByteF ((c2.drop c3.toNat).take ((c2.length : Int).toNat - c3.toNat)) (10)) fun r4 => (
 Option.bind (α := (Unit × Int × Unit) × (((List UInt8) × Int × Unit) × Unit))
 (cond (decide (r4 < 0)) (some (((), IntKind.wrap .i64 ((c2.length : Int) - c3), ()), ((c2, c3, ()), ()))) (some (((), r4, ()), ((c2, c3, ()), ())))) fun d5 => (
 let c6 := d5.2.1.1
 let c7 := d5.2.1.2.1
 let v3_8 := d5.1.2.1
 some (Step.next (((), ()), ((c6, IntKind.wrap .i64 (c7 + v3_8), ()), ())))))) none) (some (Step.done ((), ((c2, c3, ()), ())))))) none) (some (Step.done ((), ((c2, c3, ()), ())))))) (((), ()), ((o0.1, o0.2.1, ()), ())))
theorem E_skip_le (d : Nat) (o0 : (List UInt8) × Int × Unit) : Le (E_skip d o0) (G_skip o0) := by
 unfold E_skip G_skip
 try dsimp only
 repeat' (first | with_reducible exact Le.refl _ | with_reducible apply Le.cond | with_reducible refine Le.bind ?_ (fun _ => ?_) | with_reducible refine Le.loop (fun _ => ?_) _ | with_reducible refine Le.map ?_ | (rename_i q; cases q <;> dsimp only))
noncomputable def E_text (d : Nat) (o0 : (List UInt8) × Int × Unit) : Option (((List UInt8) × Int × Unit) × (((List UInt8) × Int × Unit) × Unit)) := (
 Option.bind (α := Step ((Unit) × (((List UInt8) × Int × Unit) × Unit)) (((List UInt8) × Int × Unit) × (((List UInt8) × Int × Unit) × Unit)))
 (iterE d (L := (Unit × Unit × Unit) × (((List UInt8) × Int × Unit) × (Bool × Unit × Unit) × (List Int) × Unit)) (R := Step ((Unit) × (((List UInt8) × Int × Unit) × Unit)) (((List UInt8) × Int × Unit) × (((List UInt8) × Int × Unit) × Unit))) (fun d1 => (
 let c2 := d1.2.1.1
 let c3 := d1.2.1.2.1
 let l4 := d1.2.2.2.1
 cond (decide (c3 < (c2.length : Int))) (cond (ixOK c3 c2.length) (Option.bind (α := Step ((Unit × Unit × Int × Unit) × (((List UInt8) × Int × Unit) × (Bool × Unit × Unit) × (List Int) × Unit)) (Step ((Unit × Unit × Unit) × (((List UInt8) × Int × Unit) × (Bool × Unit × Unit) × (List Int) × Unit)) (Step ((Unit) × (((List UInt8) × Int × Unit) × Unit)) (((List UInt8) × Int × Unit) × (((List UInt8) × Int × Unit) × Unit)))))
 (cond (decide (byteAt c2 c3 = 34)) (Option.bind (α := (Int) × ((Bool × Unit × Unit) × (List Int) × Unit)) (G_bldLen (d1.2.2.1.1, (), ()) l4) fun r5 => (
 cond (decide (r5.1 > 2000)) (some (Step.done (Step.done (Step.done (([], 4, ()), ((c2, IntKind.wrap .i64 (c3 + 1), ()), ())))))) (Option.bind (α := (List UInt8) × (Unit)) (Option.map (fun s => (s, ())) (bytesOf (r5.2.2.1))) fun r6 => (
 some (Step.done (Step.done (Step.done ((r6.1, 0, ()), ((c2, IntKind.wrap .i64 (c3 + 1), ()), ()))))))))) (cond (decide (byteAt c2 c3 = 92)) (cond (decide (IntKind.wrap .i64 (c3 + 1) = (c2.length : Int))) (some (Step.done (Step.done (Step.done (([], 12, ()), ((c2, IntKind.wrap .i64 (c3 + 1), ()), ())))))) (cond (ixOK (IntKind.wrap .i64 (c3 + 1)) c2.length) (cond (decide (byteAt c2 (IntKind.wrap .i64 (c3 + 1)) = 110)) (some (Step.next (((), (), 10, ()), ((c2, IntKind.wrap .i64 (c3 + 1), ()), (d1.2.2.1.1, (), ()), l4, ())))) (cond (cond (!decide (byteAt c2 (IntKind.wrap .i64 (c3 + 1)) = 34)) (!decide (byteAt c2 (IntKind.wrap .i64 (c3 + 1)) = 92)) false) (some (Step.done (Step.done (Step.done (([], 4, ()), ((c2, IntKind.wrap .i64 (c3 + 1), ()), ())))))) (some (Step.next (((), (), byteAt c2 (IntKind.wrap .i64 (c3 + 1)), ()), ((c2, IntKind.wrap .i64 (c3 + 1), ()), (d1.2.2.1.1, (), ()), l4, ())))))) none)) (cond (cond (decide (byteAt c2 c3 < 32)) true (decide (byteAt c2 c3 > 126))) (some (Step.done (Step.done (Step.done (([], 4, ()), ((c2, c3, ()), ())))))) (some (Step.next (((), (), byteAt c2 c3, ()), ((c2, c3, ()), (d1.2.2.1.1, (), ()), l4, ()))))))) fun qd7 => match qd7 with
 | .next d7 => (
 let c8 := d7.2.1.1
 let c9 := d7.2.1.2.1
 let l10 := d7.2.2.2.1
 let v5_11 := d7.1.2.2.1
 Option.bind (α := (Bool) × ((Bool × Unit × Unit) × (List Int) × Unit)) (G_bldByte v5_11 (d7.2.2.1.1, (), ()) l10) fun r12 => (
 some (Step.next (((), (), ()), ((c8, IntKind.wrap .i64 (c9 + 1), ()), (r12.2.1.1, (), ()), r12.2.2.1, ())))))
 | .done r => some r) none) (some (Step.done (Step.next ((), ((c2, c3, ()), ()))))))) (((), (), ()), ((o0.1, IntKind.wrap .i64 (o0.2.1 + 1), ()), (false, (), ()), ([] : List Int), ()))) fun qd13 => match qd13 with
 | .next d13 => (
 let c14 := d13.2.1.1
 let c15 := d13.2.1.2.1
 some (([], 12, ()), ((c14, c15, ()), ())))
 | .done r => some r)
theorem E_text_le (d : Nat) (o0 : (List UInt8) × Int × Unit) : Le (E_text d o0) (G_text o0) := by
 unfold E_text G_text
 try dsimp only
 repeat' (first | with_reducible exact Le.refl _ | with_reducible apply Le.cond | with_reducible refine Le.bind ?_ (fun _ => ?_) | with_reducible refine Le.loop (fun _ => ?_) _ | with_reducible refine Le.map ?_ | (rename_i q; cases q <;> dsimp only))
noncomputable def E_iatoi (d : Nat) (x0 : List UInt8) : Option (Int × Bool × Unit) := (
 Option.bind (α := Step (((List UInt8) × Unit) × (Unit)) (Int × Bool × Unit))
 (cond (cond (cond false (cond (decide ((0 : Int) < (x0.length : Int))) (decide ((x0.length : Int) < 10)) false) false) true (cond true (cond (decide ((0 : Int) < (x0.length : Int))) (decide ((x0.length : Int) < 19)) false) false)) (Option.bind (α := Step (((List UInt8) × (List UInt8) × Unit) × (Unit)) (Step (((List UInt8) × Unit) × (Unit)) (Int × Bool × Unit)))
 (cond (ixOK 0 x0.length) (cond ((ixOK 0 x0.length) || !(!(decide (byteAt x0 0 = 45)))) (cond (cond (decide (byteAt x0 0 = 45)) true (decide (byteAt x0 0 = 43))) (cond (slOK 1 (x0.length : Int) x0.length) (cond (decide ((((x0.drop (1 : Int).toNat).take ((x0.length : Int).toNat - (1 : Int).toNat)).length : Int) < 1)) (some (Step.done (Step.done (0, false, ())))) (some (Step.next (((x0.drop (1 : Int).toNat).take ((x0.length : Int).toNat - (1 : Int).toNat), x0, ()), ())))) none) (some (Step.next ((x0, x0, ()), ())))) none) none) fun qd1 => match qd1 with
 | .next d1 => (
 let v0_2 := d1.1.1
 let v5_3 := d1.1.2.1
 Option.bind (α := Step (((List UInt8) × Int × Unit) × (Unit)) (Step (((List UInt8) × Unit) × (Unit)) (Int × Bool × Unit)))
 (cond (decide (v0_2.length ≤ 4611686018427387904)) (iterE d (L := ((List UInt8) × Int × (List Int) × Int × Int × Unit) × (Unit)) (R := Step (((List UInt8) × Int × Unit) × (Unit)) (Step (((List UInt8) × Unit) × (Unit)) (Int × Bool × Unit))) (fun d4 => (
 let v5_5 := d4.1.1
 let v6_6 := d4.1.2.1
 let v47_7 := d4.1.2.2.1
 let v48_8 := d4.1.2.2.2.1
 let v49_9 := d4.1.2.2.2.2.1
 cond (decide (v49_9 < v48_8)) (cond (ixOK v49_9 v47_7.length) (cond (decide (IntKind.wrap .u8 ((v47_7.getD v49_9.toNat (0 : Int)) - 48) > 9)) (some (Step.done (Step.done (Step.done (0, false, ()))))) (some (Step.next ((v5_5, IntKind.wrap .i64 (IntKind.wrap .i64 (v6_6 * 10) + IntKind.wrap .i64 (IntKind.wrap .u8 ((v47_7.getD v49_9.toNat (0 : Int)) - 48))), v47_7, v48_8, IntKind.wrap .i64 (v49_9 + 1), ()), ())))) none) (some (Step.done (Step.next ((v5_5, v6_6, ()), ())))))) ((v5_3, 0, intsOf v0_2, ((intsOf v0_2).length : Int), 0, ()), ())) none) fun qd10 => match qd10 with
 | .next d10 => (
 let v5_11 := d10.1.1
 let v6_12 := d10.1.2.1
 Option.bind (α := (Int × Unit) × (Unit))
 (cond (ixOK 0 v5_11.length) (cond (decide (byteAt v5_11 0 = 45)) (some ((IntKind.wrap .i64 (0 - v6_12), ()), ())) (some ((v6_12, ()), ()))) none) fun d13 => (
 let v6_14 := d13.1.1
 some (Step.done (v6_14, true, ()))))
 | .done r => some r)
 | .done r => some r) (some (Step.next ((x0, ()), ())))) fun qd15 => match qd15 with
 | .next d15 => (
 let v0_16 := d15.1.1
 none)
 | .done r => some r)
theorem E_iatoi_le (d : Nat) (x0 : List UInt8) : Le (E_iatoi d x0) (G_iatoi x0) := by
 unfold E_iatoi G_iatoi
 try dsimp only
 repeat' (first | with_reducible exact Le.refl _ | with_reducible apply Le.cond | with_reducible refine Le.bind ?_ (fun _ => ?_) | with_reducible refine Le.loop (fun _ => ?_) _ | with_reducible refine Le.map ?_ | (rename_i q; cases q <;> dsimp only))
noncomputable def E_atoi (d : Nat) (x0 : List UInt8) : Option (Int × Bool × Unit) := (
 Option.bind (α := Int × Bool × Unit) (E_iatoi d x0) fun r1 => (
 cond (!r1.2.1) (none) (some (r1.1, true, ()))))
theorem E_atoi_le (d : Nat) (x0 : List UInt8) : Le (E_atoi d x0) (G_atoi x0) := by
 unfold E_atoi G_atoi
 try dsimp only
 repeat' (first | with_reducible exact Le.refl _ | with_reducible exact E_iatoi_le _ _ | with_reducible apply Le.cond | with_reducible refine Le.bind ?_ (fun _ => ?_) | with_reducible refine Le.loop (fun _ => ?_) _ | with_reducible refine Le.map ?_ | (rename_i q; cases q <;> dsimp only))
noncomputable def E_number (d : Nat) (x0 : List UInt8) : Option (Int × Int × Unit) := (
 cond ((ixOK 0 (trimPrefixF (x0) ([45])).length) || !(decide (((trimPrefixF (x0) ([45])).length : Int) > 1))) (cond (cond (cond (decide (((trimPrefixF (x0) ([45])).length : Int) > 1)) (decide (byteAt (trimPrefixF (x0) ([45])) 0 = 48)) false) true (decide (x0 = [45, 48]))) (some (0, 4, ())) (Option.bind (α := Int × Bool × Unit) (E_atoi d x0) fun r1 => (
 cond (cond (cond (!r1.2.1) true (decide (r1.1 < (-1152921504606846976)))) true (decide (r1.1 > 1152921504606846976))) (some (0, 5, ())) (some (r1.1, 0, ()))))) none)
theorem E_number_le (d : Nat) (x0 : List UInt8) : Le (E_number d x0) (G_number x0) := by
 unfold E_number G_number
 try dsimp only
 repeat' (first | with_reducible exact Le.refl _ | with_reducible exact E_atoi_le _ _ | with_reducible apply Le.cond | with_reducible refine Le.bind ?_ (fun _ => ?_) | with_reducible refine Le.loop (fun _ => ?_) _ | with_reducible refine Le.map ?_ | (rename_i q; cases q <;> dsimp only))
noncomputable def E_next (d : Nat) (o0 : (List UInt8) × Int × Unit) : Option (((Int × Fm) × Bool × Int × Unit) × (((List UInt8) × Int × Unit) × Unit)) := (
 Option.bind (α := (Unit) × (((List UInt8) × Int × Unit) × Unit)) (E_skip d (o0.1, o0.2.1, ())) fun r1 => (
 cond (decide (r1.2.1.2.1 = (r1.2.1.1.length : Int))) (some (((0, (Fm.mk 0 0 ([]) ([] : List Fm))), false, 0, ()), ((r1.2.1.1, r1.2.1.2.1, ()), ()))) (cond (ixOK r1.2.1.2.1 r1.2.1.1.length) (cond (cond (decide (byteAt r1.2.1.1 r1.2.1.2.1 = 40)) true (decide (byteAt r1.2.1.1 r1.2.1.2.1 = 41))) (some (((byteAt r1.2.1.1 r1.2.1.2.1, (Fm.mk 0 0 ([]) ([] : List Fm))), true, 0, ()), ((r1.2.1.1, IntKind.wrap .i64 (r1.2.1.2.1 + 1), ()), ()))) (cond (decide (byteAt r1.2.1.1 r1.2.1.2.1 = 34)) (Option.bind (α := ((List UInt8) × Int × Unit) × (((List UInt8) × Int × Unit) × Unit)) (E_text d (r1.2.1.1, r1.2.1.2.1, ())) fun r2 => (
 some (((0, (Fm.mk 2 0 r2.1.1 ([] : List Fm))), true, r2.1.2.1, ()), ((r2.2.1.1, r2.2.1.2.1, ()), ())))) (Option.bind (α := Bool) (outsideF (byteAt r1.2.1.1 r1.2.1.2.1)) fun r3 => (
 cond r3 (some (((0, (Fm.mk 0 0 ([]) ([] : List Fm))), true, 4, ()), ((r1.2.1.1, r1.2.1.2.1, ()), ()))) (Option.bind (α := (Unit × Unit × Int × Unit) × (((List UInt8) × Int × Unit) × (Int × Int × Int × (List UInt8) × Unit × Unit) × Unit))
 (iterE d (L := (Unit × Unit × Int × Unit) × (((List UInt8) × Int × Unit) × (Int × Int × Int × (List UInt8) × Unit × Unit) × Unit)) (R := (Unit × Unit × Int × Unit) × (((List UInt8) × Int × Unit) × (Int × Int × Int × (List UInt8) × Unit × Unit) × Unit)) (fun d4 => (
 let c5 := d4.2.1.1
 let c6 := d4.2.1.2.1
 let v8_7 := d4.1.2.2.1
 cond ((ixOK c6 c5.length) || !(decide (c6 < (c5.length : Int)))) (Option.bind (α := Bool) (cond (decide (c6 < (c5.length : Int))) (outsideF (byteAt c5 c6)) (some false)) fun r8 => (
 cond (cond (decide (c6 < (c5.length : Int))) (!r8) false) (some (Step.next (((), (), v8_7, ()), ((c5, IntKind.wrap .i64 (c6 + 1), ()), (d4.2.2.1.1, d4.2.2.1.2.1, d4.2.2.1.2.2.1, d4.2.2.1.2.2.2.1, (), ()), ())))) (some (Step.done (((), (), v8_7, ()), ((c5, c6, ()), (d4.2.2.1.1, d4.2.2.1.2.1, d4.2.2.1.2.2.1, d4.2.2.1.2.2.2.1, (), ()), ())))))) none)) (((), (), r1.2.1.2.1, ()), ((r1.2.1.1, r1.2.1.2.1, ()), (0, 0, 0, [], (), ()), ()))) fun d9 => (
 let c10 := d9.2.1.1
 let c11 := d9.2.1.2.1
 let v8_12 := d9.1.2.2.1
 cond (slOK v8_12 c11 c10.length) (Option.bind (α := Bool) (numericF ((c10.drop v8_12.toNat).take (c11.toNat - v8_12.toNat))) fun r13 => (
 cond r13 (Option.bind (α := Int × Int × Unit) (E_number d ((c10.drop v8_12.toNat).take (c11.toNat - v8_12.toNat))) fun r14 => (
 some (((0, (Fm.mk 0 r14.1 ([]) ([] : List Fm))), true, r14.2.1, ()), ((c10, c11, ()), ())))) (cond (decide ((((c10.drop v8_12.toNat).take (c11.toNat - v8_12.toNat)).length : Int) > 30)) (some (((d9.2.2.1.1, (Fm.mk d9.2.2.1.2.1 d9.2.2.1.2.2.1 d9.2.2.1.2.2.2.1 ([] : List Fm))), true, 4, ()), ((c10, c11, ()), ()))) (some (((0, (Fm.mk 1 0 ((c10.drop v8_12.toNat).take (c11.toNat - v8_12.toNat)) ([] : List Fm))), true, 0, ()), ((c10, c11, ()), ())))))) none)))))) none)))
theorem E_next_le (d : Nat) (o0 : (List UInt8) × Int × Unit) : Le (E_next d o0) (G_next o0) := by
 unfold E_next G_next
 try dsimp only
 repeat' (first | with_reducible exact Le.refl _ | with_reducible exact E_skip_le _ _ | with_reducible exact E_text_le _ _ | with_reducible exact E_number_le _ _ | with_reducible apply Le.cond | with_reducible refine Le.bind ?_ (fun _ => ?_) | with_reducible refine Le.loop (fun _ => ?_) _ | with_reducible refine Le.map ?_ | (rename_i q; cases q <;> dsimp only))
end Go.Ab

namespace Go.Ab
open Go
def blankB (c : UInt8) : Bool := decide (c = 32) || (decide (c = 9) || decide (c = 10))
def skipS : Bool → List UInt8 → List UInt8
 | _, [] => []
 | true, c :: r => if c = 10 then skipS false r else skipS true r
 | false, c :: r => if blankB c = true then skipS false r else if c = 59 then skipS true r else c :: r
def textS : List UInt8 → List UInt8 → Int ⊕ (List UInt8 × List UInt8)
 | [], _ => .inl 12
 | [c], b => if c = 34 then (if b.length > 2000 then .inl 4 else .inr (b, [])) else if c = 92 then .inl 12 else if c < 32 ∨ c > 126 then .inl 4 else .inl 12
 | c :: d :: r, b =>
  if c = 34 then (if b.length > 2000 then .inl 4 else .inr (b, d :: r))
  else if c = 92 then (if d = 110 then textS r (b ++ [10]) else if d = 34 ∨ d = 92 then textS r (b ++ [d]) else .inl 4)
  else if c < 32 ∨ c > 126 then .inl 4 else textS (d :: r) (b ++ [c])
theorem textS_len : ∀ (r b x y : List UInt8), textS r b = .inr (x, y) → y.length ≤ r.length
 | [], b, x, y, h => by simp [textS] at h
 | [c], b, x, y, h => by
  simp only [textS] at h
  split at h
  ·split at h
   ·cases h
   ·cases h; simp
  ·split at h
   ·cases h
   ·split at h <;> cases h
 | c :: d :: r, b, x, y, h => by
  simp only [textS] at h
  split at h
  ·split at h
   ·cases h
   ·cases h; simp
  ·split at h
   ·split at h
    ·have := textS_len r _ x y h; simp only [List.length_cons]; omega
    ·split at h
     ·have := textS_len r _ x y h; simp only [List.length_cons]; omega
     ·cases h
   ·split at h
    ·cases h
    ·have := textS_len (d :: r) _ x y h; simp only [List.length_cons] at *; omega
def lstF (l : List Fm) : Fm := .mk 3 0 [] l
def txtF (b : List UInt8) : Fm := .mk 2 0 b []
section
variable (vis : UInt8 → Bool) (tok : List UInt8 → Int ⊕ Fm)
def touchS : List UInt8 → Bool
 | [] => false
 | c :: _ => decide (c = 34) || vis c
def parseS : Nat → List UInt8 → List Fm → List (List Fm) → Int ⊕ List Fm
 | 0, _, _, _ => .inl 0
 | n + 1, r, top, st => match skipS false r with
  | [] => (match st with
   | [] => .inr top
   | _ :: _ => .inl 12)
  | c :: r' =>
   if c = 40 then parseS n r' [] (top :: st)
   else if c = 41 then (match st with
    | [] => .inl 4
    | t :: st' => parseS n r' (t ++ [lstF top]) st')
   else if c = 34 then (match textS r' [] with
    | .inl e => .inl e
    | .inr (b, q) => if touchS vis q = true then .inl 4 else parseS n q (top ++ [txtF b]) st)
   else if vis c = true then (match tok ((c :: r').takeWhile vis) with
    | .inl e => .inl e
    | .inr f => if touchS vis ((c :: r').dropWhile vis) = true then .inl 4 else parseS n ((c :: r').dropWhile vis) (top ++ [f]) st)
   else .inl 4
def refS : Nat → List UInt8 → Bool → List Fm → List (List Fm) → Int ⊕ List Fm
 | 0, _, _, _, _ => .inl 0
 | n + 1, [], near, top, st => (match st with
   | [] => .inr top
   | _ :: _ => .inl 12)
 | n + 1, c :: r', near, top, st =>
  if blankB c = true then refS n r' false top st
  else if c = 59 then refS n ((c :: r').dropWhile (fun x => !decide (x = 10))) false top st
  else if c = 40 then refS n r' false [] (top :: st)
  else if c = 41 then (match st with
   | [] => .inl 4
   | t :: st' => refS n r' false (t ++ [lstF top]) st')
  else if near = true then .inl 4
  else if c = 34 then (match textS r' [] with
   | .inl e => .inl e
   | .inr (b, q) => refS n q true (top ++ [txtF b]) st)
  else if vis c = true then (match tok ((c :: r').takeWhile vis) with
   | .inl e => .inl e
   | .inr f => refS n ((c :: r').dropWhile vis) true (top ++ [f]) st)
  else .inl 4
theorem refS_cons (n : Nat) (c : UInt8) (r' : List UInt8) (near : Bool) (top : List Fm) (st : List (List Fm)) : refS vis tok (n + 1) (c :: r') near top st =
  (if blankB c = true then refS vis tok n r' false top st
  else if c = 59 then refS vis tok n ((c :: r').dropWhile (fun x => !decide (x = 10))) false top st
  else if c = 40 then refS vis tok n r' false [] (top :: st)
  else if c = 41 then (match st with
   | [] => .inl 4
   | t :: st' => refS vis tok n r' false (t ++ [lstF top]) st')
  else if near = true then .inl 4
  else if c = 34 then (match textS r' [] with
   | .inl e => .inl e
   | .inr (b, q) => refS vis tok n q true (top ++ [txtF b]) st)
  else if vis c = true then (match tok ((c :: r').takeWhile vis) with
   | .inl e => .inl e
   | .inr f => refS vis tok n ((c :: r').dropWhile vis) true (top ++ [f]) st)
  else .inl 4) := rfl
theorem parseS_succ (n : Nat) (r : List UInt8) (top : List Fm) (st : List (List Fm)) : parseS vis tok (n + 1) r top st =
  (match skipS false r with
  | [] => (match st with
   | [] => .inr top
   | _ :: _ => .inl 12)
  | c :: r' =>
   if c = 40 then parseS vis tok n r' [] (top :: st)
   else if c = 41 then (match st with
    | [] => .inl 4
    | t :: st' => parseS vis tok n r' (t ++ [lstF top]) st')
   else if c = 34 then (match textS r' [] with
    | .inl e => .inl e
    | .inr (b, q) => if touchS vis q = true then .inl 4 else parseS vis tok n q (top ++ [txtF b]) st)
   else if vis c = true then (match tok ((c :: r').takeWhile vis) with
    | .inl e => .inl e
    | .inr f => if touchS vis ((c :: r').dropWhile vis) = true then .inl 4 else parseS vis tok n ((c :: r').dropWhile vis) (top ++ [f]) st)
   else .inl 4) := rfl
theorem skip_line : ∀ r : List UInt8, skipS true r = skipS false (r.dropWhile (fun x => !decide (x = 10)))
 | [] => rfl
 | c :: r => by
  by_cases h : c = 10
  ·subst h
   rw [List.dropWhile_cons_of_neg (by simp)]
   simp [skipS, blankB]
  ·rw [List.dropWhile_cons_of_pos (by simp [h])]
   simp only [skipS, h, if_false]
   exact skip_line r
theorem drop_len (p : UInt8 → Bool) : ∀ r : List UInt8, (r.dropWhile p).length ≤ r.length
 | [] => Nat.le_refl _
 | c :: r => by
  by_cases h : p c = true
  ·rw [List.dropWhile_cons_of_pos h]; have := drop_len p r; simp only [List.length_cons]; omega
  ·rw [List.dropWhile_cons_of_neg h]; exact Nat.le_refl _
theorem parse_skip {n : Nat} {r q : List UInt8} (h : skipS false r = skipS false q) (top : List Fm) (st : List (List Fm)) : parseS vis tok n r top st = parseS vis tok n q top st := by
 cases n with
 | zero => rfl
 | succ n => simp only [parseS, h]
theorem read_same (hv : ∀ c, vis c = true → blankB c = false ∧ c ≠ 59 ∧ c ≠ 40 ∧ c ≠ 41 ∧ c ≠ 34) : ∀ (N : Nat) (r : List UInt8), r.length ≤ N → ∀ (n m : Nat) (near : Bool) (top : List Fm) (st : List (List Fm)), r.length < n → r.length < m →
  refS vis tok n r near top st = if (near && touchS vis r) = true then .inl 4 else parseS vis tok m r top st
 | N, [], hN, n + 1, m + 1, near, top, st, hn, hm => by simp [refS, parseS, touchS, skipS]
 | N, [], hN, 0, m, near, top, st, hn, hm => by simp at hn
 | N, [], hN, n + 1, 0, near, top, st, hn, hm => by simp at hm
 | 0, c :: r', hN, n, m, near, top, st, hn, hm => by simp at hN
 | N + 1, c :: r', hN, 0, m, near, top, st, hn, hm => by simp at hn
 | N + 1, c :: r', hN, n + 1, 0, near, top, st, hn, hm => by simp at hm
 | N + 1, c :: r', hN, n + 1, m + 1, near, top, st, hn, hm => by
  simp only [List.length_cons] at hN hn hm
  have ih := read_same hv N
  by_cases hb : blankB c = true
  ·have ht : touchS vis (c :: r') = false := by
    have h1 : vis c = false := by
     cases hc : vis c with
     | false => rfl
     | true => have := (hv c hc).1; rw [hb] at this; cases this
    have h2 : ¬ c = 34 := fun e => by subst e; simp [blankB] at hb
    simp [touchS, h1, h2]
   rw [refS_cons, if_pos hb, ht, Bool.and_false, if_neg (by simp), ih r' (by omega) n (m + 1) false top st (by omega) (by omega), Bool.false_and, if_neg (by simp)]
   exact parse_skip vis tok (by simp [skipS, hb]) top st
  ·by_cases hs : c = 59
   ·have ht : touchS vis (c :: r') = false := by
     have h1 : vis c = false := by
      cases hc : vis c with
      | false => rfl
      | true => exact absurd hs (hv c hc).2.1
     subst hs; simp [touchS, h1]
    have hl : ((c :: r').dropWhile (fun x => !decide (x = 10))).length ≤ r'.length := by
     rw [List.dropWhile_cons_of_pos (by subst hs; decide)]; exact drop_len _ _
    rw [refS_cons, if_neg hb, if_pos hs, ht, Bool.and_false, if_neg (by simp), ih _ (by omega) n (m + 1) false top st (by omega) (by omega), Bool.false_and, if_neg (by simp)]
    refine parse_skip vis tok ?_ top st
    rw [← skip_line]
    have : skipS false (c :: r') = skipS true r' := by subst hs; simp [skipS, blankB]
    rw [this]
    subst hs
    simp [skipS, blankB]
   ·have hsk : skipS false (c :: r') = c :: r' := by simp [skipS, hb, hs]
    have hp : ∀ top st, parseS vis tok (m + 1) (c :: r') top st = if c = 40 then parseS vis tok m r' [] (top :: st)
      else if c = 41 then (match st with
       | [] => .inl 4
       | t :: st' => parseS vis tok m r' (t ++ [lstF top]) st')
      else if c = 34 then (match textS r' [] with
       | .inl e => .inl e
       | .inr (b, q) => if touchS vis q = true then .inl 4 else parseS vis tok m q (top ++ [txtF b]) st)
      else if vis c = true then (match tok ((c :: r').takeWhile vis) with
       | .inl e => .inl e
       | .inr f => if touchS vis ((c :: r').dropWhile vis) = true then .inl 4 else parseS vis tok m ((c :: r').dropWhile vis) (top ++ [f]) st)
      else .inl 4 := fun top st => by rw [parseS_succ, hsk]
    have novis : ∀ x : UInt8, c = x → (∀ c, vis c = true → c ≠ x) → vis c = false := fun x e h => by
     cases hc : vis c with
     | false => rfl
     | true => exact absurd e (h c hc)
    rw [refS_cons, if_neg hb, if_neg hs, hp]
    by_cases h40 : c = 40
    ·have ht : touchS vis (c :: r') = false := by
      have := novis 40 h40 (fun c hc => (hv c hc).2.2.1)
      subst h40; simp [touchS, this]
     rw [if_pos h40, if_pos h40, ht, Bool.and_false, if_neg (by simp), ih r' (by omega) n m false _ _ (by omega) (by omega), Bool.false_and, if_neg (by simp)]
    ·rw [if_neg h40, if_neg h40]
     by_cases h41 : c = 41
     ·have ht : touchS vis (c :: r') = false := by
       have := novis 41 h41 (fun c hc => (hv c hc).2.2.2.1)
       subst h41; simp [touchS, this]
      rw [if_pos h41, if_pos h41, ht, Bool.and_false, if_neg (by simp)]
      cases st with
      | nil => rfl
      | cons t st' =>
       simp only
       rw [ih r' (by omega) n m false _ _ (by omega) (by omega), Bool.false_and, if_neg (by simp)]
     ·rw [if_neg h41, if_neg h41]
      cases near with
      | true =>
       rw [if_pos rfl, Bool.true_and]
       by_cases h34 : c = 34
       ·rw [if_pos (by simp [touchS, h34])]
       ·by_cases hvc : vis c = true
        ·rw [if_pos (by simp [touchS, hvc])]
        ·rw [if_neg (by simp [touchS, h34, hvc]), if_neg h34, if_neg hvc]
      | false =>
       rw [Bool.false_and, if_neg (show ¬ (false = true) by decide), if_neg (show ¬ (false = true) by decide)]
       by_cases h34 : c = 34
       ·rw [if_pos h34, if_pos h34]
        cases hx : textS r' [] with
        | inl e => rfl
        | inr p =>
         obtain ⟨b, q⟩ := p
         have hl := textS_len r' [] b q hx
         simp only
         rw [ih q (by omega) n m true _ _ (by omega) (by omega), Bool.true_and]
       ·rw [if_neg h34, if_neg h34]
        by_cases hvc : vis c = true
        ·rw [if_pos hvc, if_pos hvc]
         have hl : ((c :: r').dropWhile vis).length ≤ r'.length := by rw [List.dropWhile_cons_of_pos hvc]; exact drop_len _ _
         cases hx : tok ((c :: r').takeWhile vis) with
         | inl e => rfl
         | inr f =>
          simp only
          rw [ih _ (by omega) n m true _ _ (by omega) (by omega), Bool.true_and]
        ·rw [if_neg hvc, if_neg hvc]
end
end Go.Ab

set_option maxRecDepth 100000
namespace Go.Ab
open Go Go.RowKit Go.Proofs
theorem ywp {L R : Type} {b : L → Option (Step L R)} {l0 : L} (I : L → Prop) (μ : L → Nat) (Q : R → Prop)
  (h : ∀ l, I l → (∃ l', b l = some (.next l') ∧ I l' ∧ μ l' < μ l) ∨ ∃ r, b l = some (.done r) ∧ Q r) (h0 : I l0) : ∃ r, loopM b l0 = some r ∧ Q r := by
 have key : ∀ (n : Nat) (l : L), μ l ≤ n → I l → ∃ r, loopM b l = some r ∧ Q r := by
  intro n
  induction n with
  | zero =>
   intro l hl hi
   rcases h l hi with ⟨l', h1, h2, h3⟩ | ⟨r, h1, h2⟩
   ·omega
   ·exact ⟨r, loopM_done h1, h2⟩
  | succ n ih =>
   intro l hl hi
   rcases h l hi with ⟨l', h1, h2, h3⟩ | ⟨r, h1, h2⟩
   ·rw [loopM_next h1]; exact ih l' (by omega) h2
   ·exact ⟨r, loopM_done h1, h2⟩
 exact key _ l0 (Nat.le_refl _) h0
theorem yloop {L R A : Type} {b : L → Option (Step L R)} {l0 : L} {F : R → Option A} (I : L → Prop) (μ : L → Nat) (Q : A → Prop)
  (h : ∀ l, I l → (∃ l', b l = some (.next l') ∧ I l' ∧ μ l' < μ l) ∨ ∃ r, b l = some (.done r) ∧ ∃ v, F r = some v ∧ Q v) (h0 : I l0) : ∃ v, Option.bind (loopM b l0) F = some v ∧ Q v := by
 obtain ⟨r, h1, v, h2, h3⟩ := ywp I μ (fun r => ∃ v, F r = some v ∧ Q v) h h0
 exact ⟨v, by rw [h1]; exact h2, h3⟩
theorem ybind {A B : Type} {o : Option A} {F : A → Option B} {v : A} {u : Option B} (h : o = some v) (k : F v = u) : Option.bind o F = u := by rw [h]; exact k
theorem ycond {α : Type} {b : Bool} {x y v : α} (h : b = true) (hx : x = v) : cond b x y = v := by subst h; exact hx
theorem ycondn {α : Type} {b : Bool} {x y v : α} (h : b = false) (hy : y = v) : cond b x y = v := by subst h; exact hy
theorem ywrap {i : Nat} (h : i < 4611686018427387904) : IntKind.wrap .i64 ((i : Int) + 1) = ((i + 1 : Nat) : Int) := by
 rw [w64 (by omega) (by omega)]; rfl
theorem ybyte {s : List UInt8} {i : Nat} (h : i < s.length) : byteAt s (i : Int) = ((s[i].toNat : Nat) : Int) := by
 unfold byteAt; simp [h]
theorem ybyte_eq {c : UInt8} {n : Nat} (h : n < 256) : (((c.toNat : Nat) : Int) = (n : Int)) ↔ c = UInt8.ofNat n := by
 constructor
 ·intro e
  apply UInt8.toNat_inj.1
  rw [UInt8.toNat_ofNat_of_lt' h]; omega
 ·intro e; subst e
  rw [UInt8.toNat_ofNat_of_lt' h]
theorem ydrop {s : List UInt8} {i : Nat} (h : i < s.length) : s.drop i = s[i] :: s.drop (i + 1) := List.drop_eq_getElem_cons h
theorem ybyteD (c : UInt8) (n : Nat) (h : n < 256) : decide (((c.toNat : Nat) : Int) = (n : Int)) = decide (c = UInt8.ofNat n) := decide_eq_decide.2 (ybyte_eq h)
theorem blank_cond (c : UInt8) : cond (cond (decide (((c.toNat : Nat) : Int) = 32)) true (decide (((c.toNat : Nat) : Int) = 9))) true (decide (((c.toNat : Nat) : Int) = 10)) = blankB c := by
 have a1 : decide (((c.toNat : Nat) : Int) = 32) = decide (c = 32) := ybyteD c 32 (by decide)
 have a2 : decide (((c.toNat : Nat) : Int) = 9) = decide (c = 9) := ybyteD c 9 (by decide)
 have a3 : decide (((c.toNat : Nat) : Int) = 10) = decide (c = 10) := ybyteD c 10 (by decide)
 rw [a1, a2, a3]
 unfold blankB
 cases decide (c = 32) <;> cases decide (c = 9) <;> rfl
theorem line_drop : ∀ l : List UInt8, (Lib.indexByte l 10 < 0 → l.dropWhile (fun x => !decide (x = 10)) = []) ∧ (0 ≤ Lib.indexByte l 10 → l.dropWhile (fun x => !decide (x = 10)) = l.drop (Lib.indexByte l 10).toNat ∧ Lib.indexByte l 10 < l.length)
 | [] => by simp [Lib.indexByte]
 | c :: l => by
  have ih := line_drop l
  have hge := Lib.indexByte_ge l 10
  by_cases h : c = 10
  ·subst h
   simp [Lib.indexByte]
  ·rw [List.dropWhile_cons_of_pos (by simp [h])]
   have hb : (c == 10) = false := by simpa using h
   simp only [Lib.indexByte, hb, Bool.false_eq_true, if_false]
   by_cases hm : Lib.indexByte l 10 = -1
   ·simp only [hm, beq_self_eq_true, if_true]
    refine ⟨fun _ => ih.1 (by omega), fun h => absurd h (by decide)⟩
   ·have hm' : (Lib.indexByte l 10 == -1) = false := by simpa using hm
    simp only [hm', Bool.false_eq_true, if_false]
    refine ⟨fun h => by omega, fun _ => ?_⟩
    obtain ⟨a, b⟩ := ih.2 (by omega)
    refine ⟨?_, by simp only [List.length_cons]; omega⟩
    rw [a, show (Lib.indexByte l 10 + 1).toNat = (Lib.indexByte l 10).toNat + 1 by omega]
    rfl
theorem skip59 (r : List UInt8) : skipS false (59 :: r) = skipS true (59 :: r) := by simp [skipS, blankB]
theorem skip_val {s : List UInt8} {i0 : Nat} (hs : s.length ≤ 1000000000) (h0 : i0 ≤ s.length) : ∃ j : Nat, G_skip (s, (i0 : Int), ()) = some ((), ((s, (j : Int), ()), ())) ∧ i0 ≤ j ∧ j ≤ s.length ∧ s.drop j = skipS false (s.drop i0) ∧ skipS false (s.drop j) = s.drop j := by
 have key : ∃ r, G_skip (s, (i0 : Int), ()) = some r ∧ ∃ j : Nat, r = ((), ((s, (j : Int), ()), ())) ∧ i0 ≤ j ∧ j ≤ s.length ∧ s.drop j = skipS false (s.drop i0) ∧ skipS false (s.drop j) = s.drop j := by
  unfold G_skip
  refine ywp (fun d => ∃ i : Nat, d = (((), ()), ((s, (i : Int), ()), ())) ∧ i0 ≤ i ∧ i ≤ s.length ∧ skipS false (s.drop i) = skipS false (s.drop i0)) (fun d => s.length - d.2.1.2.1.toNat) _ ?_ ⟨i0, rfl, Nat.le_refl _, h0, rfl⟩
  rintro d ⟨i, rfl, hi0, hi, hk⟩
  simp only [Int.toNat_natCast]
  by_cases hi' : i < s.length
  ·have e1 : decide ((i : Int) < (s.length : Int)) = true := by apply decide_eq_true; omega
   have x1 : ixOK (i : Int) s.length = true := ixOK_iff.2 (by omega)
   have e59 := ybyte_eq (c := s[i]) (n := 59) (by decide)
   have hd := ydrop hi'
   simp only [e1, x1, ybyte hi', cond_true, ywrap (show i < 4611686018427387904 by omega)]
   by_cases hb : blankB s[i] = true
   ·have hb' := (blank_cond s[i]).trans hb
    rw [hb', cond_true]
    refine .inl ⟨_, rfl, ⟨i + 1, rfl, by omega, by omega, ?_⟩, by simp only [Int.toNat_natCast]; omega⟩
    rw [← hk, hd, skipS, if_pos hb]
   ·have hb' := (blank_cond s[i]).trans (by simpa using hb)
    rw [hb', cond_false]
    by_cases h59 : s[i] = 59
    ·have q59 : decide (((s[i].toNat : Nat) : Int) = 59) = true := decide_eq_true (e59.2 h59)
     have sl : slOK (i : Int) (s.length : Int) s.length = true := slOK_iff.2 (by omega)
     have ht : (s.drop i).take (s.length - i) = s.drop i := List.take_of_length_le (by simp)
     have hix : indexByteF (s.drop i) 10 = some (Lib.indexByte (s.drop i) 10) := by
      unfold indexByteF; rw [if_pos (by decide)]; rfl
     have hln := line_drop (s.drop i)
     have hsk : skipS false (s.drop i) = skipS false ((s.drop i).dropWhile (fun x => !decide (x = 10))) := by
      rw [← skip_line, hd, h59]; exact skip59 _
     rw [q59, cond_true, sl, cond_true, ht, hix]
     by_cases hn : Lib.indexByte (s.drop i) 10 < 0
     ·have qn : decide (Lib.indexByte (s.drop i) 10 < 0) = true := decide_eq_true hn
      simp only [Option.bind_some, qn, cond_true, w64 (n := (s.length : Int) - (i : Int)) (by omega) (by omega)]
      have w2 : IntKind.wrap .i64 ((i : Int) + ((s.length : Int) - (i : Int))) = ((s.length : Nat) : Int) := by rw [w64 (by omega) (by omega)]; omega
      rw [w2]
      refine .inl ⟨_, rfl, ⟨s.length, rfl, by omega, Nat.le_refl _, ?_⟩, by simp only [Int.toNat_natCast]; omega⟩
      rw [← hk, hsk, hln.1 hn, List.drop_length]
     ·have qn : decide (Lib.indexByte (s.drop i) 10 < 0) = false := decide_eq_false hn
      obtain ⟨a, b⟩ := hln.2 (by omega)
      rw [List.length_drop] at b
      have hpos : Lib.indexByte (s.drop i) 10 ≠ 0 := by
       rw [hd, Lib.indexByte, h59]
       have := Lib.indexByte_ge (s.drop (i + 1)) 10
       have e : ((59 : UInt8) == 10) = false := rfl
       simp only [e, Bool.false_eq_true, if_false]
       split
       ·decide
       ·rename_i hx; simp at hx; omega
      simp only [Option.bind_some, qn, cond_false]
      have w2 : IntKind.wrap .i64 ((i : Int) + Lib.indexByte (s.drop i) 10) = ((i + (Lib.indexByte (s.drop i) 10).toNat : Nat) : Int) := by rw [w64 (by omega) (by omega)]; omega
      rw [w2]
      refine .inl ⟨_, rfl, ⟨_, rfl, by omega, by omega, ?_⟩, by simp only [Int.toNat_natCast]; omega⟩
      rw [← hk, hsk, a, List.drop_drop]
    ·have q59 : decide (((s[i].toNat : Nat) : Int) = 59) = false := decide_eq_false fun e => h59 (e59.1 e)
     rw [q59, cond_false]
     have hf : skipS false (s.drop i) = s.drop i := by rw [hd, skipS, if_neg hb, if_neg h59]
     exact .inr ⟨_, rfl, i, rfl, hi0, hi, by rw [← hk, hf], hf⟩
  ·have e1 : decide ((i : Int) < (s.length : Int)) = false := by apply decide_eq_false; omega
   have hd : s.drop i = [] := List.drop_of_length_le (by omega)
   refine .inr ⟨_, by simp only [e1, cond_false], i, rfl, hi0, hi, by rw [← hk, hd, skipS], by rw [hd, skipS]⟩
 obtain ⟨r, h1, j, rfl, h2⟩ := key
 exact ⟨j, h1, h2⟩
end Go.Ab

set_option maxRecDepth 100000
namespace Go.Ab
open Go Go.RowKit Go.Proofs
theorem text_nil (b : List UInt8) : textS [] b = .inl 12 := by simp [textS]
theorem text_cons (c : UInt8) (r b : List UInt8) : textS (c :: r) b = if c = 34 then (if b.length > 2000 then .inl 4 else .inr (b, r))
  else if c = 92 then (match r with
   | [] => .inl 12
   | d :: r' => if d = 110 then textS r' (b ++ [10]) else if d = 34 ∨ d = 92 then textS r' (b ++ [d]) else .inl 4)
  else if c < 32 ∨ c > 126 then .inl 4 else textS r (b ++ [c]) := by
 cases r with
 | nil => simp [textS]
 | cons d r' => simp [textS]
theorem bytes_ints (b : List UInt8) : bytesOf (intsOf b) = some b := by
 have h1 : ((intsOf b).all fun n => decide (0 ≤ n ∧ n < 256)) = true := by
  rw [List.all_eq_true]
  intro n hn
  unfold intsOf at hn
  obtain ⟨c, _, rfl⟩ := List.mem_map.1 hn
  apply decide_eq_true
  have := c.toNat_lt
  omega
 unfold bytesOf
 rw [if_pos h1]
 unfold intsOf
 rw [List.map_map]
 congr 1
 refine List.map_id'' (fun c => ?_) b
 simp
theorem ints_app (b : List UInt8) (c : UInt8) : intsOf b ++ [((c.toNat : Nat) : Int)] = intsOf (b ++ [c]) := by
 unfold intsOf; rw [List.map_append]; rfl
theorem ints_len (b : List UInt8) : (intsOf b).length = b.length := by unfold intsOf; exact List.length_map ..
def TextQ (s : List UInt8) (i0 : Nat) (v : ((List UInt8) × Int × Unit) × (((List UInt8) × Int × Unit) × Unit)) : Int ⊕ (List UInt8 × List UInt8) → Prop
 | .inl e => e ≠ 0 ∧ ∃ j : Int, v = (([], e, ()), ((s, j, ()), ()))
 | .inr (b, q) => ∃ j : Nat, v = ((b, 0, ()), ((s, (j : Int), ()), ())) ∧ i0 < j ∧ j ≤ s.length ∧ s.drop j = q
theorem text_val {s : List UInt8} {i0 : Nat} (hs : s.length ≤ 1000000000) (h0 : i0 < s.length) : ∃ v, G_text (s, (i0 : Int), ()) = some v ∧ TextQ s i0 v (textS (s.drop (i0 + 1)) []) := by
 unfold G_text
 simp only [ywrap (show i0 < 4611686018427387904 by omega)]
 refine yloop (fun d => ∃ (i : Nat) (b : List UInt8) (fl : Bool), d = (((), (), ()), ((s, (i : Int), ()), (fl, (), ()), intsOf b, ())) ∧ i0 < i ∧ i ≤ s.length ∧ b.length ≤ i ∧ textS (s.drop i) b = textS (s.drop (i0 + 1)) []) (fun d => s.length - d.2.1.2.1.toNat) _ ?_ ⟨i0 + 1, [], false, rfl, by omega, by omega, by simp, rfl⟩
 rintro d ⟨i, b, fl, rfl, hi0, hi, hbl, hk⟩
 simp only [Int.toNat_natCast]
 rw [← hk]
 by_cases hi' : i < s.length
 ·have e1 : decide ((i : Int) < (s.length : Int)) = true := by apply decide_eq_true; omega
  have x1 : ixOK (i : Int) s.length = true := ixOK_iff.2 (by omega)
  have hd := ydrop hi'
  have q34 : decide (((s[i].toNat : Nat) : Int) = 34) = decide (s[i] = 34) := ybyteD _ 34 (by decide)
  have q92 : decide (((s[i].toNat : Nat) : Int) = 92) = decide (s[i] = 92) := ybyteD _ 92 (by decide)
  have wi := ywrap (show i < 4611686018427387904 by omega)
  have app : ∀ (c : UInt8), decide (((intsOf b).length + ([((c.toNat : Nat) : Int)] : List Int).length) * 1 ≤ 140737488355328) = true := fun c => by
   apply decide_eq_true; rw [ints_len]; simp only [List.length_cons, List.length_nil]; omega
  simp only [e1, x1, ybyte hi', q34, q92, cond_true, wi]
  rw [hd, text_cons]
  by_cases c34 : s[i] = 34
  ·have d34 : decide (s[i] = 34) = true := decide_eq_true c34
   simp only [d34, cond_true, if_pos c34, G_bldLen, Option.bind_some, bytes_ints, Option.map_some, ints_len]
   by_cases hb : b.length > 2000
   ·have db : decide (((b.length : Nat) : Int) > 2000) = true := decide_eq_true (by omega)
    rw [db, cond_true, if_pos hb]
    exact .inr ⟨_, rfl, _, rfl, by decide, _, rfl⟩
   ·have db : decide (((b.length : Nat) : Int) > 2000) = false := decide_eq_false (by omega)
    rw [db, cond_false, if_neg hb]
    exact .inr ⟨_, rfl, _, rfl, i + 1, rfl, by omega, by omega, rfl⟩
  ·have d34 : decide (s[i] = 34) = false := decide_eq_false c34
   rw [if_neg c34]
   simp only [d34, cond_false]
   by_cases c92 : s[i] = 92
   ·have d92 : decide (s[i] = 92) = true := decide_eq_true c92
    simp only [d92, cond_true, if_pos c92]
    by_cases hl : i + 1 = s.length
    ·have dl : decide (((i + 1 : Nat) : Int) = (s.length : Int)) = true := decide_eq_true (by omega)
     have he : s.drop (i + 1) = [] := List.drop_of_length_le (by omega)
     rw [dl, cond_true, he]
     exact .inr ⟨_, rfl, _, rfl, by decide, _, rfl⟩
    ·have hj : i + 1 < s.length := by omega
     have dl : decide (((i + 1 : Nat) : Int) = (s.length : Int)) = false := decide_eq_false (by omega)
     have x2 : ixOK ((i + 1 : Nat) : Int) s.length = true := ixOK_iff.2 (by omega)
     have r34 : decide (((s[i + 1].toNat : Nat) : Int) = 34) = decide (s[i + 1] = 34) := ybyteD _ 34 (by decide)
     have r92 : decide (((s[i + 1].toNat : Nat) : Int) = 92) = decide (s[i + 1] = 92) := ybyteD _ 92 (by decide)
     have r110 : decide (((s[i + 1].toNat : Nat) : Int) = 110) = decide (s[i + 1] = 110) := ybyteD _ 110 (by decide)
     have wi2 := ywrap (show i + 1 < 4611686018427387904 by omega)
     rw [dl, cond_false, x2, cond_true, ybyte hj, r34, r92, r110, ydrop hj]
     by_cases c110 : s[i + 1] = 110
     ·have d110 : decide (s[i + 1] = 110) = true := decide_eq_true c110
      have a10 : decide (((intsOf b).length + ([(10 : Int)] : List Int).length) * 1 ≤ 140737488355328) = true := app 10
      simp only [d110, cond_true, if_pos c110, G_bldByte, Option.bind_some, a10, wi2]
      refine .inl ⟨_, rfl, ⟨i + 1 + 1, b ++ [10], true, by rw [← ints_app]; rfl, by omega, by omega, by simp; omega, ?_⟩, by simp only [Int.toNat_natCast]; omega⟩
      rfl
     ·have d110 : decide (s[i + 1] = 110) = false := decide_eq_false c110
      simp only [d110, cond_false, if_neg c110]
      by_cases c3 : s[i + 1] = 34 ∨ s[i + 1] = 92
      ·have dd : cond (!decide (s[i + 1] = 34)) (!decide (s[i + 1] = 92)) false = false := by
        rcases c3 with h | h <;> simp [h]
       simp only [dd, cond_false, if_pos c3, G_bldByte, Option.bind_some, app, cond_true, wi2]
       refine .inl ⟨_, rfl, ⟨i + 1 + 1, b ++ [s[i + 1]], true, by rw [← ints_app], by omega, by omega, by simp; omega, ?_⟩, by simp only [Int.toNat_natCast]; omega⟩
       rfl
      ·have dd : cond (!decide (s[i + 1] = 34)) (!decide (s[i + 1] = 92)) false = true := by
        simp only [not_or] at c3; simp [c3.1, c3.2]
       simp only [dd, cond_true, if_neg c3]
       exact .inr ⟨_, rfl, _, rfl, by decide, _, rfl⟩
   ·have d92 : decide (s[i] = 92) = false := decide_eq_false c92
    simp only [d92, cond_false, if_neg c92]
    have hlt : (s[i] < 32) = (s[i].toNat < 32) := rfl
    have hgt : (s[i] > 126) = (126 < s[i].toNat) := rfl
    by_cases cr : s[i] < 32 ∨ s[i] > 126
    ·have dd : cond (decide (((s[i].toNat : Nat) : Int) < 32)) true (decide (((s[i].toNat : Nat) : Int) > 126)) = true := by
      rw [hlt, hgt] at cr
      by_cases h : ((s[i].toNat : Nat) : Int) < 32
      ·rw [decide_eq_true h]; rfl
      ·rw [decide_eq_false h]; exact decide_eq_true (by omega)
     simp only [dd, cond_true, if_pos cr]
     exact .inr ⟨_, rfl, _, rfl, by decide, _, rfl⟩
    ·have dd : cond (decide (((s[i].toNat : Nat) : Int) < 32)) true (decide (((s[i].toNat : Nat) : Int) > 126)) = false := by
      rw [hlt, hgt] at cr
      rw [decide_eq_false (show ¬ ((s[i].toNat : Nat) : Int) < 32 by omega)]; exact decide_eq_false (by omega)
     simp only [dd, cond_false, if_neg cr, G_bldByte, Option.bind_some, app, cond_true, wi]
     refine .inl ⟨_, rfl, ⟨i + 1, b ++ [s[i]], true, by rw [← ints_app], by omega, by omega, by simp; omega, ?_⟩, by simp only [Int.toNat_natCast]; omega⟩
     rfl
 ·have e1 : decide ((i : Int) < (s.length : Int)) = false := by apply decide_eq_false; omega
  have hd : s.drop i = [] := List.drop_of_length_le (by omega)
  rw [hd, text_nil]
  exact .inr ⟨_, by simp only [e1, cond_false]; rfl, _, rfl, by decide, _, rfl⟩
end Go.Ab

set_option maxRecDepth 100000
namespace Go.Ab
open Go Go.RowKit Go.Proofs Go.Shelf
def atoiRen : Go.Shelf.Ren := ⟨fun | 172 => 168 | 244 => 194 | 245 => 195 | 247 => 219 | 279 => 220 | 280 => 221 | 281 => 222 | 282 => 223 | 287 => 238 | 316 => 239 | 171 => 119 | 205 => 240 | 321 => 256 | 322 => 257 | 243 => 151 | 246 => 170 | 283 => 196 | 284 => 197 | 285 => 198 | 286 => 199 | 129 => 184 | 317 => 224 | 318 => 225 | 319 => 226 | 320 => 227 | 337 => 241 | 338 => 242 | n => n, fun | 9 => 9 | 3 => 3 | 75 => 113 | 76 => 114 | 4 => 4 | 5 => 5 | 167 => 251 | 37 => 104 | 0 => 0 | 85 => 252 | 2 => 2 | 168 => 254 | 53 => 194 | 175 => 278 | 46 => 167 | 210 => 281 | 127 => 154 | 145 => 298 | 143 => 296 | 21 => 21 | 171 => 222 | 173 => 224 | 212 => 258 | 51 => 174 | 20 => 20 | 213 => 259 | 232 => 299 | 233 => 300 | 80 => 108 | n => n, fun | 15 => 2 | 16 => 3 | 17 => 0 | 18 => 6 | 19 => 7 | n => n⟩
theorem atoiLays : LaysC.n172 Tryz.prog atoiRen := by
 constructor
 all_goals first | kernel_rfl | skip
 all_goals constructor
 all_goals first | kernel_rfl | skip
 all_goals first | constructor | (intro w; kernel_rfl)
 all_goals first | kernel_rfl | (intro w; kernel_rfl)
theorem pcall_of_calls {C : Cx} {g : FuncId} {args : List AV} {Q : AOut → Prop} (hb : bodyOK C.P g = true)
  (h : ∀ (kn : Kn) (w : World) (vs : List Value), KnOK C kn w → RelL kn m0 args vs → Calls C.P g vs.toArray w fun e w' => (∃ out, Q out ∧ RelOut kn m0 out e) ∧ Below w.heap.size w w') : PCall C g args Q := by
 intro kn w vs hk hr
 refine .inl ⟨hb, (h kn w vs hk hr).mono ?_⟩
 rintro e w' ⟨⟨out, hQ, ho⟩, hbl⟩
 refine ⟨out, kn, hQ, ho, ⟨fun b o v hv => ?_, hk.glob⟩, hbl, fun b _ => rfl⟩
 have h1 := hk.ok b o v hv
 have h2 : b < w.heap.size := World.block_lt_of_cell? w ⟨b, o, none⟩ h1
 rw [hbl.cell (p := ⟨b, o, none⟩) h2]; exact h1
noncomputable def atoiF (s : List UInt8) : Option (Int × Bool × Unit) := if s.length ≤ 281474976710656 then (match Lib.atoiAll s with
 | .ok v => some (v, true, ())
 | .range => some (Lib.atoiSat s, false, ())
 | _ => none) else none
noncomputable def S_atoiAll : Sig := .n [.d .str] (.tup [.d (.int .i64), .d .erri]) (fun x => atoiF x.1)
theorem err_is : ∃ g, errG = some g ∧ atoiRen.g 16 = g := ⟨atoiRen.g 16, by unfold errG; kernel_rfl, rfl⟩
theorem S_atoiAll_ok' (he : ∃ g, errG = some g ∧ atoiRen.g 16 = g) : SigOK CX 168 S_atoiAll := fun x r h => by
 have h : atoiF x.1 = some r := h
 unfold atoiF at h
 split at h
 ·rename_i hl
  refine pcall_of_calls (C := CX) (by kernel_rfl) fun kn w vs hk hr => ?_
  obtain ⟨v, vs1, rfl, hv, hvs⟩ := RelL.uncons hr
  have : vs1 = [] := List.eq_nil_of_length_eq_zero hvs.1.symm
  subst this
  have hv : Rel kn m0 (.str x.1) v := hv
  cases hv
  generalize hx : Lib.atoiAll x.1 = z at h
  cases z with
  | ok n =>
   cases h
   refine (Any.strconv_Atoi_ok atoiLays ⟨x.1.toArray⟩ (Nat.le_trans (show List.length x.1 ≤ 281474976710656 from hl) (by decide)) n hx w).mono ?_
   rintro e w' ⟨rfl, hw⟩
   refine ⟨⟨_, rfl, ?_⟩, ?_⟩
   ·exact .tup _ _ rfl (fun j a b h1 h2 => by
     match j with
     | 0 => cases h1; cases h2; exact .int _ _
     | 1 => cases h1; cases h2; exact .erriNil
     | j + 2 => cases h1)
   ·rcases hw with rfl | ⟨t, rfl⟩
    ·exact Below.refl _ _
    ·exact Lib.bytesWorld_below _ _ _
  | range =>
   cases h
   obtain ⟨g, hg, hgr⟩ := he
   have hgl := hk.glob g
   have hgl : Rel kn m0 (if errG = some g then .rptr [.erri false] else .any) (.pointer (some ⟨g, 0, none⟩)) := hgl
   rw [if_pos hg] at hgl
   cases hgl with
   | rptr _ _ _ vals hkk hrr h1 =>
    have q1 := hkk 0 _ rfl
    have q2 := hrr 0 _ rfl
    generalize vals 0 = ev at q1 q2
    cases q2 with
    | erriSome te pe =>
     refine (Any.strconv_Atoi_range atoiLays ⟨x.1.toArray⟩ (show List.length x.1 ≤ 281474976710656 from hl) hx (.iface te pe) w (by rw [hgr]; exact hk.ok _ _ _ q1) (.inr ⟨te, pe, rfl⟩)).mono ?_
     rintro e w' ⟨N, rfl, _, _, hbl⟩
     refine ⟨⟨_, rfl, ?_⟩, hbl⟩
     exact .tup _ _ rfl (fun j a b h1 h2 => by
      match j with
      | 0 => cases h1; cases h2; exact .int _ _
      | 1 => cases h1; cases h2; exact .erriSome _ _
      | j + 2 => cases h1)
  | _ => cases h
 ·cases h
theorem S_atoiAll_ok : SigOK CX 168 S_atoiAll := S_atoiAll_ok' err_is
end Go.Ab

set_option maxRecDepth 100000
namespace Go.Ab
open Go Go.RowKit Go.Proofs
noncomputable def G_numberA (x0 : List UInt8) : Option (Int × Int × Unit) := (
 cond ((ixOK 0 (trimPrefixF (x0) ([45])).length) || !(decide (((trimPrefixF (x0) ([45])).length : Int) > 1))) (cond (cond (cond (decide (((trimPrefixF (x0) ([45])).length : Int) > 1)) (decide (byteAt (trimPrefixF (x0) ([45])) 0 = 48)) false) true (decide (x0 = [45, 48]))) (some (0, 4, ())) (Option.bind (α := Int × Bool × Unit) (atoiF (x0)) fun r1 => (
 cond (cond (cond (!r1.2.1) true (decide (r1.1 < (-1152921504606846976)))) true (decide (r1.1 > 1152921504606846976))) (some (0, 5, ())) (some (r1.1, 0, ()))))) none)
def A_numberA : An := .leaf
def H_numberA : Nat → RH := fun _ => {}
noncomputable def S_numberA : Sig := .n [(.d .str)] (.tup [(.d (.int .i64)), (.d (.int .i64))]) (fun x => G_numberA x.1)
theorem S_numberA_ok : SigOK CX 141 S_numberA := sigN_of (l := [(166, S_trimPrefix), (168, S_atoiAll)]) ⟨S_trimPrefix_ok, S_atoiAll_ok, trivial⟩ (hint := H_numberA) (an := A_numberA) (fun x => by kernel_rfl)
noncomputable def G_nextA (o0 : (List UInt8) × Int × Unit) : Option (((Int × Fm) × Bool × Int × Unit) × (((List UInt8) × Int × Unit) × Unit)) := (
 Option.bind (α := (Unit) × (((List UInt8) × Int × Unit) × Unit)) (G_skip (o0.1, o0.2.1, ())) fun r1 => (
 cond (decide (r1.2.1.2.1 = (r1.2.1.1.length : Int))) (some (((0, (Fm.mk 0 0 ([]) ([] : List Fm))), false, 0, ()), ((r1.2.1.1, r1.2.1.2.1, ()), ()))) (cond (ixOK r1.2.1.2.1 r1.2.1.1.length) (cond (cond (decide (byteAt r1.2.1.1 r1.2.1.2.1 = 40)) true (decide (byteAt r1.2.1.1 r1.2.1.2.1 = 41))) (some (((byteAt r1.2.1.1 r1.2.1.2.1, (Fm.mk 0 0 ([]) ([] : List Fm))), true, 0, ()), ((r1.2.1.1, IntKind.wrap .i64 (r1.2.1.2.1 + 1), ()), ()))) (cond (decide (byteAt r1.2.1.1 r1.2.1.2.1 = 34)) (Option.bind (α := ((List UInt8) × Int × Unit) × (((List UInt8) × Int × Unit) × Unit)) (G_text (r1.2.1.1, r1.2.1.2.1, ())) fun r2 => (
 some (((0, (Fm.mk 2 0 r2.1.1 ([] : List Fm))), true, r2.1.2.1, ()), ((r2.2.1.1, r2.2.1.2.1, ()), ())))) (Option.bind (α := Bool) (outsideF (byteAt r1.2.1.1 r1.2.1.2.1)) fun r3 => (
 cond r3 (some (((0, (Fm.mk 0 0 ([]) ([] : List Fm))), true, 4, ()), ((r1.2.1.1, r1.2.1.2.1, ()), ()))) (Option.bind (α := (Unit × Unit × Int × Unit) × (((List UInt8) × Int × Unit) × (Int × Int × Int × (List UInt8) × Unit × Unit) × Unit))
 (loopM (L := (Unit × Unit × Int × Unit) × (((List UInt8) × Int × Unit) × (Int × Int × Int × (List UInt8) × Unit × Unit) × Unit)) (R := (Unit × Unit × Int × Unit) × (((List UInt8) × Int × Unit) × (Int × Int × Int × (List UInt8) × Unit × Unit) × Unit)) (fun d4 => (
 let c5 := d4.2.1.1
 let c6 := d4.2.1.2.1
 let v8_7 := d4.1.2.2.1
 cond ((ixOK c6 c5.length) || !(decide (c6 < (c5.length : Int)))) (Option.bind (α := Bool) (cond (decide (c6 < (c5.length : Int))) (outsideF (byteAt c5 c6)) (some false)) fun r8 => (
 cond (cond (decide (c6 < (c5.length : Int))) (!r8) false) (some (Step.next (((), (), v8_7, ()), ((c5, IntKind.wrap .i64 (c6 + 1), ()), (d4.2.2.1.1, d4.2.2.1.2.1, d4.2.2.1.2.2.1, d4.2.2.1.2.2.2.1, (), ()), ())))) (some (Step.done (((), (), v8_7, ()), ((c5, c6, ()), (d4.2.2.1.1, d4.2.2.1.2.1, d4.2.2.1.2.2.1, d4.2.2.1.2.2.2.1, (), ()), ())))))) none)) (((), (), r1.2.1.2.1, ()), ((r1.2.1.1, r1.2.1.2.1, ()), (0, 0, 0, [], (), ()), ()))) fun d9 => (
 let c10 := d9.2.1.1
 let c11 := d9.2.1.2.1
 let v8_12 := d9.1.2.2.1
 cond (slOK v8_12 c11 c10.length) (Option.bind (α := Bool) (numericF ((c10.drop v8_12.toNat).take (c11.toNat - v8_12.toNat))) fun r13 => (
 cond r13 (Option.bind (α := Int × Int × Unit) (G_numberA ((c10.drop v8_12.toNat).take (c11.toNat - v8_12.toNat))) fun r14 => (
 some (((0, (Fm.mk 0 r14.1 ([]) ([] : List Fm))), true, r14.2.1, ()), ((c10, c11, ()), ())))) (cond (decide ((((c10.drop v8_12.toNat).take (c11.toNat - v8_12.toNat)).length : Int) > 30)) (some (((d9.2.2.1.1, (Fm.mk d9.2.2.1.2.1 d9.2.2.1.2.2.1 d9.2.2.1.2.2.2.1 ([] : List Fm))), true, 4, ()), ((c10, c11, ()), ()))) (some (((0, (Fm.mk 1 0 ((c10.drop v8_12.toNat).take (c11.toNat - v8_12.toNat)) ([] : List Fm))), true, 0, ()), ((c10, c11, ()), ())))))) none)))))) none)))
def A_nextA : An := .seq (.leaf) (.seq (.leaf) (.seq (.leaf) (.seq (.leaf) (.seq (.leaf) (.join false { env := [(0, (.ref 0 0)), (2, (.ref 1 0)), (8, (.d (.int .i64)))], objs := [(true, .cells 132 [(.d .str), (.d (.int .i64))]), (false, .cells 134 [(.d (.int .u8)), (.d (.int .i64)), (.d (.int .i64)), (.d .str), (.c (.base (.slice none 0 0)))])] } (.block (.loop { env := [(0, (.ref 0 0)), (2, (.ref 1 0)), (8, (.d (.int .i64)))], objs := [(true, .cells 132 [(.d .str), (.d (.int .i64))]), (false, .cells 134 [(.d (.int .u8)), (.d (.int .i64)), (.d (.int .i64)), (.d .str), (.c (.base (.slice none 0 0)))])] } (.leaf))) (.leaf))))))
def H_nextA : Nat → RH := fun r => match r with
 | 1 => { H := { ac := [13] } }
 | 9 => { H := { ac := [55] } }
 | _ => {}
noncomputable def S_nextA : Sig := .o { pre := [(false, .cells 132 [(.d .str), (.d (.int .i64))])], args := [(.ref 0 0)], post := [(true, .cells 132 [(.d .str), (.d (.int .i64))])], res := (.tup [(.d (.pr (.int .u8) .form)), (.d .bool), (.d (.int .i64))]), f := fun x => G_nextA x.2.1 }
theorem S_nextA_ok : SigOK CX 104 S_nextA := sigO_of (l := [(137, S_skip), (138, S_text), (139, S_outside), (140, S_numeric), (141, S_numberA)]) ⟨S_skip_ok, S_text_ok, S_outside_ok, S_numeric_ok, S_numberA_ok, trivial⟩ (hint := H_nextA) (an := A_nextA) (by kernel_rfl) (fun x => by kernel_rfl)
end Go.Ab

set_option maxRecDepth 100000
namespace Go.Ab
open Go Go.RowKit Go.Proofs
noncomputable def G_rvisible (x0 : Int) : Option (Bool) := (
 some (cond (cond (cond (cond (cond (decide (x0 ≥ 33)) (decide (x0 ≤ 126)) false) (!decide (x0 = 40)) false) (!decide (x0 = 41)) false) (!decide (x0 = 34)) false) (!decide (x0 = 59)) false))
def A_rvisible : An := .leaf
def H_rvisible : Nat → RH := fun _ => {}
noncomputable def S_rvisible : Sig := .n [(.d (.int .u8))] (.d .bool) (fun x => G_rvisible x.1)
theorem S_rvisible_ok : SigOK CX 109 S_rvisible := sigN_of (l := []) trivial (hint := H_rvisible) (an := A_rvisible) (fun x => by kernel_rfl)
noncomputable def G_rDigits (x0 : List UInt8) : Option (Bool) := (
 Option.bind (α := ((List UInt8) × Unit) × (Unit))
 (cond ((ixOK 0 x0.length) || !(decide ((x0.length : Int) > 1))) (cond (cond (decide ((x0.length : Int) > 1)) (decide (byteAt x0 0 = 45)) false) (cond (slOK 1 (x0.length : Int) x0.length) (some (((x0.drop (1 : Int).toNat).take ((x0.length : Int).toNat - (1 : Int).toNat), ()), ())) none) (some ((x0, ()), ()))) none) fun d1 => (
 let v0_2 := d1.1.1
 Option.bind (α := Step (((List UInt8) × Unit) × (Unit)) (Bool))
 (loopM (L := ((List UInt8) × Int × Unit) × (Unit)) (R := Step (((List UInt8) × Unit) × (Unit)) (Bool)) (fun d3 => (
 let v0_4 := d3.1.1
 let v3_5 := d3.1.2.1
 cond (decide (v3_5 < (v0_4.length : Int))) (cond (ixOK v3_5 v0_4.length) (cond ((ixOK v3_5 v0_4.length) || !(!(decide (byteAt v0_4 v3_5 < 48)))) (cond (cond (decide (byteAt v0_4 v3_5 < 48)) true (decide (byteAt v0_4 v3_5 > 57))) (some (Step.done (Step.done false))) (some (Step.next ((v0_4, IntKind.wrap .i64 (v3_5 + 1), ()), ())))) none) none) (some (Step.done (Step.next ((v0_4, ()), ())))))) ((v0_2, 0, ()), ())) fun qd6 => match qd6 with
 | .next d6 => (
 let v0_7 := d6.1.1
 some (!decide (v0_7 = [])))
 | .done r => some r))
def A_rDigits : An := .seq (.leaf) (.join false { env := [(0, (.d .str))], objs := [] } (.leaf) (.join true { env := [(0, (.d .str))], objs := [] } (.seq (.leaf) (.block (.loop { env := [(0, (.d .str)), (3, (.d (.int .i64)))], objs := [] } (.leaf)))) (.leaf)))
def H_rDigits : Nat → RH := fun _ => {}
noncomputable def S_rDigits : Sig := .n [(.d .str)] (.d .bool) (fun x => G_rDigits x.1)
theorem S_rDigits_ok : SigOK CX 142 S_rDigits := sigN_of (l := []) trivial (hint := H_rDigits) (an := A_rDigits) (fun x => by kernel_rfl)
noncomputable def G_rnumber (x0 : List UInt8) : Option (Int × Bool × Bool × Unit) := (
 Option.bind (α := ((List UInt8) × Bool × Unit) × (Unit))
 (cond (ixOK 0 x0.length) (cond (decide (byteAt x0 0 = 45)) (cond (slOK 1 (x0.length : Int) x0.length) (some (((x0.drop (1 : Int).toNat).take ((x0.length : Int).toNat - (1 : Int).toNat), true, ()), ())) none) (some ((x0, false, ()), ()))) none) fun d1 => (
 let v5_2 := d1.1.1
 let v6_3 := d1.1.2.1
 cond (ixOK 0 v5_2.length) (cond (cond (decide (byteAt v5_2 0 = 48)) (cond (decide ((v5_2.length : Int) > 1)) true v6_3) false) (some (0, false, true, ())) (Option.bind (α := Step ((Bool × Int × Unit) × (Unit)) (Int × Bool × Bool × Unit))
 (loopM (L := ((List UInt8) × Bool × Int × Int × Unit) × (Unit)) (R := Step ((Bool × Int × Unit) × (Unit)) (Int × Bool × Bool × Unit)) (fun d4 => (
 let v5_5 := d4.1.1
 let v6_6 := d4.1.2.1
 let v7_7 := d4.1.2.2.1
 let v8_8 := d4.1.2.2.2.1
 cond (decide (v8_8 < (v5_5.length : Int))) (cond (decide (v7_7 > 115292150460684697)) (some (Step.done (Step.done (0, true, false, ())))) (cond (ixOK v8_8 v5_5.length) (some (Step.next ((v5_5, v6_6, IntKind.wrap .i64 (IntKind.wrap .i64 (10 * v7_7) + IntKind.wrap .i64 (IntKind.wrap .u8 (byteAt v5_5 v8_8 - 48))), IntKind.wrap .i64 (v8_8 + 1), ()), ()))) none)) (some (Step.done (Step.next ((v6_6, v7_7, ()), ())))))) ((v5_2, v6_3, 0, 0, ()), ())) fun qd9 => match qd9 with
 | .next d9 => (
 let v6_10 := d9.1.1
 let v7_11 := d9.1.2.1
 cond (decide (v7_11 > 1152921504606846976)) (some (0, true, false, ())) (Option.bind (α := (Int × Unit) × (Unit))
 (cond v6_10 (some ((IntKind.wrap .i64 (0 - v7_11), ()), ())) (some ((v7_11, ()), ()))) fun d12 => (
 let v7_13 := d12.1.1
 some (v7_13, true, true, ()))))
 | .done r => some r)) none))
def A_rnumber : An := .seq (.leaf) (.seq (.leaf) (.join false { env := [(5, (.d .str)), (6, (.d .bool))], objs := [] } (.leaf) (.seq (.leaf) (.seq (.leaf) (.join true { env := [(6, (.d .bool)), (7, (.d (.int .i64)))], objs := [] } (.seq (.leaf) (.block (.loop { env := [(5, (.d .str)), (6, (.d .bool)), (7, (.d (.int .i64))), (8, (.d (.int .i64)))], objs := [] } (.leaf)))) (.seq (.leaf) (.join false { env := [(7, (.d (.int .i64)))], objs := [] } (.leaf) (.leaf))))))))
def H_rnumber : Nat → RH := fun _ => {}
noncomputable def S_rnumber : Sig := .n [(.d .str)] (.tup [(.d (.int .i64)), (.d .bool), (.d .bool)]) (fun x => G_rnumber x.1)
theorem S_rnumber_ok : SigOK CX 144 S_rnumber := sigN_of (l := []) trivial (hint := H_rnumber) (an := A_rnumber) (fun x => by kernel_rfl)
noncomputable def G_rword (x0 : List UInt8) : Option (Fm) := (
 some (Fm.mk 1 0 x0 ([] : List Fm)))
def A_rword : An := .leaf
def H_rword : Nat → RH := fun _ => {}
noncomputable def S_rword : Sig := .n [(.d .str)] (.d .form) (fun x => G_rword x.1)
theorem S_rword_ok : SigOK CX 143 S_rword := sigN_of (l := []) trivial (hint := H_rword) (an := A_rword) (fun x => by kernel_rfl)
noncomputable def G_rnum (x0 : Int) : Option (Fm) := (
 some (Fm.mk 0 x0 ([]) ([] : List Fm)))
def A_rnum : An := .leaf
def H_rnum : Nat → RH := fun _ => {}
noncomputable def S_rnum : Sig := .n [(.d (.int .i64))] (.d .form) (fun x => G_rnum x.1)
theorem S_rnum_ok : SigOK CX 48 S_rnum := sigN_of (l := []) trivial (hint := H_rnum) (an := A_rnum) (fun x => by kernel_rfl)
end Go.Ab

set_option maxRecDepth 100000
namespace Go.Ab
open Go Go.RowKit Go.Proofs
def badR (c : Int) : Bool := !decide (c = 10) && (decide (c < 32) || decide (126 < c))
theorem badR_call (c : Int) : PCall CX 154 [.int .i32 c] (· = .ret (.bool (badR c))) := by
 refine pcall_mk 0 13 [.tmp 2] Tryz.func154 rfl (by decide) rfl rfl rfl ?_
 refine aw_sreg {} rfl rfl fun K KP hK hP => ?_
 simp only [go_sem, ↓reduceIte]
 apply hK; clear hK hP
 by_cases c1_0 : c = 10
 ·
  refine aw_sreg {} rfl rfl fun K KP hK hP => ?_
  simp only [go_sem, ↓reduceIte, c1_0]
  apply hK; clear hK hP
  refine aw_ret ?_
  simp only [go_sem, ↓reduceIte, c1_0, athen_ret] <;> (
   simp [badR])
 ·
  by_cases c1_1 : c < 32
  ·
   refine aw_sreg {} rfl rfl fun K KP hK hP => ?_
   simp only [go_sem, ↓reduceIte, c1_0, c1_1]
   apply hK; clear hK hP
   refine aw_ret ?_
   simp only [go_sem, ↓reduceIte, c1_0, c1_1, athen_ret] <;> (
    simp [badR, c1_0, c1_1])
  ·
   refine aw_sreg {} rfl rfl fun K KP hK hP => ?_
   simp only [go_sem, ↓reduceIte, c1_0, c1_1]
   apply hK; clear hK hP
   refine aw_ret ?_
   simp only [go_sem, ↓reduceIte, c1_0, c1_1, athen_ret] <;> (
    simp [badR, c1_0, c1_1])
def idxR (p : Int → Bool) (s : List UInt8) : Nat → Nat → Int
 | 0, _ => -1
 | f + 1, pos => if pos < s.length then (if p (Utf8.decode ⟨s.toArray⟩ pos).1 = true then pos else idxR p s f (pos + (Utf8.decode ⟨s.toArray⟩ pos).2)) else -1
theorem decode_wide (b : ByteArray) (i : Nat) : 1 ≤ (Utf8.decode b i).2 := by
 unfold Utf8.decode
 simp only
 repeat' split
 all_goals simp
theorem indexFunc_call (p : Int → Bool) (g : FuncId) (hg : ∀ c, PCall CX g [.int .i32 c] (· = .ret (.bool (p c)))) (s : List UInt8) : PCall CX 206 [.str s, .fn (.func g) [] [], .bool true] (· = .ret (.int .i64 (idxR p s (s.length + 1) 0))) := by
 refine pcall_mk 0 21 [.tmp 6] Tryz.func206 rfl (by decide) rfl rfl rfl ?_
 refine aw_sreg {} rfl rfl fun K KP hK hP => ?_
 simp only [go_sem, ↓reduceIte]
 apply hK; clear hK hP
 refine aw_seq ?_
 refine aw_sreg {} rfl rfl fun K KP hK hP => ?_
 simp only [go_sem, ↓reduceIte]
 apply hK; clear hK hP
 refine aw_block ?_
 refine aw_loop' (fun dd st => ∃ (pos f : Nat), (s.length < pos + f) ∧ (idxR p s f pos = idxR p s (s.length + 1) 0) ∧ f = dd ∧ [(0, .siter s pos)] = st.σ ∧ st.env 0 = .str s ∧ st.env 1 = .fn (.func g) [] [] ∧ st.env 2 = .bool true ∧ st.env 10 = .ref 0 0 0) (fun dd st hJ => ?_) ?_
 ·
  obtain ⟨env0, σ0, nx0⟩ := st
  obtain ⟨pos, f, hp0_0, hp0_1, hd0, hs0, e0_0, e0_1, e0_2, e0_10⟩ := hJ
  dsimp only at hs0  e0_0 e0_1 e0_2 e0_10
  subst hd0; subst hs0
  refine aw_forget' 1 rfl ?_
  by_cases c2 : pos < s.length
  ·
   refine aw_sreg {} rfl rfl fun K KP hK hP => ?_
   simp only [go_sem, ↓reduceIte, e0_0, e0_1, e0_2, e0_10, c2]
   apply hK; clear hK hP
   refine aw_seq ?_
   refine aw_if (True) (by simp only [go_sem, ↓reduceIte, e0_0, e0_1, e0_2, e0_10, c2]) (fun h2 => ?_) (fun h2 => ?_)
   ·
    refine aw_skip ?_
    refine athen_normal.2 ?_
    refine aw_block ?_
    refine aw_sreg {} rfl rfl fun K KP hK hP => ?_
    simp only [go_sem, ↓reduceIte, e0_0, e0_1, e0_2, e0_10, c2]
    apply hK; clear hK hP
    refine aw_sreg {} rfl rfl fun K KP hK hP => ?_
    simp only [go_sem, ↓reduceIte, e0_0, e0_1, e0_2, e0_10, c2]
    refine CallP.ret (hg _) (by simp only [go_sem]) ?_
    try simp only [go_sem, ↓reduceIte, e0_0, e0_1, e0_2, e0_10, c2]
    apply hK; clear hK hP
    refine aw_if (p (Utf8.decode ⟨s.toArray⟩ pos).1 = true) (by simp only [go_sem, ↓reduceIte, e0_0, e0_1, e0_2, e0_10, c2]) (fun h4 => ?_) (fun h4 => ?_)
    ·
     refine aw_sreg {} rfl rfl fun K KP hK hP => ?_
     simp only [go_sem, ↓reduceIte, e0_0, e0_1, e0_2, e0_10, c2]
     apply hK; clear hK hP
     refine aw_ret ?_
     refine ablock_ret.2 ?_
     refine afor_one ?_
     refine athen_ret.2 ?_
     refine ablock_ret.2 ?_
     refine athen_ret.2 ?_
     simp only [go_sem, ↓reduceIte, e0_0, e0_1, e0_2, e0_10, c2, athen_ret] <;> (
      rw [← hp0_1]
      cases f with
      | zero => omega
      | succ f => simp only [idxR, c2, if_true, h4])
    ·
     refine aw_skip ?_
     refine ablock_normal.2 ?_
     refine afor_one ?_
     refine athen_normal.2 ?_
     refine ⟨_, ?_, (pos + (Utf8.decode ⟨s.toArray⟩ pos).2), (f - 1), ?_, ?_, rfl, rfl, ?_, ?_, ?_, ?_⟩
     ·have := decode_wide ⟨s.toArray⟩ pos
      omega
     ·have := decode_wide ⟨s.toArray⟩ pos
      omega
     ·rw [← hp0_1]
      cases f with
      | zero => omega
      | succ f => simp only [idxR, c2, if_true, h4, Nat.add_sub_cancel, if_false]; rfl
     ·simp only [go_sem, ↓reduceIte, e0_0, e0_1, e0_2, e0_10, c2] <;> try rfl
     ·simp only [go_sem, ↓reduceIte, e0_0, e0_1, e0_2, e0_10, c2] <;> try rfl
     ·simp only [go_sem, ↓reduceIte, e0_0, e0_1, e0_2, e0_10, c2] <;> try rfl
     ·simp only [go_sem, ↓reduceIte, e0_0, e0_1, e0_2, e0_10, c2] <;> try rfl
   ·
    exact absurd trivial h2
  ·
   refine aw_sreg {} rfl rfl fun K KP hK hP => ?_
   simp only [go_sem, ↓reduceIte, e0_0, e0_1, e0_2, e0_10, c2]
   apply hK; clear hK hP
   refine aw_seq ?_
   refine aw_if (False) (by simp only [go_sem, ↓reduceIte, e0_0, e0_1, e0_2, e0_10, c2]) (fun h2 => ?_) (fun h2 => ?_)
   ·
    exact h2.elim
   ·
    refine aw_exit ?_
    refine athen_exit.2 ?_
    refine afor_one ?_
    refine athen_exit.2 ?_
    refine ablock_here ?_
    refine athen_normal.2 ?_
    refine aw_sreg {} rfl rfl fun K KP hK hP => ?_
    simp only [go_sem, ↓reduceIte, e0_0, e0_1, e0_2, e0_10, c2]
    apply hK; clear hK hP
    refine aw_ret ?_
    simp only [go_sem, ↓reduceIte, e0_0, e0_1, e0_2, e0_10, c2, athen_ret] <;> (
     rw [← hp0_1]
     cases f with
     | zero => rfl
     | succ f => simp only [idxR, c2, if_false])
 ·
  refine ⟨_, 0, s.length + 1, ?_, ?_, rfl, ?_, ?_, ?_, ?_, ?_⟩
  ·first | omega | trivial | assumption
  ·first | omega | trivial | assumption
  ·first | rfl | (simp only [go_sem, ↓reduceIte])
  ·simp only [go_sem, ↓reduceIte] <;> try rfl
  ·simp only [go_sem, ↓reduceIte] <;> try rfl
  ·simp only [go_sem, ↓reduceIte] <;> try rfl
  ·simp only [go_sem, ↓reduceIte] <;> try rfl
theorem indexFunc2_call (p : Int → Bool) (g : FuncId) (hg : ∀ c, PCall CX g [.int .i32 c] (· = .ret (.bool (p c)))) (s : List UInt8) : PCall CX 174 [.str s, .fn (.func g) [] []] (· = .ret (.int .i64 (idxR p s (s.length + 1) 0))) := by
 refine pcall_mk 0 8 [.tmp 4] Tryz.func174 rfl (by decide) rfl rfl rfl ?_
 refine aw_sreg {} rfl rfl fun K KP hK hP => ?_
 simp only [go_sem, ↓reduceIte]
 apply hK; clear hK hP
 refine aw_sreg {} rfl rfl fun K KP hK hP => ?_
 simp only [go_sem, ↓reduceIte]
 refine CallP.ret (indexFunc_call p g hg s) (by simp only [go_sem]) ?_
 try simp only [go_sem, ↓reduceIte]
 apply hK; clear hK hP
 refine aw_ret ?_
 simp only [go_sem, ↓reduceIte, athen_ret]
theorem containsFunc_call (p : Int → Bool) (g : FuncId) (hg : ∀ c, PCall CX g [.int .i32 c] (· = .ret (.bool (p c)))) (s : List UInt8) : PCall CX 155 [.str s, .fn (.func g) [] []] (· = .ret (.bool (decide (0 ≤ idxR p s (s.length + 1) 0)))) := by
 refine pcall_mk 0 9 [.tmp 4] Tryz.func155 rfl (by decide) rfl rfl rfl ?_
 refine aw_sreg {} rfl rfl fun K KP hK hP => ?_
 simp only [go_sem, ↓reduceIte]
 apply hK; clear hK hP
 refine aw_sreg {} rfl rfl fun K KP hK hP => ?_
 simp only [go_sem, ↓reduceIte]
 refine CallP.ret (indexFunc2_call p g hg s) (by simp only [go_sem]) ?_
 try simp only [go_sem, ↓reduceIte]
 apply hK; clear hK hP
 refine aw_ret ?_
 simp only [go_sem, ↓reduceIte, athen_ret]
def badT (t : List UInt8) : Bool := decide (0 ≤ idxR badR t (t.length + 1) 0)
noncomputable def S_containsBad : Sig := .n [.d .str, .c (.fn (.func 154) [] [])] (.d .bool) (fun x => some (badT x.1))
theorem S_containsBad_ok : SigOK CX 155 S_containsBad := fun x r h => by cases h; exact containsFunc_call badR _ badR_call x.1
end Go.Ab

set_option maxRecDepth 100000
namespace Go.Ab
open Go Go.RowKit Go.Proofs
def within (n : Int) : Bool := decide (-1152921504606846976 ≤ n) && decide (n ≤ 1152921504606846976)
end Go.Ab
