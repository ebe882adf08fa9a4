/-
  THE REFERENCE'S VALID FORMS, sizes and depths, in plain terms: the same as the reader's.
-/
import Derived.Test.YtdagildojaagiaaGreatDoorZ15
import Derived.Test.YtdagildojaagiaaGreatDoorZ14
import Derived.Test.YtdagildojaagiaaGreatDoorZ12
import Derived.Test.YtdagildojaagiaaGreatDoorZ13
import Derived.Laws.RangeAny
import Derived.Laws.RangeString
set_option linter.unusedVariables false
set_option linter.unusedSimpArgs false
set_option maxRecDepth 100000
namespace Go.Ab
open Go Go.RowKit Go.Proofs
noncomputable def G_bldStr (x1 : List UInt8) (o0 : Bool × Unit × Unit) (o1 : List Int) : Option ((Int × Bool × Unit) × ((Bool × Unit × Unit) × (List Int) × Unit)) := (
 Option.bind (α := (Unit) × ((Bool × Unit × Unit) × (List Int) × Unit)) (some ((), ((true, (), ()), o1, ()))) fun r1 => (
 cond (decide ((r1.2.2.1.length + (x1.map fun b => (b.toNat : Int)).length) * 1 ≤ 140737488355328)) (some (((x1.length : Int), true, ()), ((r1.2.1.1, (), ()), r1.2.2.1 ++ (x1.map fun b => (b.toNat : Int)), ()))) none))
def A_bldStr : An := .leaf
def H_bldStr : Nat → RH := fun r => match r with
 | 1 => { H := { ac := [7] } }
 | 2 => { H := { ty := [(14, (.int .u8))] } }
 | _ => {}
noncomputable def S_bldStr : Sig := .o { pre := [(false, .cells 106 [(.mref 0 0), (.gs 1 (.int .u8))]), (false, .tg (.int .u8) 5)], args := [(.ref 0 0), (.d .str)], post := [(true, .cells 106 [(.mref 0 0), (.gs 1 (.int .u8))]), (false, .tg (.int .u8) 5)], res := (.tup [(.d (.int .i64)), (.d .erri)]), f := fun x => G_bldStr x.1.2.1 x.2.1 x.2.2.1 }
theorem S_bldStr_ok : SigOK CX 81 S_bldStr := sigO_of (l := [(126, S_copyCheck)]) ⟨S_copyCheck_ok, trivial⟩ (hint := H_bldStr) (an := A_bldStr) (by kernel_rfl) (fun x => by kernel_rfl)
noncomputable def G_write (k : Nat) (x1 : Fm) (o0 : Bool × Unit × Unit) (o1 : List Int) : Option ((Unit) × ((Bool × Unit × Unit) × (List Int) × Unit)) := match k with
| 0 => none
| k + 1 => (
 cond (decide (x1.k = 0)) (Option.bind (α := List UInt8) (itoaF (x1.n)) fun r1 => (
 Option.bind (α := (Int × Bool × Unit) × ((Bool × Unit × Unit) × (List Int) × Unit)) (G_bldStr r1 (o0.1, (), ()) o1) fun r2 => (
 some ((), ((r2.2.1.1, (), ()), r2.2.2.1, ()))))) (cond (decide (x1.k = 1)) (Option.bind (α := (Int × Bool × Unit) × ((Bool × Unit × Unit) × (List Int) × Unit)) (G_bldStr x1.t (o0.1, (), ()) o1) fun r3 => (
 some ((), ((r3.2.1.1, (), ()), r3.2.2.1, ())))) (cond (decide (x1.k = 2)) (Option.bind (α := (Bool) × ((Bool × Unit × Unit) × (List Int) × Unit)) (G_bldByte 34 (o0.1, (), ()) o1) fun r4 => (
 Option.bind (α := (Unit) × ((Int × Int × Int × Unit × Unit × Unit) × (List (List UInt8)) × Unit)) (G_newRep ([[92], [92, 92], [34], [92, 34], [10], [92, 110]])) fun r5 => (
 Option.bind (α := (List UInt8) × (Unit)) (replF ((r5.2.1.1, r5.2.1.2.1, r5.2.1.2.2.1, (), (), ())) (r5.2.2.1) (x1.t)) fun r6 => (
 Option.bind (α := (Int × Bool × Unit) × ((Bool × Unit × Unit) × (List Int) × Unit)) (G_bldStr r6.1 (r4.2.1.1, (), ()) r4.2.2.1) fun r7 => (
 Option.bind (α := (Bool) × ((Bool × Unit × Unit) × (List Int) × Unit)) (G_bldByte 34 (r7.2.1.1, (), ()) r7.2.2.1) fun r8 => (
 some ((), ((r8.2.1.1, (), ()), r8.2.2.1, ())))))))) (Option.bind (α := (Bool) × ((Bool × Unit × Unit) × (List Int) × Unit)) (G_bldByte 40 (o0.1, (), ()) o1) fun r9 => (
 Option.bind (α := (Unit × Unit) × ((Bool × Unit × Unit) × (List Int) × Unit))
 (loopM (L := (Unit × (List Fm) × Int × Int × Unit) × ((Bool × Unit × Unit) × (List Int) × Unit)) (R := (Unit × Unit) × ((Bool × Unit × Unit) × (List Int) × Unit)) (fun d10 => (
 let l11 := d10.2.2.1
 let v11_12 := d10.1.2.1
 let v12_13 := d10.1.2.2.1
 let v13_14 := d10.1.2.2.2.1
 cond (decide (v13_14 < v12_13)) (cond (ixOK v13_14 v11_12.length) (Option.bind (α := (Unit × Unit × (List Fm) × Int × Int × Unit) × ((Bool × Unit × Unit) × (Int × Int × (List UInt8) × (List Fm) × Unit) × (List Int) × Unit))
 (cond (decide (v13_14 > 0)) (Option.bind (α := (Bool) × ((Bool × Unit × Unit) × (List Int) × Unit)) (G_bldByte 32 (d10.2.1.1, (), ()) l11) fun r15 => (
 some (((), (), v11_12, v12_13, v13_14, ()), ((r15.2.1.1, (), ()), ((v11_12.getD v13_14.toNat (Fm.mk 0 0 [] [])).k, (v11_12.getD v13_14.toNat (Fm.mk 0 0 [] [])).n, (v11_12.getD v13_14.toNat (Fm.mk 0 0 [] [])).t, (v11_12.getD v13_14.toNat (Fm.mk 0 0 [] [])).l, ()), r15.2.2.1, ())))) (some (((), (), v11_12, v12_13, v13_14, ()), ((d10.2.1.1, (), ()), ((v11_12.getD v13_14.toNat (Fm.mk 0 0 [] [])).k, (v11_12.getD v13_14.toNat (Fm.mk 0 0 [] [])).n, (v11_12.getD v13_14.toNat (Fm.mk 0 0 [] [])).t, (v11_12.getD v13_14.toNat (Fm.mk 0 0 [] [])).l, ()), l11, ())))) fun d16 => (
 let c17 := d16.2.2.1.1
 let c18 := d16.2.2.1.2.1
 let c19 := d16.2.2.1.2.2.1
 let c20 := d16.2.2.1.2.2.2.1
 let l21 := d16.2.2.2.1
 let v11_22 := d16.1.2.2.1
 let v12_23 := d16.1.2.2.2.1
 let v13_24 := d16.1.2.2.2.2.1
 Option.bind (α := (Unit) × ((Bool × Unit × Unit) × (List Int) × Unit)) (G_write k (Fm.mk c17 c18 c19 c20) (d16.2.1.1, (), ()) l21) fun r25 => (
 some (Step.next (((), v11_22, v12_23, IntKind.wrap .i64 (v13_24 + 1), ()), ((r25.2.1.1, (), ()), r25.2.2.1, ())))))) none) (some (Step.done (((), ()), ((d10.2.1.1, (), ()), l11, ())))))) (((), x1.l, (x1.l.length : Int), 0, ()), ((r9.2.1.1, (), ()), r9.2.2.1, ()))) fun d26 => (
 let l27 := d26.2.2.1
 Option.bind (α := (Bool) × ((Bool × Unit × Unit) × (List Int) × Unit)) (G_bldByte 41 (d26.2.1.1, (), ()) l27) fun r28 => (
 some ((), ((r28.2.1.1, (), ()), r28.2.2.1, ())))))))))
def A_write : An := .seq (.leaf) (.seq (.leaf) (.block (.seq (.leaf) (.cond (.leaf) (.seq (.leaf) (.cond (.leaf) (.seq (.leaf) (.cond (.leaf) (.seq (.leaf) (.join false { env := [(0, (.ref 0 0))], objs := [(true, .cells 106 [(.mref 0 0), (.gs 1 (.int .u8))]), (false, .tg (.int .u8) 5)] } (.seq (.leaf) (.block (.loop { env := [(0, (.ref 0 0)), (11, (.d (.slice .form))), (12, (.d (.int .i64))), (13, (.d (.int .i64)))], objs := [(true, .cells 106 [(.mref 0 0), (.gs 1 (.int .u8))]), (false, .tg (.int .u8) 5)] } (.seq (.leaf) (.seq (.leaf) (.seq (.block (.seq (.leaf) (.join false { env := [(0, (.ref 0 0)), (5, (.ref 1 0)), (11, (.d (.slice .form))), (12, (.d (.int .i64))), (13, (.d (.int .i64)))], objs := [(true, .cells 106 [(.mref 0 0), (.gs 2 (.int .u8))]), (false, .cells 26 [(.d (.int .i64)), (.d (.int .i64)), (.d .str), (.d (.slice .form))]), (false, .tg (.int .u8) 5)] } (.leaf) (.leaf)))) (.leaf))))))) (.leaf)))))))))))
def H_write : Nat → RH := fun r => match r with
 | 2 => { H := { ac := [9] } }
 | 7 => { H := { ac := [21] } }
 | 8 => { H := { ac := [24] } }
 | 10 => { H := { ac := [27] } }
 | 12 => { H := { ac := [34] } }
 | 14 => { H := { ac := [40] } }
 | 16 => { H := { ac := [44] } }
 | 17 => { H := { ac := [47, 50, 51], pl := [49] } }
 | 18 => { H := { ac := [53] } }
 | _ => {}
noncomputable def S_write (k : Nat) : Sig := .o { pre := [(false, .cells 106 [(.mref 0 0), (.gs 1 (.int .u8))]), (false, .tg (.int .u8) 5)], args := [(.ref 0 0), (.d .form)], post := [(true, .cells 106 [(.mref 0 0), (.gs 1 (.int .u8))]), (false, .tg (.int .u8) 5)], res := (.tup []), f := fun x => G_write k x.1.2.1 x.2.1 x.2.2.1 }
theorem S_write_ok : ∀ k, SigOK CX 75 (S_write k)
| 0 => ⟨by kernel_rfl, fun x r h => by cases h⟩
| k + 1 => by
 have ih := S_write_ok k
 exact sigO_of (l := [(119, S_itoa), (81, S_bldStr), (120, S_bldByte), (121, S_newRep), (122, S_replace), (75, (S_write k))]) ⟨S_itoa_ok, S_bldStr_ok, S_bldByte_ok, S_newRep_ok, S_replace_ok, ih, trivial⟩ (hint := H_write) (an := A_write) (by kernel_rfl) (fun x => by kernel_rfl)
noncomputable def L_write (x1 : Fm) (o0 : Bool × Unit × Unit) (o1 : List Int) : Option ((Unit) × ((Bool × Unit × Unit) × (List Int) × Unit)) := limF fun k => G_write k x1 o0 o1
noncomputable def S_write_l : Sig := .o { pre := [(false, .cells 106 [(.mref 0 0), (.gs 1 (.int .u8))]), (false, .tg (.int .u8) 5)], args := [(.ref 0 0), (.d .form)], post := [(true, .cells 106 [(.mref 0 0), (.gs 1 (.int .u8))]), (false, .tg (.int .u8) 5)], res := (.tup []), f := fun x => L_write x.1.2.1 x.2.1 x.2.2.1 }
theorem S_write_l_ok : SigOK CX 75 S_write_l := SigOK.limO S_write_ok fun x r h => limF_ex h
noncomputable def G_rWrite (x0 : Fm) : Option (List UInt8) := (
 Option.bind (α := Bool) (G_rvalid (Fm.eta x0)) fun r1 => (
 cond (!r1) (some ([])) (Option.bind (α := (Unit) × ((Bool × Unit × Unit) × (List Int) × Unit)) (L_write (Fm.eta x0) (false, (), ()) ([] : List Int)) fun r2 => (
 Option.bind (α := (List UInt8) × (Unit)) (Option.map (fun s => (s, ())) (bytesOf (r2.2.2.1))) fun r3 => (
 some r3.1)))))
def A_rWrite : An := .leaf
def H_rWrite : Nat → RH := fun r => match r with
 | 4 => { H := { ac := [8] } }
 | 5 => { H := { ac := [9] } }
 | _ => {}
noncomputable def S_rWrite : Sig := .n [(.d .form)] (.d .str) (fun x => G_rWrite x.1)
theorem S_rWrite_ok : SigOK CX 32 S_rWrite := sigN_of (l := [(34, S_rvalid), (75, S_write_l), (76, S_string)]) ⟨S_rvalid_ok, S_write_l_ok, S_string_ok, trivial⟩ (hint := H_rWrite) (an := A_rWrite) (fun x => by kernel_rfl)
noncomputable def G_rWriteAll (x0 : List Fm) : Option (List UInt8) := (
 Option.bind (α := (Unit × Unit) × ((Bool × Unit × Unit) × (List Int) × Unit))
 (loopM (L := (Unit × (List Fm) × Int × Int × Unit) × ((Bool × Unit × Unit) × (List Int) × Unit)) (R := (Unit × Unit) × ((Bool × Unit × Unit) × (List Int) × Unit)) (fun d1 => (
 let l2 := d1.2.2.1
 let v6_3 := d1.1.2.1
 let v7_4 := d1.1.2.2.1
 let v8_5 := d1.1.2.2.2.1
 cond (decide (v8_5 < v7_4)) (cond (ixOK v8_5 v6_3.length) (Option.bind (α := List UInt8) (G_rWrite (Fm.eta (v6_3.getD v8_5.toNat (Fm.mk 0 0 [] [])))) fun r6 => (
 cond (decide (r6.length + ([10]).length ≤ 9223372036854775807)) (Option.bind (α := (Int × Bool × Unit) × ((Bool × Unit × Unit) × (List Int) × Unit)) (G_bldStr (r6 ++ ([10])) (d1.2.1.1, (), ()) l2) fun r7 => (
 some (Step.next (((), v6_3, v7_4, IntKind.wrap .i64 (v8_5 + 1), ()), ((r7.2.1.1, (), ()), r7.2.2.1, ()))))) none)) none) (some (Step.done (((), ()), ((d1.2.1.1, (), ()), l2, ())))))) (((), x0, (x0.length : Int), 0, ()), ((false, (), ()), ([] : List Int), ()))) fun d8 => (
 let l9 := d8.2.2.1
 Option.bind (α := (List UInt8) × (Unit)) (Option.map (fun s => (s, ())) (bytesOf (l9))) fun r10 => (
 some r10.1)))
def A_rWriteAll : An := .seq (.leaf) (.seq (.leaf) (.join false { env := [(3, (.ref 0 0))], objs := [(false, .cells 106 [(.mref 0 0), (.gs 1 (.int .u8))]), (false, .tg (.int .u8) 5)] } (.seq (.leaf) (.block (.loop { env := [(3, (.ref 0 0)), (6, (.d (.slice .form))), (7, (.d (.int .i64))), (8, (.d (.int .i64)))], objs := [(false, .cells 106 [(.mref 0 0), (.gs 1 (.int .u8))]), (false, .tg (.int .u8) 5)] } (.leaf)))) (.leaf)))
def H_rWriteAll : Nat → RH := fun r => match r with
 | 5 => { H := { ac := [15] } }
 | 7 => { H := { ac := [17] } }
 | _ => {}
noncomputable def S_rWriteAll : Sig := .n [(.d (.slice .form))] (.d .str) (fun x => G_rWriteAll x.1)
theorem S_rWriteAll_ok : SigOK CX 43 S_rWriteAll := sigN_of (l := [(32, S_rWrite), (81, S_bldStr), (76, S_string)]) ⟨S_rWrite_ok, S_bldStr_ok, S_string_ok, trivial⟩ (hint := H_rWriteAll) (an := A_rWriteAll) (fun x => by kernel_rfl)
noncomputable def G_rtext (k : Nat) (x0 : Fm) : Option (List UInt8) := match k with
| 0 => none
| k + 1 => (
 Option.bind (α := Step (((Int × Int × (List UInt8) × (List Fm) × Unit) × Unit) × (Unit)) (List UInt8))
 (cond (decide (x0.k = 0)) (Option.bind (α := List UInt8) (itoaF (x0.n)) fun r1 => (
 some (Step.done r1))) (cond (decide (x0.k = 1)) (some (Step.done x0.t)) (cond (decide (x0.k = 2)) (Option.bind (α := (Unit × Unit) × ((List Int) × Unit))
 (loopM (L := ((Int × Int × (List UInt8) × (List Fm) × Unit) × Unit × Int × Unit) × ((List Int) × Unit)) (R := (Unit × Unit) × ((List Int) × Unit)) (fun d2 => (
 let l3 := d2.2.1
 let v4_4 := d2.1.2.2.1
 cond (decide (v4_4 < (d2.1.1.2.2.1.length : Int))) (Option.bind (α := ((Int × Int × (List UInt8) × (List Fm) × Unit) × Unit × Int × Unit) × ((List Int) × Unit))
 (cond (ixOK v4_4 d2.1.1.2.2.1.length) (cond (decide (byteAt d2.1.1.2.2.1 v4_4 = 10)) (cond (decide ((l3.length + ([92, 110]).length) * 1 ≤ 140737488355328)) (some (((d2.1.1.1, d2.1.1.2.1, d2.1.1.2.2.1, d2.1.1.2.2.2.1, ()), (), v4_4, ()), (l3 ++ ([92, 110]), ()))) none) (Option.bind (α := ((Int × Int × (List UInt8) × (List Fm) × Unit) × Unit × Int × Int × Bool × Unit) × ((List Int) × Unit))
 (cond (decide (byteAt d2.1.1.2.2.1 v4_4 = 34)) (some (((d2.1.1.1, d2.1.1.2.1, d2.1.1.2.2.1, d2.1.1.2.2.2.1, ()), (), v4_4, byteAt d2.1.1.2.2.1 v4_4, decide (byteAt d2.1.1.2.2.1 v4_4 = 34), ()), (l3, ()))) (some (((d2.1.1.1, d2.1.1.2.1, d2.1.1.2.2.1, d2.1.1.2.2.2.1, ()), (), v4_4, byteAt d2.1.1.2.2.1 v4_4, decide (byteAt d2.1.1.2.2.1 v4_4 = 92), ()), (l3, ())))) fun d5 => (
 let l6 := d5.2.1
 let v4_7 := d5.1.2.2.1
 let v5_8 := d5.1.2.2.2.1
 let v42_9 := d5.1.2.2.2.2.1
 cond v42_9 (cond (decide ((l6.length + ([92, v5_8]).length) * 1 ≤ 140737488355328)) (some (((d5.1.1.1, d5.1.1.2.1, d5.1.1.2.2.1, d5.1.1.2.2.2.1, ()), (), v4_7, ()), (l6 ++ ([92, v5_8]), ()))) none) (cond (decide ((l6.length + ([v5_8]).length) * 1 ≤ 140737488355328)) (some (((d5.1.1.1, d5.1.1.2.1, d5.1.1.2.2.1, d5.1.1.2.2.2.1, ()), (), v4_7, ()), (l6 ++ ([v5_8]), ()))) none)))) none) fun d10 => (
 let l11 := d10.2.1
 let v4_12 := d10.1.2.2.1
 some (Step.next (((d10.1.1.1, d10.1.1.2.1, d10.1.1.2.2.1, d10.1.1.2.2.2.1, ()), (), IntKind.wrap .i64 (v4_12 + 1), ()), (l11, ()))))) (some (Step.done (((), ()), (l3, ())))))) (((x0.k, x0.n, x0.t, x0.l, ()), (), 0, ()), (([] : List Int), ()))) fun d13 => (
 let l14 := d13.2.1
 cond (decide (([34]).length + (strOf l14).length ≤ 9223372036854775807)) (cond (decide ((([34]) ++ (strOf l14)).length + ([34]).length ≤ 9223372036854775807)) (some (Step.done ((([34]) ++ (strOf l14)) ++ ([34])))) none) none)) (some (Step.next (((x0.k, x0.n, x0.t, x0.l, ()), ()), ())))))) fun qd15 => match qd15 with
 | .next d15 => (
 Option.bind (α := (Unit × Unit) × ((List Int) × Unit))
 (loopM (L := ((Int × Int × (List UInt8) × (List Fm) × Unit) × Unit × Int × Unit) × ((List Int) × Unit)) (R := (Unit × Unit) × ((List Int) × Unit)) (fun d16 => (
 let l17 := d16.2.1
 let v7_18 := d16.1.2.2.1
 cond (decide (v7_18 < (d16.1.1.2.2.2.1.length : Int))) (Option.bind (α := ((Int × Int × (List UInt8) × (List Fm) × Unit) × Unit × Int × Unit) × ((List Int) × Unit))
 (cond (decide (v7_18 > 0)) (cond (decide ((l17.length + ([32]).length) * 1 ≤ 140737488355328)) (some (((d16.1.1.1, d16.1.1.2.1, d16.1.1.2.2.1, d16.1.1.2.2.2.1, ()), (), v7_18, ()), (l17 ++ ([32]), ()))) none) (some (((d16.1.1.1, d16.1.1.2.1, d16.1.1.2.2.1, d16.1.1.2.2.2.1, ()), (), v7_18, ()), (l17, ())))) fun d19 => (
 let l20 := d19.2.1
 let v7_21 := d19.1.2.2.1
 cond (ixOK v7_21 d19.1.1.2.2.2.1.length) (Option.bind (α := List UInt8) (G_rtext k (Fm.eta (d19.1.1.2.2.2.1.getD v7_21.toNat (Fm.mk 0 0 [] [])))) fun r22 => (
 cond (decide ((l20.length + (r22.map fun b => (b.toNat : Int)).length) * 1 ≤ 140737488355328)) (some (Step.next (((d19.1.1.1, d19.1.1.2.1, d19.1.1.2.2.1, d19.1.1.2.2.2.1, ()), (), IntKind.wrap .i64 (v7_21 + 1), ()), (l20 ++ (r22.map fun b => (b.toNat : Int)), ())))) none)) none)) (some (Step.done (((), ()), (l17, ())))))) (((d15.1.1.1, d15.1.1.2.1, d15.1.1.2.2.1, d15.1.1.2.2.2.1, ()), (), 0, ()), ([40], ()))) fun d23 => (
 let l24 := d23.2.1
 cond (decide ((l24.length + ([41]).length) * 1 ≤ 140737488355328)) (some (strOf (l24 ++ ([41])))) none))
 | .done r => some r)
def A_rtext : An := .seq (.leaf) (.join true { env := [(1, (.rptr [(.d (.int .i64)), (.d (.int .i64)), (.d .str), (.d (.slice .form))]))], objs := [] } (.seq (.leaf) (.block (.seq (.leaf) (.cond (.leaf) (.seq (.leaf) (.cond (.leaf) (.seq (.leaf) (.cond (.seq (.leaf) (.join false { env := [(3, (.gs 0 (.int .u8)))], objs := [(false, .tg (.int .u8) 5)] } (.seq (.leaf) (.block (.loop { env := [(1, (.rptr [(.d (.int .i64)), (.d (.int .i64)), (.d .str), (.d (.slice .form))])), (3, (.gs 0 (.int .u8))), (4, (.d (.int .i64)))], objs := [(false, .tg (.int .u8) 5)] } (.seq (.leaf) (.join false { env := [(1, (.rptr [(.d (.int .i64)), (.d (.int .i64)), (.d .str), (.d (.slice .form))])), (3, (.gs 0 (.int .u8))), (4, (.d (.int .i64)))], objs := [(false, .tg (.int .u8) 5)] } (.block (.seq (.leaf) (.seq (.leaf) (.block (.seq (.leaf) (.cond (.leaf) (.join false { env := [(1, (.rptr [(.d (.int .i64)), (.d (.int .i64)), (.d .str), (.d (.slice .form))])), (3, (.gs 0 (.int .u8))), (4, (.d (.int .i64))), (5, (.d (.int .u8))), (42, (.d .bool))], objs := [(false, .tg (.int .u8) 5)] } (.leaf) (.leaf)))))))) (.leaf)))))) (.frz [0] (.leaf)))) (.leaf))))))))) (.seq (.leaf) (.join false { env := [(6, (.gs 0 (.int .u8)))], objs := [(false, .tg (.int .u8) 5)] } (.seq (.leaf) (.block (.loop { env := [(1, (.rptr [(.d (.int .i64)), (.d (.int .i64)), (.d .str), (.d (.slice .form))])), (6, (.gs 0 (.int .u8))), (7, (.d (.int .i64)))], objs := [(false, .tg (.int .u8) 5)] } (.seq (.leaf) (.seq (.block (.join false { env := [(1, (.rptr [(.d (.int .i64)), (.d (.int .i64)), (.d .str), (.d (.slice .form))])), (6, (.gs 0 (.int .u8))), (7, (.d (.int .i64)))], objs := [(false, .tg (.int .u8) 5)] } (.leaf) (.leaf))) (.leaf)))))) (.leaf))))
def H_rtext : Nat → RH := fun r => match r with
 | 13 => { H := { ty := [(36, (.int .u8))] } }
 | 15 => { H := { ty := [(41, (.int .u8))] } }
 | 18 => { H := { ty := [(48, (.int .u8))] } }
 | 20 => { H := { mb := [53], ty := [(53, (.int .u8))] } }
 | 25 => { H := { ty := [(65, (.int .u8))] } }
 | 26 => { H := { ty := [(73, (.int .u8))] } }
 | 27 => { H := { mb := [77], ty := [(76, (.int .u8))] } }
 | _ => {}
noncomputable def S_rtext (k : Nat) : Sig := .n [(.d .form)] (.d .str) (fun x => G_rtext k x.1)
theorem S_rtext_rec : ∀ k, SigOK CX 77 (S_rtext k)
| 0 => fun x r h => by cases h
| k + 1 => by
 have ih := S_rtext_rec k
 exact sigN_of (l := [(119, S_itoa), (77, (S_rtext k))]) ⟨S_itoa_ok, ih, trivial⟩ (hint := H_rtext) (an := A_rtext) (fun x => by kernel_rfl)
theorem S_rtext_ok : ∀ k, SigOK CX 77 (S_rtext k) := fun k => S_rtext_rec k
noncomputable def L_rtext (x0 : Fm) : Option (List UInt8) := limF fun k => G_rtext k x0
noncomputable def S_rtext_l : Sig := .n [(.d .form)] (.d .str) (fun x => L_rtext x.1)
theorem S_rtext_l_ok : SigOK CX 77 S_rtext_l := SigOK.limN S_rtext_ok fun x r h => limF_ex h
noncomputable def G_refWrite (x0 : Fm) : Option (List UInt8) := (
 Option.bind (α := Bool) (G_refValid (Fm.eta x0)) fun r1 => (
 cond (!r1) (some ([])) (Option.bind (α := List UInt8) (L_rtext (Fm.eta x0)) fun r2 => (
 some r2))))
def A_refWrite : An := .leaf
def H_refWrite : Nat → RH := fun _ => {}
noncomputable def S_refWrite : Sig := .n [(.d .form)] (.d .str) (fun x => G_refWrite x.1)
theorem S_refWrite_ok : SigOK CX 33 S_refWrite := sigN_of (l := [(35, S_refValid), (77, S_rtext_l)]) ⟨S_refValid_ok, S_rtext_l_ok, trivial⟩ (hint := H_refWrite) (an := A_refWrite) (fun x => by kernel_rfl)
noncomputable def G_refWriteAll (x0 : List Fm) : Option (List UInt8) := (
 Option.bind (α := (Unit × Unit) × ((List Int) × Unit))
 (loopM (L := ((List Fm) × Unit × Int × Unit) × ((List Int) × Unit)) (R := (Unit × Unit) × ((List Int) × Unit)) (fun d1 => (
 let l2 := d1.2.1
 let v0_3 := d1.1.1
 let v4_4 := d1.1.2.2.1
 cond (decide (v4_4 < (v0_3.length : Int))) (cond (ixOK v4_4 v0_3.length) (Option.bind (α := List UInt8) (G_refWrite (Fm.eta (v0_3.getD v4_4.toNat (Fm.mk 0 0 [] [])))) fun r5 => (
 cond (decide ((l2.length + (r5.map fun b => (b.toNat : Int)).length) * 1 ≤ 140737488355328)) (cond (decide (((l2 ++ (r5.map fun b => (b.toNat : Int))).length + ([10]).length) * 1 ≤ 140737488355328)) (some (Step.next ((v0_3, (), IntKind.wrap .i64 (v4_4 + 1), ()), ((l2 ++ (r5.map fun b => (b.toNat : Int))) ++ ([10]), ())))) none) none)) none) (some (Step.done (((), ()), (l2, ())))))) ((x0, (), 0, ()), (([] : List Int), ()))) fun d6 => (
 let l7 := d6.2.1
 some (strOf l7)))
def A_refWriteAll : An := .seq (.leaf) (.seq (.leaf) (.join false { env := [(3, (.gs 0 (.int .u8)))], objs := [(false, .tg (.int .u8) 5)] } (.seq (.leaf) (.block (.loop { env := [(0, (.d (.slice .form))), (3, (.gs 0 (.int .u8))), (4, (.d (.int .i64)))], objs := [(false, .tg (.int .u8) 5)] } (.leaf)))) (.frz [0] (.leaf))))
def H_refWriteAll : Nat → RH := fun r => match r with
 | 5 => { H := { ty := [(17, (.int .u8)), (19, (.int .u8))] } }
 | _ => {}
noncomputable def S_refWriteAll : Sig := .n [(.d (.slice .form))] (.d .str) (fun x => G_refWriteAll x.1)
theorem S_refWriteAll_ok : SigOK CX 44 S_refWriteAll := sigN_of (l := [(33, S_refWrite)]) ⟨S_refWrite_ok, trivial⟩ (hint := H_refWriteAll) (an := A_refWriteAll) (fun x => by kernel_rfl)
end Go.Ab

namespace Go.Ab
open Go
section
variable (vis : UInt8 → Bool) (tok : List UInt8 → Int ⊕ Fm)
end
end Go.Ab

set_option maxRecDepth 100000
namespace Go.Ab
open Go Go.RowKit Go.Proofs
theorem ybyte {s : List UInt8} {i : Nat} (h : i < s.length) : byteAt s (i : Int) = ((s[i].toNat : Nat) : Int) := by
 unfold byteAt; simp [h]
theorem ybyte_eq {c : UInt8} {n : Nat} (h : n < 256) : (((c.toNat : Nat) : Int) = (n : Int)) ↔ c = UInt8.ofNat n := by
 constructor
 ·intro e
  apply UInt8.toNat_inj.1
  rw [UInt8.toNat_ofNat_of_lt' h]; omega
 ·intro e; subst e
  rw [UInt8.toNat_ofNat_of_lt' h]
theorem ybyteD (c : UInt8) (n : Nat) (h : n < 256) : decide (((c.toNat : Nat) : Int) = (n : Int)) = decide (c = UInt8.ofNat n) := decide_eq_decide.2 (ybyte_eq h)
end Go.Ab

set_option maxRecDepth 100000
namespace Go.Ab
open Go Go.RowKit Go.Proofs
theorem bytes_ints (b : List UInt8) : bytesOf (intsOf b) = some b := by
 have h1 : ((intsOf b).all fun n => decide (0 ≤ n ∧ n < 256)) = true := by
  rw [List.all_eq_true]
  intro n hn
  unfold intsOf at hn
  obtain ⟨c, _, rfl⟩ := List.mem_map.1 hn
  apply decide_eq_true
  have := c.toNat_lt
  omega
 unfold bytesOf
 rw [if_pos h1]
 unfold intsOf
 rw [List.map_map]
 congr 1
 refine List.map_id'' (fun c => ?_) b
 simp
theorem ints_len (b : List UInt8) : (intsOf b).length = b.length := by unfold intsOf; exact List.length_map ..
end Go.Ab

set_option maxRecDepth 100000
namespace Go.Ab
open Go Go.RowKit Go.Proofs
theorem cmpL_end {l m : List Fm} {i : Nat} (h : i = min l.length m.length) : cmpL (l.drop i) (m.drop i) = if l.length < m.length then -1 else if m.length < l.length then 1 else 0 := by
 by_cases hlm : l.length ≤ m.length
 ·rw [Nat.min_eq_left hlm] at h
  subst h
  simp only [List.drop_length, cmpL]
  by_cases hd : m.drop l.length = []
  ·have := List.drop_eq_nil_iff.1 hd
   rw [if_pos hd, if_neg (by omega), if_neg (by omega)]
  ·have : ¬ m.length ≤ l.length := fun h => hd (List.drop_eq_nil_iff.2 h)
   rw [if_neg hd, if_pos (by omega)]
 ·have h1 : m.length < l.length := by omega
  rw [Nat.min_eq_right (by omega)] at h
  subst h
  simp only [List.drop_length]
  rw [List.drop_eq_getElem_cons h1, if_neg (by omega), if_pos h1]
  simp [cmpL]
theorem sgn_cmpI (a b : Int) : G_sign (decide (a < b)) (decide (a > b)) = some (cmpI a b) := by
 rw [sign_val]; unfold cmpI; simp only [decide_eq_true_eq, gt_iff_lt]
theorem sgn_cmpS (a b : List UInt8) : G_sign (Op.bytesLess a b) (!(Op.bytesLess a b || decide (a = b))) = some (cmpS a b) := by
 rw [sign_val]; unfold cmpS
 by_cases h : Op.bytesLess a b = true
 ·simp [h]
 ·by_cases h' : a = b
  ·subst h'; simp [bytesLess_irrefl]
  ·simp [h, h']
theorem refCompare_step (k : Nat) (hF : ∀ f g : Fm, f.big ≤ 4611686018427387000 → Up (k < f.big) (G_refCompare k f g) (cmpF f g)) (f g : Fm) (hb : f.big ≤ 4611686018427387000) : Up (k + 1 < f.big) (G_refCompare (k + 1) f g) (cmpF f g) := by
 obtain ⟨a, n, t, l⟩ := f
 obtain ⟨a', n', t', l'⟩ := g
 have hk := big_kids (.mk a n t l)
 have hl := length_le_big l
 simp only [Fm.l] at hk
 rw [cmpF_mk]
 unfold G_refCompare
 simp only [sgn_cmpI, sgn_cmpS]
 simp only [Fm.k, Fm.n, Fm.t, Fm.l, sgn_cmpI, sgn_cmpS, Option.bind_some]
 by_cases h : a = a'
 ·subst h
  simp only [decide_true, Bool.not_true, cond_false, if_true]
  by_cases h0 : a = 0
  ·subst h0; simp only [decide_true, cond_true, if_true]; exact .of rfl
  ·simp only [h0, decide_false, cond_false, if_false]
   by_cases h1 : a = 1
   ·subst h1; simp only [decide_true, cond_true, Option.bind_some, true_or, if_true]; exact .of rfl
   ·simp only [h1, decide_false, cond_false, Option.bind_some, false_or]
    by_cases h2 : a = 2
    ·subst h2; simp only [decide_true, cond_true, if_true]; exact .of rfl
    ·simp only [h2, decide_false, cond_false, if_false]
     by_cases h3 : a = 3
     ·subst h3
      simp only [decide_true, cond_true, if_true]
      refine Up.bind (v := Step.done (cmpL l l')) ?_ (.of rfl)
      refine loop_ix (fun i => (((3, n, t, l, ()), (3, n', t', l', ()), (i : Int), ()), ())) (fun i => (Step.done (cmpL (l.drop i) (l'.drop i)) : Step ((Unit) × (Unit)) (Int))) (min l.length l'.length) (fun i hi => ?_) ?_
      ·have h1 : i < l.length := by omega
       have h2 : i < l'.length := by omega
       have e1 : decide ((i : Int) < (l.length : Int)) = true := by simp [h1]
       have e3 : decide ((i : Int) < (l'.length : Int)) = true := by simp [h2]
       have e2 : ixOK (i : Int) l.length = true := ixOK_iff.2 (by omega)
       have e4 : ixOK (i : Int) l'.length = true := ixOK_iff.2 (by omega)
       simp only [e1, e2, e3, e4, cond_true, cond_false, Int.toNat_natCast, getD_in h1, getD_in h2, Fm.eta_eq, wrapN (show i < 4611686018427387904 by omega), cmpL_drop h1 h2]
       have hm := big_mem (List.getElem_mem h1)
       rcases hF l[i] l'[i] (by omega) with h | ⟨h, hn⟩
       ·rw [h]
        by_cases hc : cmpF l[i] l'[i] = 0
        ·refine .inl ⟨by simp [hc], by simp [hc]⟩
        ·refine .inr (.inl ⟨.done (.done (cmpF l[i] l'[i])), by simp [hc], .of (by simp [hc])⟩)
       ·rw [h]
        exact .inr (.inr ⟨rfl, by omega⟩)
      ·have hx : ¬ (min l.length l'.length < l.length ∧ min l.length l'.length < l'.length) := by omega
       refine ⟨.next (((3, n, t, l, ()), (3, n', t', l', ()), ()), ()), ?_, .of ?_⟩
       ·have : (cond (decide (((min l.length l'.length : Nat) : Int) < (l.length : Int))) (decide (((min l.length l'.length : Nat) : Int) < (l'.length : Int))) false) = false := by
         by_cases q : ((min l.length l'.length : Nat) : Int) < (l.length : Int)
         ·have : ¬ ((min l.length l'.length : Nat) : Int) < (l'.length : Int) := by omega
          simp only [q, this, decide_true, decide_false, cond_true]
         ·simp only [q, decide_false, cond_false]
        simp only [this, cond_false]
       ·rw [cmpL_end rfl]
        simp only [sgn_cmpI, Option.bind_some]
        unfold cmpI
        simp only [Int.ofNat_lt]
     ·simp only [h3, decide_false, cond_false, if_false]; exact .of rfl
 ·simp only [h, decide_false, Bool.not_false, cond_true, if_false]; exact .of rfl
theorem refCompare_up : ∀ k, ∀ f g : Fm, f.big ≤ 4611686018427387000 → Up (k < f.big) (G_refCompare k f g) (cmpF f g)
 | 0 => fun f g hb => .inr ⟨by unfold G_refCompare; rfl, by have := big_pos f; omega⟩
 | k + 1 => refCompare_step k (refCompare_up k)
theorem refCompare_val {f g : Fm} (hb : f.big ≤ 4611686018427387000) : L_refCompare f g = some (cmpF f g) := limF_up (b := f.big) fun k => refCompare_up k f g hb
end Go.Ab

set_option maxRecDepth 100000
namespace Go.Ab
open Go Go.RowKit Go.Proofs
mutual
def Fm.size : Fm → Nat
 | .mk k _ _ l => 1 + (if k = 3 then Fm.sizeL l else 0)
def Fm.sizeL : List Fm → Nat
 | [] => 0
 | f :: r => f.size + Fm.sizeL r
end
mutual
def Fm.depth : Fm → Nat
 | .mk k _ _ l => 1 + (if k = 3 then Fm.depthL l else 0)
def Fm.depthL : List Fm → Nat
 | [] => 0
 | f :: r => max f.depth (Fm.depthL r)
end
theorem sizeL_le : ∀ l : List Fm, (∀ f ∈ l, f.size ≤ f.big) → Fm.sizeL l ≤ Fm.bigL l
 | [], _ => by simp [Fm.sizeL, Fm.bigL]
 | f :: r, h => by
  simp only [Fm.sizeL, Fm.bigL]
  have := h f (by simp)
  have := sizeL_le r fun g hg => h g (by simp [hg])
  omega
theorem size_le : ∀ f : Fm, f.size ≤ f.big := Fm.ind fun k n t l ih => by
 have := sizeL_le l ih
 simp only [Fm.size, Fm.big]
 split <;> omega
theorem depthL_le : ∀ l : List Fm, (∀ f ∈ l, f.depth ≤ f.big) → Fm.depthL l ≤ Fm.bigL l
 | [], _ => by simp [Fm.depthL, Fm.bigL]
 | f :: r, h => by
  simp only [Fm.depthL, Fm.bigL]
  have := h f (by simp)
  have := depthL_le r fun g hg => h g (by simp [hg])
  omega
theorem depth_le : ∀ f : Fm, f.depth ≤ f.big := Fm.ind fun k n t l ih => by
 have := depthL_le l ih
 simp only [Fm.depth, Fm.big]
 split <;> omega
theorem sizeL_take (l : List Fm) {i : Nat} (h : i < l.length) : Fm.sizeL (l.take (i + 1)) = Fm.sizeL (l.take i) + l[i].size := by
 rw [List.take_succ_eq_append_getElem h]
 have : ∀ a b : List Fm, Fm.sizeL (a ++ b) = Fm.sizeL a + Fm.sizeL b := by
  intro a b
  induction a with
  | nil => simp [Fm.sizeL]
  | cons x r ih => simp only [List.cons_append, Fm.sizeL, ih]; omega
 rw [this]; simp [Fm.sizeL]
theorem depthL_take (l : List Fm) {i : Nat} (h : i < l.length) : Fm.depthL (l.take (i + 1)) = max (Fm.depthL (l.take i)) l[i].depth := by
 rw [List.take_succ_eq_append_getElem h]
 have : ∀ a b : List Fm, Fm.depthL (a ++ b) = max (Fm.depthL a) (Fm.depthL b) := by
  intro a b
  induction a with
  | nil => simp [Fm.depthL]
  | cons x r ih => simp only [List.cons_append, Fm.depthL, ih]; omega
 rw [this]; simp [Fm.depthL]
theorem sizeL_take_le (l : List Fm) (i : Nat) : Fm.sizeL (l.take i) ≤ Fm.sizeL l := by
 induction l generalizing i with
 | nil => simp
 | cons f r ih => cases i with
  | zero => simp [Fm.sizeL]
  | succ i => simp only [List.take_succ_cons, Fm.sizeL]; have := ih i; omega
theorem kids_val (f : Fm) : G_kids f = some (if f.k = 3 then f.l else []) := by
 unfold G_kids
 by_cases h : f.k = 3
 ·simp [h]
 ·simp [h]
theorem Fm.size_eq (f : Fm) : f.size = 1 + Fm.sizeL (if f.k = 3 then f.l else []) := by
 cases f; simp only [Fm.size, Fm.k, Fm.l]; split <;> simp_all [Fm.sizeL]
theorem Fm.depth_eq (f : Fm) : f.depth = 1 + Fm.depthL (if f.k = 3 then f.l else []) := by
 cases f; simp only [Fm.depth, Fm.k, Fm.l]; split <;> simp_all [Fm.depthL]
theorem kids_mem {f g : Fm} (h : g ∈ (if f.k = 3 then f.l else [])) : g.big < f.big := by
 split at h
 ·have := big_mem h; have := big_kids f; omega
 ·cases h
theorem kids_len (f : Fm) : (if f.k = 3 then f.l else []).length < f.big := by
 split
 ·have := length_le_big f.l; have := big_kids f; omega
 ·have := big_pos f; simp only [List.length_nil]; omega
theorem size_up : ∀ k, ∀ f : Fm, f.big ≤ 4611686018427387000 → Up (k < f.big) (G_size k f) (f.size : Int)
 | 0 => fun f hb => .inr ⟨by unfold G_size; rfl, by have := big_pos f; omega⟩
 | k + 1 => fun f hb => by
  have hs := size_le f
  rw [Fm.size_eq] at hs ⊢
  unfold G_size
  simp only [Fm.eta_eq, kids_val, Option.bind_some]
  have hm : ∀ g ∈ (if f.k = 3 then f.l else []), g.big < f.big := fun g hg => kids_mem hg
  have hl := kids_len f
  generalize (if f.k = 3 then f.l else []) = l at hm hl hs
  refine loop_ix (fun i => ((((1 + Fm.sizeL (l.take i) : Nat) : Int), l, (l.length : Int), (i : Int), ()), ())) (fun i => ((1 + Fm.sizeL l : Nat) : Int)) l.length (fun i hi => ?_) ?_
  ·have e1 : decide ((i : Int) < (l.length : Int)) = true := by simp [hi]
   have e2 : ixOK (i : Int) l.length = true := ixOK_iff.2 (by omega)
   have hg := hm _ (List.getElem_mem hi)
   have h2 := sizeL_take l hi
   have h3 := sizeL_take_le l (i + 1)
   simp only [e1, e2, cond_true, Int.toNat_natCast, getD_in hi, Fm.eta_eq, wrapN (show i < 4611686018427387904 by omega)]
   rcases size_up k l[i] (by omega) with h | ⟨h, hn⟩
   ·rw [h]
    refine .inl ⟨?_, trivial⟩
    simp only [Option.bind_some]
    rw [w64 (by omega) (by omega)]
    have : ((1 + Fm.sizeL (l.take i) : Nat) : Int) + (l[i].size : Int) = ((1 + Fm.sizeL (l.take (i + 1)) : Nat) : Int) := by omega
    rw [this]
   ·rw [h]; exact .inr (.inr ⟨rfl, by omega⟩)
  ·refine ⟨((((1 + Fm.sizeL (l.take l.length) : Nat) : Int), ()), ()), by simp, .of ?_⟩
   simp
theorem size_val {f : Fm} (hb : f.big ≤ 4611686018427387000) : L_size f = some (f.size : Int) := limF_up (b := f.big) fun k => size_up k f hb
theorem depth_up : ∀ k, ∀ f : Fm, f.big ≤ 4611686018427387000 → Up (k < f.big) (G_depth k f) (f.depth : Int)
 | 0 => fun f hb => .inr ⟨by unfold G_depth; rfl, by have := big_pos f; omega⟩
 | k + 1 => fun f hb => by
  have hs := depth_le f
  rw [Fm.depth_eq] at hs ⊢
  unfold G_depth
  simp only [Fm.eta_eq, kids_val, Option.bind_some]
  have hm : ∀ g ∈ (if f.k = 3 then f.l else []), g.big < f.big := fun g hg => kids_mem hg
  have hl := kids_len f
  generalize (if f.k = 3 then f.l else []) = l at hm hl hs
  refine loop_ix (fun i => (((Fm.depthL (l.take i) : Int), l, (l.length : Int), (i : Int), ()), ())) (fun i => ((1 + Fm.depthL l : Nat) : Int)) l.length (fun i hi => ?_) ?_
  ·have e1 : decide ((i : Int) < (l.length : Int)) = true := by simp [hi]
   have e2 : ixOK (i : Int) l.length = true := ixOK_iff.2 (by omega)
   have hg := hm _ (List.getElem_mem hi)
   have h2 := depthL_take l hi
   simp only [e1, e2, cond_true, Int.toNat_natCast, getD_in hi, Fm.eta_eq, wrapN (show i < 4611686018427387904 by omega)]
   rcases depth_up k l[i] (by omega) with h | ⟨h, hn⟩
   ·rw [h]
    refine .inl ⟨?_, trivial⟩
    simp only [Option.bind_some]
    have : (if (l[i].depth : Int) > (Fm.depthL (l.take i) : Int) then (l[i].depth : Int) else (Fm.depthL (l.take i) : Int)) = (Fm.depthL (l.take (i + 1)) : Int) := by
     rw [h2]; split <;> omega
    rw [this]
   ·rw [h]; exact .inr (.inr ⟨rfl, by omega⟩)
  ·refine ⟨(((Fm.depthL (l.take l.length) : Int), ()), ()), by simp, .of ?_⟩
   simp only [List.take_length]
   rw [w64 (by omega) (by omega)]
   congr 1; omega
theorem depth_val {f : Fm} (hb : f.big ≤ 4611686018427387000) : L_depth f = some (f.depth : Int) := limF_up (b := f.big) fun k => depth_up k f hb
def wordS (t : List UInt8) : Bool := decide (t ≠ []) && (decide (t.length ≤ 30) && !numericS t)
def leafS (k n : Int) (t : List UInt8) (l : List Fm) : Bool :=
 if k = 0 then decide (t = []) && (decide (l = []) && (decide (-1152921504606846976 ≤ n) && decide (n ≤ 1152921504606846976)))
 else if k = 1 then (wordS t && t.all fun c => !outsideS c) && (decide (n = 0) && decide (l = []))
 else if k = 2 then decide (t.length ≤ 2000) && (!badT t && (decide (n = 0) && decide (l = [])))
 else if k = 3 then decide (t = []) && decide (n = 0)
 else false
theorem outside_byte {t : List UInt8} {i : Nat} (h : i < t.length) : outsideF (byteAt t (i : Int)) = some (outsideS t[i]) := by
 have hb := t[i].toNat_lt
 have e : byteAt t (i : Int) = (t[i].toNat : Int) := by unfold byteAt; simp [h]
 unfold outsideF
 rw [e, if_pos (by omega)]
 simp
theorem word_loop {a n : Int} {t : List UInt8} {l : List Fm} {A : Type} {v : A} (F : ((Int × Int × (List UInt8) × (List Fm) × Unit) × Bool × Unit) × (Unit) → Option A) (b0 : Bool) (ht : t.length ≤ 30)
  (hF : F ((((a, n, t, l, ()), b0 && t.all fun c => !outsideS c, ()), ())) = some v) :
  Option.bind (loopM (L := ((Int × Int × (List UInt8) × (List Fm) × Unit) × Bool × Int × Unit) × (Unit)) (R := ((Int × Int × (List UInt8) × (List Fm) × Unit) × Bool × Unit) × (Unit)) (fun d2 => (
 let v3_3 := d2.1.2.1
 let v4_4 := d2.1.2.2.1
 cond (cond (decide (v4_4 < (d2.1.1.2.2.1.length : Int))) v3_3 false) (cond (ixOK v4_4 d2.1.1.2.2.1.length) (Option.bind (α := Bool) (outsideF (byteAt d2.1.1.2.2.1 v4_4)) fun r5 => (
 some (Step.next (((d2.1.1.1, d2.1.1.2.1, d2.1.1.2.2.1, d2.1.1.2.2.2.1, ()), !r5, IntKind.wrap .i64 (v4_4 + 1), ()), ())))) none) (some (Step.done (((d2.1.1.1, d2.1.1.2.1, d2.1.1.2.2.1, d2.1.1.2.2.2.1, ()), v3_3, ()), ()))))) (((a, n, t, l, ()), b0, 0, ()), ())) F = some v := by
 have key : ∀ j i (b : Bool), i + j = t.length → F ((((a, n, t, l, ()), b && (t.drop i).all fun c => !outsideS c, ()), ())) = some v → Option.bind (loopM (L := ((Int × Int × (List UInt8) × (List Fm) × Unit) × Bool × Int × Unit) × (Unit)) (R := ((Int × Int × (List UInt8) × (List Fm) × Unit) × Bool × Unit) × (Unit)) (fun d2 => (
 let v3_3 := d2.1.2.1
 let v4_4 := d2.1.2.2.1
 cond (cond (decide (v4_4 < (d2.1.1.2.2.1.length : Int))) v3_3 false) (cond (ixOK v4_4 d2.1.1.2.2.1.length) (Option.bind (α := Bool) (outsideF (byteAt d2.1.1.2.2.1 v4_4)) fun r5 => (
 some (Step.next (((d2.1.1.1, d2.1.1.2.1, d2.1.1.2.2.1, d2.1.1.2.2.2.1, ()), !r5, IntKind.wrap .i64 (v4_4 + 1), ()), ())))) none) (some (Step.done (((d2.1.1.1, d2.1.1.2.1, d2.1.1.2.2.1, d2.1.1.2.2.2.1, ()), v3_3, ()), ()))))) (((a, n, t, l, ()), b, (i : Int), ()), ())) F = some v := by
  intro j
  induction j with
  | zero =>
   intro i b hi hv
   obtain rfl : i = t.length := by omega
   rw [loopM_done (r := (((a, n, t, l, ()), b, ()), ())) (by simp)]
   simpa using hv
  | succ j ih =>
   intro i b hi hv
   have hlt : i < t.length := by omega
   cases b with
   | false =>
    rw [loopM_done (r := (((a, n, t, l, ()), false, ()), ())) (by simp)]
    simpa using hv
   | true =>
    have e1 : decide ((i : Int) < (t.length : Int)) = true := by simp [hlt]
    have e2 : ixOK (i : Int) t.length = true := ixOK_iff.2 (by omega)
    rw [loopM_next (l' := (((a, n, t, l, ()), !outsideS t[i], ((i + 1 : Nat) : Int), ()), ())) (by
     simp only [e1, e2, cond_true, outside_byte hlt, Option.bind_some, wrapN (show i < 4611686018427387904 by omega)])]
    refine ih (i + 1) _ (by omega) ?_
    rw [List.drop_eq_getElem_cons hlt, List.all_cons, Bool.true_and] at hv
    exact hv
 exact key t.length 0 b0 (by omega) (by simpa using hF)
theorem len0 {α : Type} (l : List α) : decide ((l.length : Int) = 0) = decide (l = []) := by
 cases l with
 | nil => rfl
 | cons a r =>
  have : ¬ ((a :: r).length : Int) = 0 := by simp only [List.length_cons]; omega
  simp only [this, decide_false]; rfl
theorem leaf_val (f : Fm) : G_leaf f = some (leafS f.k f.n f.t f.l) := by
 unfold G_leaf leafS
 generalize f.k = a
 generalize f.n = n
 generalize f.t = t
 generalize f.l = l
 simp only [len0]
 by_cases h0 : a = 0
 ·subst h0
  simp only [decide_true, cond_true, if_true, Option.bind_some, ge_iff_le]
  congr 1
  apply Bool.eq_iff_iff.2
  simp [and_assoc]
 ·simp only [h0, decide_false, cond_false, if_false]
  by_cases h1 : a = 1
  ·subst h1
   simp only [decide_true, cond_true, if_true]
   by_cases hn : t = []
   ·subst hn
    simp only [decide_true, Bool.not_true, cond_false, Option.bind_some]
    rw [loopM_done (r := (((1, n, [], l, ()), false, ()), ())) (by simp)]
    simp [wordS]
   ·by_cases hl : t.length ≤ 30
    ·have e1 : decide ((t.length : Int) ≤ 30) = true := by simp; omega
     have hnum : numericF t = some (numericS t) := by unfold numericF; rw [if_pos (by omega)]
     simp only [hn, decide_false, Bool.not_false, cond_true, e1, hnum, Option.bind_some]
     rw [word_loop (v := Step.done (cond (cond ((!numericS t) && t.all fun c => !outsideS c) (decide (n = 0)) false) (decide (l = [])) false)) _ _ hl (by simp only [len0])]
     simp only [Option.bind_some]
     congr 1
     have ew : wordS t = !numericS t := by simp [wordS, hn, hl]
     rw [ew]
     apply Bool.eq_iff_iff.2
     simp [and_assoc]
    ·have e1 : decide ((t.length : Int) ≤ 30) = false := by simp; omega
     simp only [hn, decide_false, Bool.not_false, cond_true, e1, cond_false, Option.bind_some]
     rw [loopM_done (r := (((1, n, t, l, ()), false, ()), ())) (by simp)]
     simp [wordS, hl]
  ·simp only [h1, decide_false, cond_false, if_false]
   by_cases h2 : a = 2
   ·subst h2
    simp only [decide_true, cond_true, if_true]
    by_cases hl : t.length ≤ 2000
    ·have e1 : decide ((t.length : Int) ≤ 2000) = true := by simp; omega
     simp only [e1, cond_true, Option.bind_some, hl, decide_true, Bool.true_and]
     congr 1
     apply Bool.eq_iff_iff.2
     simp [and_assoc]
    ·have e1 : decide ((t.length : Int) ≤ 2000) = false := by simp; omega
     simp [e1, hl]
   ·simp only [h2, decide_false, cond_false, if_false]
    by_cases h3 : a = 3
    ·subst h3
     simp only [decide_true, cond_true, if_true, Option.bind_some]
     congr 1
     apply Bool.eq_iff_iff.2
     simp [and_assoc]
    ·simp [h3]
end Go.Ab

namespace Go.Ab
open Go Go.RowKit
mutual
def eqSh : (s : Sh) → s.den → s.den → Bool
 | .d e, x, y => eqE e x y
 | .c _, _, _ => true
 | .ref _ _, _, _ => true
 | .gs _ _, _, _ => true
 | .mref _ _, x, y => eqBl x y
 | .gv _ _, _, _ => false
 | .agg l, x, y => eqShL l x y
 | .tup l, x, y => eqShL l x y
 | .rptr l, x, y => eqShL l x y
 | .fn _ _ _, _, _ => false
 | .iface _ s, x, y => eqSh s x y
def eqShL : (l : List Sh) → Sh.denL l → Sh.denL l → Bool
 | [], _, _ => true
 | s :: l, x, y => eqSh s x.1 y.1 && eqShL l x.2 y.2
end
mutual
theorem eqSh_sound : ∀ (s : Sh) (x y : s.den), eqSh s x y = true → x = y
 | .d e, x, y, h => eqE_sound e x y h
 | .c _, x, y, h => rfl
 | .ref _ _, x, y, h => rfl
 | .gs _ _, x, y, h => rfl
 | .mref _ _, x, y, h => eqBl_sound x y h
 | .gv _ _, x, y, h => by cases h
 | .agg l, x, y, h => eqShL_sound l x y h
 | .tup l, x, y, h => eqShL_sound l x y h
 | .rptr l, x, y, h => eqShL_sound l x y h
 | .fn _ _ _, x, y, h => by cases h
 | .iface _ s, x, y, h => eqSh_sound s x y h
theorem eqShL_sound : ∀ (l : List Sh) (x y : Sh.denL l), eqShL l x y = true → x = y
 | [], x, y, h => rfl
 | s :: l, (x1, x2), (y1, y2), h => by
  have h : (eqSh s x1 y1 && eqShL l x2 y2) = true := h
  rw [Bool.and_eq_true] at h
  rw [eqSh_sound s x1 y1 h.1, eqShL_sound l x2 y2 h.2]
end
def mgE (res : Sh) (a b : Option res.den) : Option res.den := match a with
 | some x => match b with
  | some y => match eqSh res x y with
   | true => some x
   | false => none
  | none => none
 | none => none
theorem mgE_ok (res : Sh) : MgOK (mgE res) := fun a b r h => by
 unfold mgE at h
 split at h
 ·rename_i x
  split at h
  ·rename_i y
   split at h
   ·rename_i e; cases h; exact ⟨rfl, by rw [eqSh_sound res _ _ e]⟩
   ·cases h
  ·cases h
 ·cases h
def atF (args : List Sh) {R : Type} (x : Sh.denL args) (r : R) (y : Sh.denL args) : Option R := match eqShL args y x with
 | true => some r
 | false => none
theorem sig_at {C : Cx} {l : List (Nat × Sig)} (ht : TabOK C l) {hint : Nat → RH} {g : FuncId} {args : List Sh} {res : Sh} {an : An} {x : Sh.denL args} {r : res.den}
  (h : yfunM C (sigTab l) hint g (mgE res) (fun fn => finN C fn res) args an x = some r) : SigOK C g (.n args res (atF args x r)) := fun y r' hr => by
 unfold atF at hr
 split at hr
 ·rename_i e
  cases hr
  rw [eqShL_sound args y x e]
  exact yfun_sound (sigTab_ok ht) (mgE_ok res) h fun fn s => ⟨fun e he hf => by
   have hf' : (resA C.P fn.results.toList s.st).bind (fun v => resY s.σ res v id) = some r := by rcases he with rfl | rfl <;> exact hf
   obtain ⟨v, h1, h2⟩ := Option.bind_eq_some_iff.1 hf'
   obtain ⟨y, rfl, h3, h4⟩ := resY_sound h2
   exact ⟨v, h1, h3, _, rfl, h4⟩, (fun v hv => by cases hv), (fun i hi => by cases hi), (fun i hi => by cases hi)⟩
 ·cases hr
end Go.Ab

set_option maxRecDepth 100000
namespace Go.Ab
open Go Go.RowKit Go.Proofs
noncomputable def S_nextE : Sig := .o { pre := [(false, .cells 132 [(.d .str), (.d (.int .i64))])], args := [(.ref 0 0)], post := [(true, .cells 132 [(.d .str), (.d (.int .i64))])], res := (.tup [(.d (.pr (.int .u8) .form)), (.d .bool), (.d (.int .i64))]), f := fun x => E_next 60 x.2.1 }
theorem S_nextE_ok : SigOK CX 104 S_nextE := ⟨S_next_ok.1, fun x r hr => S_next_ok.2 x r (E_next_le 60 _ _ hr)⟩
def parseA : An := .seq .leaf (.seq .leaf (.seq .leaf (.block (.unroll 40 (.block (.joinX [4, 5, 6, 7, 8] .leaf (.seq .leaf (.joinX [4, 5, 6] (.block (.seq .leaf (.cond .leaf (.seq .leaf (.cond .leaf (.seq .leaf (.cond .leaf (.seq .leaf (.cond .leaf (.seq .leaf (.cond .leaf (.seq .leaf (.cond (.seq .leaf (.seq (.frzt [74] .leaf) (.seq .leaf (.cond (.seq (.frzt [79] .leaf) .leaf) (.frzt [79] .leaf))))) .leaf))))))))))))) .leaf))))))))
def parseH : Nat → RH := fun r => match r with
 | 1 => { H := { mb := [13] } }
 | 2 => { H := { mb := [14] } }
 | 3 => { H := { ac := [17] } }
 | 5 => { H := { ty := [(32, .form)] }, pair := some ([0, 1, 2, 3, 4, 5, 6, 7, 8, 9, 11], 10, 12, []) }
 | 19 => { pair := some ([0], 1, 2, [3]) }
 | 20 => { H := { ty := [(92, .form)] } }
 | 22 => { H := { ty := [(105, .form)] } }
 | _ => {}
def text1 : List UInt8 := [40, 102, 32, 49, 32, 34, 97, 92, 110, 98, 34, 32, 40, 103, 41, 41]
def form1 : Fm := .mk 3 0 [] [.mk 1 0 [102] [], .mk 0 1 [] [], .mk 2 0 [97, 10, 98] [], .mk 3 0 [] [.mk 1 0 [103] []]]
theorem parse_run : yfunM CX (sigTab [(104, S_nextE), (105, S_touches)]) parseH 59 (mgE (.tup [.d (.slice .form), .d (.int .i64)])) (fun fn => finN CX fn (.tup [.d (.slice .form), .d (.int .i64)])) [.d .str] parseA (text1, ()) = some ([form1], (0 : Int), ()) := by kernel_rfl
end Go.Ab

set_option maxRecDepth 100000
namespace Go.Ab
open Go Go.RowKit Go.Proofs
noncomputable def S_parse1 : Sig := .n [.d .str] (.tup [.d (.slice .form), .d (.int .i64)]) (atF [.d .str] (text1, ()) ([form1], (0 : Int), ()))
theorem S_parse1_ok : SigOK CX 59 S_parse1 := sig_at (l := [(104, S_nextE), (105, S_touches)]) ⟨S_nextE_ok, S_touches_ok, trivial⟩ parse_run
noncomputable def G_readBad (x0 : Fm) : Option (Bool) := (
 Option.bind (α := Bool) (G_rvalid (Fm.eta x0)) fun r1 => (
 some (!r1)))
def A_readBad : An := .leaf
def H_readBad : Nat → RH := fun _ => {}
noncomputable def S_readBad : Sig := .n [(.d .form)] (.d .bool) (fun x => G_readBad x.1)
theorem S_readBad_ok : SigOK CX 61 S_readBad := sigN_of (l := [(34, S_rvalid)]) ⟨S_rvalid_ok, trivial⟩ (hint := H_readBad) (an := A_readBad) (fun x => by kernel_rfl)
noncomputable def G_indexBad (x0 : List Fm) (x1 : Unit) : Option (Int) := (
 Option.bind (α := Step ((Unit) × (Unit)) (Int))
 (loopM (L := ((List Fm) × Unit × Int × Int × Unit) × (Unit)) (R := Step ((Unit) × (Unit)) (Int)) (fun d1 => (
 let v0_2 := d1.1.1
 let v7_3 := d1.1.2.2.1
 let v8_4 := d1.1.2.2.2.1
 cond (decide (v8_4 < v7_3)) (cond (ixOK v8_4 v0_2.length) (Option.bind (α := Bool) (G_readBad (Fm.eta (v0_2.getD v8_4.toNat (Fm.mk 0 0 [] [])))) fun r5 => (
 cond r5 (some (Step.done (Step.done v8_4))) (some (Step.next ((v0_2, (), v7_3, IntKind.wrap .i64 (v8_4 + 1), ()), ()))))) none) (some (Step.done (Step.next ((), ())))))) ((x0, (), (x0.length : Int), 0, ()), ())) fun qd6 => match qd6 with
 | .next d6 => (
 some (-1))
 | .done r => some r)
def A_indexBad : An := .seq (.leaf) (.join true { env := [], objs := [] } (.seq (.leaf) (.block (.loop { env := [(0, (.d (.slice .form))), (1, (.c (.fn (.func 61) [] []))), (7, (.d (.int .i64))), (8, (.d (.int .i64)))], objs := [] } (.leaf)))) (.leaf))
def H_indexBad : Nat → RH := fun _ => {}
noncomputable def S_indexBad : Sig := .n [(.d (.slice .form)), (.c (.fn (.func 61) [] []))] (.d (.int .i64)) (fun x => G_indexBad x.1 x.2.1)
theorem S_indexBad_ok : SigOK CX 106 S_indexBad := sigN_of (l := [(61, S_readBad)]) ⟨S_readBad_ok, trivial⟩ (hint := H_indexBad) (an := A_indexBad) (fun x => by kernel_rfl)
noncomputable def G_containsBad1 (x0 : List Fm) (x1 : Unit) : Option (Bool) := (
 Option.bind (α := Int) (G_indexBad x0 ()) fun r1 => (
 some (decide (r1 ≥ 0))))
def A_containsBad1 : An := .leaf
def H_containsBad1 : Nat → RH := fun _ => {}
noncomputable def S_containsBad1 : Sig := .n [(.d (.slice .form)), (.c (.fn (.func 61) [] []))] (.d .bool) (fun x => G_containsBad1 x.1 x.2.1)
theorem S_containsBad1_ok : SigOK CX 60 S_containsBad1 := sigN_of (l := [(106, S_indexBad)]) ⟨S_indexBad_ok, trivial⟩ (hint := H_containsBad1) (an := A_containsBad1) (fun x => by kernel_rfl)
noncomputable def G_read1 (x0 : List UInt8) : Option ((List Fm) × Int × Unit) := (
 cond (decide ((x0.length : Int) > 60000)) (some (([] : List Fm), 2, ())) (Option.bind (α := (List Fm) × Int × Unit) (atF [.d .str] (text1, ()) (([form1], (0 : Int), ()) : List Fm × Int × Unit) (x0, ())) fun r1 => (
 cond (!decide (r1.2.1 = 0)) (some (([] : List Fm), r1.2.1, ())) (Option.bind (α := Bool) (G_containsBad1 r1.1 ()) fun r2 => (
 cond r2 (some (([] : List Fm), 2, ())) (some (r1.1, 0, ())))))))
def A_read1 : An := .leaf
def H_read1 : Nat → RH := fun _ => {}
noncomputable def S_read1 : Sig := .n [(.d .str)] (.tup [(.d (.slice .form)), (.d (.int .i64))]) (fun x => G_read1 x.1)
theorem S_read1_ok : SigOK CX 20 S_read1 := sigN_of (l := [(59, S_parse1), (60, S_containsBad1)]) ⟨S_parse1_ok, S_containsBad1_ok, trivial⟩ (hint := H_read1) (an := A_read1) (fun x => by kernel_rfl)
noncomputable def G_one1 (x0 : List UInt8) : Option (Fm × Int × Unit) := (
 Option.bind (α := (List Fm) × Int × Unit) (G_read1 x0) fun r1 => (
 cond (!decide (r1.2.1 = 0)) (some ((Fm.mk 0 0 ([]) ([] : List Fm)), r1.2.1, ())) (cond (!decide ((r1.1.length : Int) = 1)) (some ((Fm.mk 0 0 ([]) ([] : List Fm)), 4, ())) (cond (ixOK 0 r1.1.length) (some ((Fm.eta (r1.1.getD (0 : Int).toNat (Fm.mk 0 0 [] []))), 0, ())) none))))
def A_one1 : An := .leaf
def H_one1 : Nat → RH := fun _ => {}
noncomputable def S_one1 : Sig := .n [(.d .str)] (.tup [(.d .form), (.d (.int .i64))]) (fun x => G_one1 x.1)
theorem S_one1_ok : SigOK CX 22 S_one1 := sigN_of (l := [(20, S_read1)]) ⟨S_read1_ok, trivial⟩ (hint := H_one1) (an := A_one1) (fun x => by kernel_rfl)
noncomputable def G_sane01  : Option (Bool) := (
 Option.bind (α := Fm × Int × Unit) (G_one1 ([40, 102, 32, 49, 32, 34, 97, 92, 110, 98, 34, 32, 40, 103, 41, 41])) fun r1 => (
 Option.bind (α := Int) (cond (decide (r1.2.1 = 0)) (L_size (Fm.eta r1.1)) (some (0 : Int))) fun r2 => (
 Option.bind (α := Int) (cond (cond (decide (r1.2.1 = 0)) (decide (r2 = 6)) false) (L_depth (Fm.eta r1.1)) (some (0 : Int))) fun r3 => (
 Option.bind (α := List UInt8) (cond (cond (cond (decide (r1.2.1 = 0)) (decide (r2 = 6)) false) (decide (r3 = 3)) false) (G_head (Fm.eta r1.1)) (some ([] : List UInt8))) fun r4 => (
 some (cond (cond (cond (decide (r1.2.1 = 0)) (decide (r2 = 6)) false) (decide (r3 = 3)) false) (decide (r4 = [102])) false))))))
def A_sane01 : An := .leaf
def H_sane01 : Nat → RH := fun _ => {}
noncomputable def S_sane01 : Sig := .n [] (.d .bool) (fun x => G_sane01 )
theorem S_sane01_ok : SigOK CX 26 S_sane01 := sigN_of (l := [(22, S_one1), (36, S_size_l), (37, S_depth_l), (41, S_head)]) ⟨S_one1_ok, S_size_l_ok, S_depth_l_ok, S_head_ok, trivial⟩ (hint := H_sane01) (an := A_sane01) (fun x => by kernel_rfl)
end Go.Ab

set_option maxRecDepth 100000
namespace Go.Ab
open Go Go.RowKit Go.Proofs
mutual
def validS : Fm → Int → Int → Bool × Int
 | .mk k n t l, p, d => if p - 1 < 0 ∨ d = 0 ∨ leafS k n t l = false then (false, p - 1) else validLS l (p - 1) (d - 1)
def validLS : List Fm → Int → Int → Bool × Int
 | [], p, _ => (true, p)
 | f :: r, p, d => if (validS f p d).1 = true then validLS r (validS f p d).2 d else (false, (validS f p d).2)
end
def validF (f : Fm) : Bool := (validS f 20000 100).1
theorem validLS_drop {l : List Fm} {i : Nat} (h : i < l.length) (p d : Int) : validLS (l.drop i) p d = if (validS l[i] p d).1 = true then validLS (l.drop (i + 1)) (validS l[i] p d).2 d else (false, (validS l[i] p d).2) := by
 rw [List.drop_eq_getElem_cons h]; simp only [validLS]
theorem validLS_ok : ∀ (l : List Fm), (∀ f ∈ l, ∀ p d : Int, 0 ≤ p → (validS f p d).1 = true → 0 ≤ (validS f p d).2 ∧ (validS f p d).2 ≤ p) → ∀ p d : Int, 0 ≤ p → (validLS l p d).1 = true → 0 ≤ (validLS l p d).2 ∧ (validLS l p d).2 ≤ p
 | [], _, p, d, hp, _ => ⟨hp, Int.le_refl _⟩
 | f :: r, h, p, d, hp, ht => by
  simp only [validLS] at ht ⊢
  split at ht
  ·rename_i hf
   rw [if_pos hf]
   obtain ⟨h1, h2⟩ := h f (by simp) p d hp hf
   obtain ⟨h3, h4⟩ := validLS_ok r (fun g hg => h g (by simp [hg])) _ d h1 ht
   exact ⟨h3, by omega⟩
  ·cases ht
theorem validS_ok : ∀ f : Fm, ∀ p d : Int, 0 ≤ p → (validS f p d).1 = true → 0 ≤ (validS f p d).2 ∧ (validS f p d).2 ≤ p := Fm.ind fun k n t l ih p d hp ht => by
 simp only [validS] at ht ⊢
 split at ht
 ·cases ht
 ·rename_i hc
  rw [if_neg hc]
  obtain ⟨h1, h2⟩ := validLS_ok l ih (p - 1) (d - 1) (by have := fun h => hc (.inl h); omega) ht
  exact ⟨h1, by omega⟩
def cI (l : List Fm) (p d : Int) : Nat → Int
 | 0 => p
 | i + 1 => match l[i]? with
  | some f => if (validS f (cI l p d i) d).1 = true then (validS f (cI l p d i) d).2 else cI l p d i
  | none => cI l p d i
theorem cI_ok (l : List Fm) (p d : Int) (hp : 0 ≤ p) : ∀ i, 0 ≤ cI l p d i ∧ cI l p d i ≤ p
 | 0 => ⟨hp, Int.le_refl _⟩
 | i + 1 => by
  obtain ⟨h1, h2⟩ := cI_ok l p d hp i
  simp only [cI]
  split
  ·rename_i f hf
   split
   ·rename_i hv
    obtain ⟨h3, h4⟩ := validS_ok f _ d h1 hv
    exact ⟨h3, by omega⟩
   ·exact ⟨h1, h2⟩
  ·exact ⟨h1, h2⟩
theorem validS_eq (f : Fm) (p d : Int) : validS f p d = if p - 1 < 0 ∨ d = 0 ∨ leafS f.k f.n f.t f.l = false then (false, p - 1) else validLS f.l (p - 1) (d - 1) := by
 cases f; simp only [validS]; rfl
theorem valid_up : ∀ k, ∀ (f : Fm) (p d : Int), f.big ≤ 4611686018427387000 → 0 ≤ p → p ≤ 4611686018427387000 → 0 ≤ d → d ≤ 4611686018427387000 → Up (k < f.big) (G_valid k f d (p, ())) ((validS f p d).1, (((validS f p d).2, ()), ()))
 | 0 => fun f p d hb _ _ _ _ => .inr ⟨by unfold G_valid; rfl, by have := big_pos f; omega⟩
 | k + 1 => fun f p d hb hp0 hp1 hd0 hd1 => by
  have hkb := big_kids f
  have hln := length_le_big f.l
  have hmem : ∀ g ∈ f.l, g.big < f.big := fun g hg => by have := big_mem hg; omega
  rw [validS_eq]
  unfold G_valid
  simp only [Fm.eta_eq, leaf_val]
  rw [show IntKind.wrap .i64 (p - 1) = p - 1 from w64 (by omega) (by omega)]
  generalize leafS f.k f.n f.t f.l = b
  generalize f.l = l at hkb hln hmem
  by_cases h1 : p - 1 < 0
  ·simp only [h1, decide_true, cond_true, Bool.not_true, cond_false, Option.bind_some, true_or, if_true]; exact .of rfl
  ·by_cases h2 : d = 0
   ·simp only [h1, h2, decide_false, decide_true, cond_true, cond_false, Bool.not_true, Option.bind_some, true_or, or_true, if_true]; exact .of rfl
   ·cases b with
    | false => simp only [h1, h2, decide_false, cond_true, cond_false, Bool.not_false, Option.bind_some, or_true, if_true]; exact .of rfl
    | true =>
     simp only [h1, h2, decide_false, cond_true, cond_false, Bool.not_false, Bool.not_true, Option.bind_some, Bool.true_eq_false, or_false, if_false]
     refine loop_ix (fun i => (((), d, l, (l.length : Int), (i : Int), ()), ((cI l (p - 1) (d - 1) i, ()), ()))) (fun i => ((validLS (l.drop i) (cI l (p - 1) (d - 1) i) (d - 1)).1, (((validLS (l.drop i) (cI l (p - 1) (d - 1) i) (d - 1)).2, ()), ()))) l.length (fun i hi => ?_) ?_
     ·have e1 : decide ((i : Int) < (l.length : Int)) = true := by simp [hi]
      have e2 : ixOK (i : Int) l.length = true := ixOK_iff.2 (by omega)
      obtain ⟨c1, c2⟩ := cI_ok l (p - 1) (d - 1) (by omega) i
      have hg := hmem _ (List.getElem_mem hi)
      simp only [e1, e2, cond_true, Int.toNat_natCast, getD_in hi, Fm.eta_eq, wrapN (show i < 4611686018427387904 by omega), validLS_drop hi, w64 (show -9223372036854775808 ≤ d - 1 by omega) (by omega)]
      have hcI : cI l (p - 1) (d - 1) (i + 1) = if (validS l[i] (cI l (p - 1) (d - 1) i) (d - 1)).1 = true then (validS l[i] (cI l (p - 1) (d - 1) i) (d - 1)).2 else cI l (p - 1) (d - 1) i := by
       simp only [cI, List.getElem?_eq_getElem hi]
      rcases valid_up k l[i] (cI l (p - 1) (d - 1) i) (d - 1) (by omega) c1 (by omega) (by omega) (by omega) with h | ⟨h, hn⟩
      ·rw [h]
       simp only [Option.bind_some]
       by_cases hv : (validS l[i] (cI l (p - 1) (d - 1) i) (d - 1)).1 = true
       ·rw [if_pos hv] at hcI
        refine .inl ⟨?_, ?_⟩
        ·rw [hcI, hv]; rfl
        ·rw [if_pos hv, hcI]
       ·have hv' : (validS l[i] (cI l (p - 1) (d - 1) i) (d - 1)).1 = false := by simpa using hv
        refine .inr (.inl ⟨.done (false, (((validS l[i] (cI l (p - 1) (d - 1) i) (d - 1)).2, ()), ())), by rw [hv']; rfl, .of ?_⟩)
        rw [if_neg hv]
      ·rw [h]; exact .inr (.inr ⟨rfl, by omega⟩)
     ·refine ⟨.next ((), ((cI l (p - 1) (d - 1) l.length, ()), ())), by simp, .of ?_⟩
      simp [validLS]
theorem valid_val {f : Fm} {p d : Int} (hb : f.big ≤ 4611686018427387000) (h1 : 0 ≤ p) (h2 : p ≤ 4611686018427387000) (h3 : 0 ≤ d) (h4 : d ≤ 4611686018427387000) : L_valid f d (p, ()) = some ((validS f p d).1, (((validS f p d).2, ()), ())) := limF_up (b := f.big) fun k => valid_up k f p d hb h1 h2 h3 h4
theorem rvalid_val {f : Fm} (hb : f.big ≤ 4611686018427387000) : G_rvalid f = some (validF f) := by
 unfold G_rvalid
 rw [Fm.eta_eq, valid_val hb (by omega) (by omega) (by omega) (by omega)]
 rfl
theorem head_val (f : Fm) : G_head f = some (match (if f.k = 3 then f.l else []) with | [] => [] | g :: _ => if g.k = 1 then g.t else []) := by
 unfold G_head
 simp only [Fm.eta_eq, kids_val, Option.bind_some]
 generalize (if f.k = 3 then f.l else []) = l
 cases l with
 | nil => simp [ixOK]
 | cons g r =>
  have e : ixOK 0 (g :: r).length = true := ixOK_iff.2 (by simp only [List.length_cons]; omega)
  have e2 : decide (((g :: r).length : Int) > 0) = true := by simp only [List.length_cons]; simp
  simp only [e, e2, Bool.true_or, cond_true]
  show cond (decide (g.k = 1)) (some g.t) (some []) = _
  by_cases h : g.k = 1 <;> simp [h]
theorem one1_val : G_one1 text1 = some (form1, 0, ()) := by
 have hbig : form1.big ≤ 4611686018427387000 := by decide
 have hv : validF form1 = true := by kernel_rfl
 have hb : G_containsBad1 [form1] () = some false := by
  unfold G_containsBad1 G_indexBad
  rw [loopM_next (l' := (([form1], (), 1, 1, ()), ())) (by
   show (Option.bind (α := Bool) (G_readBad (Fm.eta form1)) fun r5 => _) = _
   unfold G_readBad
   rw [Fm.eta_eq, Fm.eta_eq, rvalid_val hbig, hv]
   rfl), loopM_done (r := .next ((), ())) (by rfl)]
  rfl
 unfold G_one1 G_read1
 have e1 : decide ((text1.length : Int) > 60000) = false := by decide
 have e2 : (atF [.d .str] (text1, ()) (([form1], (0 : Int), ()) : List Fm × Int × Unit) (text1, ())) = some ([form1], (0 : Int), ()) := by kernel_rfl
 rw [e1, e2]
 simp only [cond_false, Option.bind_some, decide_true, Bool.not_true, hb]
 rfl
theorem sane01_val : G_sane01 = some true := by
 have hbig : form1.big ≤ 4611686018427387000 := by decide
 unfold G_sane01
 rw [show ([40, 102, 32, 49, 32, 34, 97, 92, 110, 98, 34, 32, 40, 103, 41, 41] : List UInt8) = text1 from rfl, one1_val]
 simp only [Option.bind_some, decide_true, cond_true, Fm.eta_eq, size_val hbig, depth_val hbig, head_val]
 rfl
end Go.Ab

set_option maxRecDepth 100000
namespace Go.Ab
open Go Go.RowKit Go.Proofs
end Go.Ab

set_option maxRecDepth 100000
namespace Go.Ab
open Go Go.RowKit Go.Proofs
theorem Up.get {R : Type} {o : Option R} {v : R} (h : Up False o v) : o = some v := h.elim id fun h => h.2.elim
theorem byteAt_in {t : List UInt8} {i : Nat} (h : i < t.length) : byteAt t (i : Int) = (t[i].toNat : Int) := by
 unfold byteAt; simp [h]
theorem visible_val (c : UInt8) : G_visible (c.toNat : Int) = some (!outsideS c) := by
 have : ∀ n : Fin 256, G_visible ((UInt8.ofFin n).toNat : Int) = some (!outsideS (UInt8.ofFin n)) := by decide +kernel
 exact this c.toFin
theorem digitB_eq (c : UInt8) : digitB c = (decide (48 ≤ c.toNat) && decide (c.toNat ≤ 57)) := by
 have : ∀ n : Fin 256, digitB (UInt8.ofFin n) = (decide (48 ≤ (UInt8.ofFin n).toNat) && decide ((UInt8.ofFin n).toNat ≤ 57)) := by decide +kernel
 exact this c.toFin
theorem digits_loop (s : List UInt8) (hs : s.length ≤ 4611686018427387000) :
  Option.bind (α := Step (((List UInt8) × Unit) × (Unit)) (Bool))
 (loopM (L := ((List UInt8) × Int × Unit) × (Unit)) (R := Step (((List UInt8) × Unit) × (Unit)) (Bool)) (fun d3 => (
 let v0_4 := d3.1.1
 let v3_5 := d3.1.2.1
 cond (decide (v3_5 < (v0_4.length : Int))) (cond (ixOK v3_5 v0_4.length) (cond ((ixOK v3_5 v0_4.length) || !(!(decide (byteAt v0_4 v3_5 < 48)))) (cond (cond (decide (byteAt v0_4 v3_5 < 48)) true (decide (byteAt v0_4 v3_5 > 57))) (some (Step.done (Step.done false))) (some (Step.next ((v0_4, IntKind.wrap .i64 (v3_5 + 1), ()), ())))) none) none) (some (Step.done (Step.next ((v0_4, ()), ())))))) ((s, 0, ()), ())) (fun qd6 => match qd6 with
 | .next d6 => (
 let v0_7 := d6.1.1
 some (!decide (v0_7 = [])))
 | .done r => some r) = some (!decide (s = []) && s.all digitB) := by
 refine Up.get ?_
 have h := loop_ix (N := False) (F := fun qd6 : Step (((List UInt8) × Unit) × (Unit)) (Bool) => match qd6 with
 | .next d6 => (
 let v0_7 := d6.1.1
 some (!decide (v0_7 = [])))
 | .done r => some r) (b := (fun d3 : ((List UInt8) × Int × Unit) × (Unit) => (
 let v0_4 := d3.1.1
 let v3_5 := d3.1.2.1
 cond (decide (v3_5 < (v0_4.length : Int))) (cond (ixOK v3_5 v0_4.length) (cond ((ixOK v3_5 v0_4.length) || !(!(decide (byteAt v0_4 v3_5 < 48)))) (cond (cond (decide (byteAt v0_4 v3_5 < 48)) true (decide (byteAt v0_4 v3_5 > 57))) (some (Step.done (Step.done false))) (some (Step.next ((v0_4, IntKind.wrap .i64 (v3_5 + 1), ()), ())))) none) none) (some (Step.done (Step.next ((v0_4, ()), ()))))))) (fun i => ((s, (i : Int), ()), ())) (fun i => (!decide (s = []) && (s.drop i).all digitB)) s.length (fun i hi => ?_) ?_
 ·simpa using h
 ·have e1 : decide ((i : Int) < (s.length : Int)) = true := by simp [hi]
  have e2 : ixOK (i : Int) s.length = true := ixOK_iff.2 (by omega)
  have e3 : decide (s = []) = false := by
   apply decide_eq_false
   intro h
   simp [h] at hi
  rw [List.drop_eq_getElem_cons hi]
  simp only [e1, e2, e3, cond_true, Bool.true_or, byteAt_in hi, wrapN (show i < 4611686018427387904 by omega), List.all_cons, Bool.not_false, Bool.true_and]
  by_cases c : digitB s[i] = true
  ·have c' := c
   rw [digitB_eq] at c'
   simp only [Bool.and_eq_true, decide_eq_true_eq] at c'
   refine .inl ⟨?_, by rw [c]; simp⟩
   have a1 : ¬ ((s[i].toNat : Int) < 48) := by omega
   have a2 : ¬ ((s[i].toNat : Int) > 57) := by omega
   simp [a1, a2]
  ·refine .inr (.inl ⟨.done false, ?_, .of (by simp [c])⟩)
   rw [digitB_eq] at c
   by_cases a1 : ((s[i].toNat : Int) < 48)
   ·simp [a1]
   ·have a2 : ((s[i].toNat : Int) > 57) := by
     simp only [Bool.and_eq_true, decide_eq_true_eq] at c
     omega
    simp [a1, a2]
 ·refine ⟨.next ((s, ()), ()), by simp, .of (by simp)⟩
theorem digits_val {t : List UInt8} (ht : t.length ≤ 4611686018427387000) : G_digits t = some (numericS t) := by
 unfold G_digits
 rcases t with _ | ⟨c, _ | ⟨d, r⟩⟩
 ·simp only [List.length_nil]
  show Option.bind (some ((([] : List UInt8), ()), ())) _ = _
  simp only [Option.bind_some]
  refine (digits_loop [] (by simp)).trans ?_
  rfl
 ·have e2 : decide (([c].length : Int) > 1) = false := by simp
  simp only [e2, Bool.not_false, Bool.or_true, cond_true, cond_false, Option.bind_some]
  refine (digits_loop [c] (by simp)).trans ?_
  congr 1
  unfold numericS cutMinus
  by_cases h : c = 45
  ·subst h; simp [digitB]; decide
  ·simp [h]
 ·have e0 : ixOK 0 (c :: d :: r).length = true := ixOK_iff.2 (by simp only [List.length_cons]; omega)
  have e2 : decide (((c :: d :: r).length : Int) > 1) = true := by simp only [List.length_cons]; apply decide_eq_true; omega
  have e3 : byteAt (c :: d :: r) 0 = (c.toNat : Int) := byteAt_in (t := c :: d :: r) (i := 0) (by simp)
  simp only [List.length_cons] at ht
  simp only [e0, e2, e3, cond_true, Bool.true_or]
  by_cases h : c = 45
  ·subst h
   have e4 : slOK 1 (((45 : UInt8) :: d :: r).length : Int) ((45 : UInt8) :: d :: r).length = true := by simp [slOK]; omega
   have e5 : decide (((45 : UInt8).toNat : Int) = 45) = true := by decide
   have e6 : List.take ((((45 : UInt8) :: d :: r).length : Int).toNat - (1 : Int).toNat) (List.drop (1 : Int).toNat ((45 : UInt8) :: d :: r)) = d :: r := by
    simp only [List.length_cons, Int.toNat_one, Int.toNat_natCast, List.drop_succ_cons, List.drop_zero]
    apply List.take_of_length_le
    simp
   simp only [e4, e5, e6, cond_true, Option.bind_some]
   refine (digits_loop (d :: r) (by simp only [List.length_cons]; omega)).trans ?_
   simp [numericS, cutMinus]
  ·have e5 : decide ((c.toNat : Int) = 45) = false := by
    apply decide_eq_false
    intro hc
    exact h (UInt8.toNat_inj.1 (by simpa using (by omega : c.toNat = 45)))
   simp only [e5, cond_false, Option.bind_some]
   refine (digits_loop (c :: d :: r) (by simp only [List.length_cons]; omega)).trans ?_
   congr 1
   simp [numericS, cutMinus, h]
theorem isWord_val {t : List UInt8} (ht : t.length ≤ 4611686018427387000) : G_isWord t = some (wordS t && t.all fun c => !outsideS c) := by
 refine Up.get ?_
 unfold G_isWord
 refine loop_ix (fun i => ((t, (i : Int), ()), ())) (fun i => wordS t && (t.drop i).all fun c => !outsideS c) t.length (fun i hi => ?_) ?_
 ·have e1 : decide ((i : Int) < (t.length : Int)) = true := by simp [hi]
  have e2 : ixOK (i : Int) t.length = true := ixOK_iff.2 (by omega)
  rw [List.drop_eq_getElem_cons hi]
  simp only [e1, e2, cond_true, byteAt_in hi, visible_val, Option.bind_some, wrapN (show i < 4611686018427387904 by omega), List.all_cons]
  cases ho : outsideS t[i] with
  | false => exact .inl ⟨by simp, by simp⟩
  | true => exact .inr (.inl ⟨.done false, by simp, .of (by simp)⟩)
 ·refine ⟨.next ((t, ()), ()), by simp, .of ?_⟩
  simp only [List.drop_length, List.all_nil, Bool.and_true]
  unfold wordS
  by_cases h1 : t = []
  ·subst h1; simp
  ·have a1 : decide ((t.length : Int) ≥ 1) = true := by
    have := List.length_pos_iff.2 h1
    apply decide_eq_true; omega
   by_cases h2 : t.length ≤ 30
   ·have a2 : decide ((t.length : Int) ≤ 30) = true := by apply decide_eq_true; omega
    simp [a1, a2, h1, h2, digits_val ht]
   ·have a2 : decide ((t.length : Int) ≤ 30) = false := by apply decide_eq_false; omega
    simp [a1, a2, h1, h2]
def badB (c : UInt8) : Bool := badR c.toNat
theorem idxR_bad (s : List UInt8) : ∀ (f pos : Nat), s.length < pos + f → (0 ≤ idxR badR s f pos ↔ (s.drop pos).any badB = true)
 | 0, pos, h => by
  rw [List.drop_eq_nil_of_le (by omega)]
  simp [idxR]
 | f + 1, pos, h => by
  unfold idxR
  by_cases hp : pos < s.length
  ·rw [if_pos hp, List.drop_eq_getElem_cons hp, List.any_cons]
   have hsz : pos < (⟨s.toArray⟩ : ByteArray).size := by show pos < s.toArray.size; simpa using hp
   have hel : ((⟨s.toArray⟩ : ByteArray)[pos]'hsz) = s[pos] := by simp [ByteArray.getElem_eq_getElem_data]
   by_cases h8 : s[pos].toNat < 128
   ·have hd := decode_ascii ⟨s.toArray⟩ pos hsz (by rw [hel]; exact h8)
    rw [hd, hel]
    show (0 ≤ (if badR ((s[pos].toNat : Nat) : Int) = true then ((pos : Nat) : Int) else _) ↔ _)
    by_cases hb : badB s[pos] = true
    ·have hb' := hb
     unfold badB at hb'
     rw [if_pos hb', hb]
     simp
    ·have hb' := hb
     unfold badB at hb'
     rw [if_neg hb', idxR_bad s f (pos + 1) (by omega)]
     simp [hb]
   ·have hd := decode_high ⟨s.toArray⟩ pos hsz (by rw [hel]; omega)
    have hb1 : badR (Utf8.decode ⟨s.toArray⟩ pos).1 = true := by
     have := hd.1
     unfold badR
     have a1 : ¬ (((Utf8.decode ⟨s.toArray⟩ pos).1 : Int) = 10) := by omega
     have a2 : (126 < ((Utf8.decode ⟨s.toArray⟩ pos).1 : Int)) := by omega
     simp only [a1, a2, decide_true, decide_false, Bool.not_false, Bool.or_true, Bool.and_true]
    have hb2 : badB s[pos] = true := by
     unfold badB badR
     have a1 : ¬ ((s[pos].toNat : Int) = 10) := by omega
     have a2 : (126 < (s[pos].toNat : Int)) := by omega
     simp only [a1, a2, decide_true, decide_false, Bool.not_false, Bool.or_true, Bool.and_true]
    rw [if_pos hb1, hb2]
    simp
  ·rw [if_neg hp, List.drop_eq_nil_of_le (by omega)]
   simp
theorem badT_any (t : List UInt8) : badT t = t.any badB := by
 unfold badT
 have := idxR_bad t (t.length + 1) 0 (by omega)
 rw [List.drop_zero] at this
 cases h : t.any badB with
 | true => exact decide_eq_true (this.2 h)
 | false => exact decide_eq_false fun hc => by have := this.1 hc; rw [h] at this; cases this
theorem isText_val {t : List UInt8} (ht : t.length ≤ 4611686018427387000) : G_isText t = some (decide (t.length ≤ 2000) && !badT t) := by
 refine Up.get ?_
 rw [badT_any]
 unfold G_isText
 refine loop_ix (fun i => ((t, (i : Int), ()), ())) (fun i => decide (t.length ≤ 2000) && !(t.drop i).any badB) t.length (fun i hi => ?_) ?_
 ·have e1 : decide ((i : Int) < (t.length : Int)) = true := by simp [hi]
  have e2 : ixOK (i : Int) t.length = true := ixOK_iff.2 (by omega)
  rw [List.drop_eq_getElem_cons hi]
  simp only [e1, e2, cond_true, Bool.true_or, byteAt_in hi, wrapN (show i < 4611686018427387904 by omega), List.any_cons]
  have hb : badB t[i] = (cond (!decide ((t[i].toNat : Int) = 10)) (cond (decide ((t[i].toNat : Int) < 32)) true (decide ((t[i].toNat : Int) > 126))) false) := by
   unfold badB badR
   by_cases a1 : (t[i].toNat : Int) = 10
   ·simp only [a1, decide_true, Bool.not_true, cond_false, Bool.false_and]
   ·by_cases a2 : (t[i].toNat : Int) < 32
    ·simp only [a1, a2, decide_true, decide_false, Bool.not_false, cond_true, Bool.true_or, Bool.and_true]
    ·simp only [a1, a2, decide_false, Bool.not_false, cond_true, cond_false, Bool.false_or, Bool.true_and, gt_iff_lt]
  rw [← hb]
  cases ho : badB t[i] with
  | false => exact .inl ⟨by simp, by simp⟩
  | true => exact .inr (.inl ⟨.done false, by simp, .of (by simp)⟩)
 ·refine ⟨.next ((t, ()), ()), by simp, .of ?_⟩
  simp
  omega
mutual
def fieldsF : Fm → Bool
 | .mk k n t l => leafS k n t l && fieldsL l
def fieldsL : List Fm → Bool
 | [] => true
 | f :: r => fieldsF f && fieldsL r
end
theorem fieldsF_eq (f : Fm) : fieldsF f = (leafS f.k f.n f.t f.l && fieldsL f.l) := by cases f; simp only [fieldsF]; rfl
theorem fields_up : ∀ k, ∀ f : Fm, f.big ≤ 4611686018427387000 → Up (k < f.big) (G_fields k f) (fieldsF f)
 | 0 => fun f hb => .inr ⟨by unfold G_fields; rfl, by have := big_pos f; omega⟩
 | k + 1 => fun f hb => by
  have hkb := big_kids f
  have hl := length_le_big f.l
  have htb : f.t.length < f.big := by cases f; simp only [Fm.big, Fm.t]; omega
  unfold G_fields
  rw [fieldsF_eq]
  generalize f.k = a
  generalize f.n = n
  generalize f.t = t at htb
  generalize f.l = l at hkb hl
  by_cases h0 : a = 0
  ·subst h0
   simp only [leafS, decide_true, decide_false, Bool.not_true, Bool.not_false, cond_true, cond_false, if_true, Int.reduceEq]
   cases l with
   | cons g r =>
    have : decide ((((g :: r).length : Nat) : Int) > 0) = true := by simp only [List.length_cons]; apply decide_eq_true; omega
    simp only [this, cond_true]
    exact .of (by simp)
   | nil =>
    by_cases ht : t = []
    ·subst ht
     exact .of (by simp [fieldsL])
    ·exact .of (by simp [ht])
  ·by_cases hn : n = 0
   ·subst hn
    by_cases h3 : a = 3
    ·subst h3
     simp only [leafS, decide_true, decide_false, Bool.not_true, Bool.not_false, cond_true, cond_false, if_true, Int.reduceEq, if_false]
     by_cases ht : t = []
     ·subst ht
      simp only [decide_true, Bool.not_true, Bool.true_and, cond_false]
      refine Up.bind (v := Step.done (fieldsL l)) ?_ (.of rfl)
      refine loop_ix (fun i => (((3, 0, [], l, ()), (i : Int), ()), ())) (fun i => (Step.done (fieldsL (l.drop i)) : Step ((Unit) × (Unit)) (Bool))) l.length (fun i hi => ?_) ?_
      ·have e1 : decide ((i : Int) < (l.length : Int)) = true := by simp [hi]
       have e2 : ixOK (i : Int) l.length = true := ixOK_iff.2 (by omega)
       have hm := big_mem (List.getElem_mem hi)
       rw [List.drop_eq_getElem_cons hi]
       simp only [e1, e2, cond_true, Int.toNat_natCast, getD_in hi, Fm.eta_eq, wrapN (show i < 4611686018427387904 by omega), fieldsL]
       rcases fields_up k l[i] (by omega) with h | ⟨h, hn⟩
       ·rw [h]
        cases fieldsF l[i] with
        | true => exact .inl ⟨by simp, by simp⟩
        | false => exact .inr (.inl ⟨.done (.done false), by simp, .of (by simp)⟩)
       ·rw [h]; exact .inr (.inr ⟨rfl, by omega⟩)
      ·refine ⟨.next ((), ()), by simp, .of ?_⟩
       simp [fieldsL]
     ·exact .of (by simp [ht])
    ·cases l with
     | cons g r =>
      have : decide ((((g :: r).length : Nat) : Int) > 0) = true := by simp only [List.length_cons]; apply decide_eq_true; omega
      have hf : leafS a 0 t (g :: r) = false := by unfold leafS; simp [h0, h3]
      simp only [hf, h0, h3, this, decide_true, decide_false, Bool.not_true, Bool.not_false, cond_true, cond_false]
      exact .of (by simp)
     | nil =>
      by_cases h1 : a = 1
      ·subst h1
       refine .of ?_
       simp [isWord_val (show t.length ≤ 4611686018427387000 by omega), leafS, fieldsL]
      ·by_cases h2 : a = 2
       ·subst h2
        refine .of ?_
        simp [isText_val (show t.length ≤ 4611686018427387000 by omega), leafS, fieldsL]
       ·refine .of ?_
        have hf : leafS a 0 t [] = false := by unfold leafS; simp [h0, h1, h2, h3]
        simp only [hf, h0, h1, h2, h3, decide_true, decide_false, Bool.not_true, Bool.not_false, cond_true, cond_false, Option.bind_some, Bool.false_and]
        cases decide (t = []) <;> simp
   ·have hf : leafS a n t l = false := by unfold leafS; simp [h0, hn]
    refine .of ?_
    simp [h0, hn, hf]
theorem fields_val {f : Fm} (hb : f.big ≤ 4611686018427387000) : L_fields f = some (fieldsF f) := limF_up (b := f.big) fun k => fields_up k f hb
theorem refSize_up : ∀ k, ∀ f : Fm, f.big ≤ 4611686018427387000 → Up (k < f.big) (G_refSize k f) (f.size : Int)
 | 0 => fun f hb => .inr ⟨by unfold G_refSize; rfl, by have := big_pos f; omega⟩
 | k + 1 => fun f hb => by
  obtain ⟨a, n, t, l⟩ := f
  have hs := size_le (.mk a n t l)
  have hkb := big_kids (.mk a n t l)
  have hln := length_le_big l
  simp only [Fm.l] at hkb
  unfold G_refSize
  simp only [Fm.k, Fm.n, Fm.t, Fm.l]
  by_cases h3 : a = 3
  ·subst h3
   simp only [Fm.size, if_true] at hs ⊢
   refine loop_ix (fun i => (((3, n, t, l, ()), ((1 + Fm.sizeL (l.take i) : Nat) : Int), (i : Int), ()), ())) (fun i => ((1 + Fm.sizeL l : Nat) : Int)) l.length (fun i hi => ?_) ?_
   ·have e1 : decide ((i : Int) < (l.length : Int)) = true := by simp [hi]
    have e2 : ixOK (i : Int) l.length = true := ixOK_iff.2 (by omega)
    have hm := big_mem (List.getElem_mem hi)
    have h2 := sizeL_take l hi
    have h3 := sizeL_take_le l (i + 1)
    simp only [decide_true, e1, e2, cond_true, Int.toNat_natCast, getD_in hi, Fm.eta_eq, wrapN (show i < 4611686018427387904 by omega)]
    rcases refSize_up k l[i] (by omega) with h | ⟨h, hn⟩
    ·rw [h]
     refine .inl ⟨?_, trivial⟩
     simp only [Option.bind_some]
     rw [w64 (by omega) (by omega)]
     have : ((1 + Fm.sizeL (l.take i) : Nat) : Int) + (l[i].size : Int) = ((1 + Fm.sizeL (l.take (i + 1)) : Nat) : Int) := by omega
     rw [this]
    ·rw [h]; exact .inr (.inr ⟨rfl, by omega⟩)
   ·refine ⟨((((1 + Fm.sizeL (l.take l.length) : Nat) : Int), ()), ()), by simp, .of ?_⟩
    simp
  ·rw [loopM_done (r := ((1, ()), ())) (by simp [h3])]
   exact .of (by simp [Fm.size, h3])
theorem refSize_val {f : Fm} (hb : f.big ≤ 4611686018427387000) : L_refSize f = some (f.size : Int) := limF_up (b := f.big) fun k => refSize_up k f hb
theorem refDepth_up : ∀ k, ∀ f : Fm, f.big ≤ 4611686018427387000 → Up (k < f.big) (G_refDepth k f) (f.depth : Int)
 | 0 => fun f hb => .inr ⟨by unfold G_refDepth; rfl, by have := big_pos f; omega⟩
 | k + 1 => fun f hb => by
  obtain ⟨a, n, t, l⟩ := f
  have hs := depth_le (.mk a n t l)
  have hkb := big_kids (.mk a n t l)
  have hln := length_le_big l
  simp only [Fm.l] at hkb
  unfold G_refDepth
  simp only [Fm.k, Fm.n, Fm.t, Fm.l]
  by_cases h3 : a = 3
  ·subst h3
   simp only [Fm.depth, if_true] at hs ⊢
   refine loop_ix (fun i => (((3, n, t, l, ()), (Fm.depthL (l.take i) : Int), (i : Int), ()), ())) (fun i => ((1 + Fm.depthL l : Nat) : Int)) l.length (fun i hi => ?_) ?_
   ·have e1 : decide ((i : Int) < (l.length : Int)) = true := by simp [hi]
    have e2 : ixOK (i : Int) l.length = true := ixOK_iff.2 (by omega)
    have hm := big_mem (List.getElem_mem hi)
    have h2 := depthL_take l hi
    simp only [decide_true, e1, e2, cond_true, Int.toNat_natCast, getD_in hi, Fm.eta_eq, wrapN (show i < 4611686018427387904 by omega)]
    rcases refDepth_up k l[i] (by omega) with h | ⟨h, hn⟩
    ·rw [h]
     refine .inl ⟨?_, trivial⟩
     simp only [Option.bind_some]
     have : (if (l[i].depth : Int) > (Fm.depthL (l.take i) : Int) then (l[i].depth : Int) else (Fm.depthL (l.take i) : Int)) = (Fm.depthL (l.take (i + 1)) : Int) := by
      rw [h2]; split <;> omega
     rw [this]
    ·rw [h]; exact .inr (.inr ⟨rfl, by omega⟩)
   ·refine ⟨(((Fm.depthL (l.take l.length) : Int), ()), ()), by simp, .of ?_⟩
    simp only [List.take_length]
    rw [w64 (by omega) (by omega)]
    congr 1; omega
  ·rw [loopM_done (r := ((0, ()), ())) (by simp [h3])]
   exact .of (by simp only [Option.bind_some, Fm.depth, h3, if_false]; rfl)
theorem refDepth_val {f : Fm} (hb : f.big ≤ 4611686018427387000) : L_refDepth f = some (f.depth : Int) := limF_up (b := f.big) fun k => refDepth_up k f hb
theorem leafS_kids {k n : Int} {t : List UInt8} {l : List Fm} (h : leafS k n t l = true) : k = 3 ∨ l = [] := by
 unfold leafS at h
 by_cases h3 : k = 3
 ·exact .inl h3
 ·by_cases hl : l = []
  ·exact .inr hl
  ·exfalso
   revert h
   split
   ·simp [hl]
   ·split
    ·simp [hl]
    ·split
     ·simp [hl]
     ·simp [h3]
theorem validLS_iff : ∀ (l : List Fm), (∀ f ∈ l, ∀ p d : Int, 0 ≤ p → 0 ≤ d → (validS f p d).1 = (fieldsF f && (decide ((f.size : Int) ≤ p) && decide ((f.depth : Int) ≤ d))) ∧ ((validS f p d).1 = true → (validS f p d).2 = p - f.size)) →
  ∀ p d : Int, 0 ≤ p → 0 ≤ d → (validLS l p d).1 = (fieldsL l && (decide ((Fm.sizeL l : Int) ≤ p) && decide ((Fm.depthL l : Int) ≤ d))) ∧ ((validLS l p d).1 = true → (validLS l p d).2 = p - Fm.sizeL l)
 | [], _, p, d, hp, hd => by
  simp only [validLS, fieldsL, Fm.sizeL, Fm.depthL]
  refine ⟨?_, fun _ => by simp⟩
  simp [hp, hd]
 | f :: r, h, p, d, hp, hd => by
  obtain ⟨h1, h2⟩ := h f (by simp) p d hp hd
  simp only [validLS, fieldsL, Fm.sizeL, Fm.depthL]
  by_cases hv : (validS f p d).1 = true
  ·rw [if_pos hv]
   have h2' := h2 hv
   rw [hv] at h1
   have h1' := h1.symm
   simp only [Bool.and_eq_true, decide_eq_true_eq] at h1'
   obtain ⟨a1, a2, a3⟩ := h1'
   obtain ⟨b1, b2⟩ := validLS_iff r (fun g hg => h g (by simp [hg])) (validS f p d).2 d (by omega) hd
   refine ⟨?_, fun ht => by have := b2 ht; omega⟩
   rw [b1, a1, h2']
   simp only [Bool.true_and]
   congr 2
   ·apply decide_eq_decide.2; omega
   ·apply decide_eq_decide.2; omega
  ·rw [if_neg hv]
   have hv' : (validS f p d).1 = false := by simpa using hv
   rw [hv'] at h1
   refine ⟨?_, fun h => by cases h⟩
   simp only
   symm
   by_cases a1 : fieldsF f = true
   ·by_cases a2 : (f.size : Int) ≤ p
    ·have a3 : ¬ (f.depth : Int) ≤ d := fun a3 => by rw [a1, decide_eq_true a2, decide_eq_true a3] at h1; cases h1
     have : ¬ (((max f.depth (Fm.depthL r) : Nat) : Int) ≤ d) := by omega
     simp only [this, decide_false, Bool.and_false]
    ·have : ¬ (((f.size + Fm.sizeL r : Nat) : Int) ≤ p) := by omega
     simp only [this, decide_false, Bool.false_and, Bool.and_false]
   ·simp [a1]
theorem validS_iff : ∀ f : Fm, ∀ p d : Int, 0 ≤ p → 0 ≤ d → (validS f p d).1 = (fieldsF f && (decide ((f.size : Int) ≤ p) && decide ((f.depth : Int) ≤ d))) ∧ ((validS f p d).1 = true → (validS f p d).2 = p - f.size) := Fm.ind fun k n t l ih p d hp hd => by
 have eS : (Fm.mk k n t l).size = 1 + (if k = 3 then Fm.sizeL l else 0) := by simp only [Fm.size]
 have eD : (Fm.mk k n t l).depth = 1 + (if k = 3 then Fm.depthL l else 0) := by simp only [Fm.depth]
 generalize (Fm.mk k n t l).size = S at eS ⊢
 generalize (Fm.mk k n t l).depth = D at eD ⊢
 simp only [validS, fieldsF]
 by_cases h1 : p - 1 < 0
 ·rw [if_pos (.inl h1)]
  refine ⟨?_, fun h => by cases h⟩
  have : ¬ ((S : Int) ≤ p) := by omega
  simp only [this, decide_false, Bool.false_and, Bool.and_false]
 ·by_cases h2 : d = 0
  ·rw [if_pos (.inr (.inl h2))]
   refine ⟨?_, fun h => by cases h⟩
   have : ¬ ((D : Int) ≤ d) := by omega
   simp only [this, decide_false, Bool.and_false]
  ·by_cases h3 : leafS k n t l = false
   ·rw [if_pos (.inr (.inr h3)), h3]
    exact ⟨by simp, fun h => by cases h⟩
   ·rw [if_neg (fun h => h.elim h1 fun h => h.elim h2 h3)]
    have h3' : leafS k n t l = true := by simpa using h3
    obtain ⟨b1, b2⟩ := validLS_iff l ih (p - 1) (d - 1) (by omega) (by omega)
    have hs : (if k = 3 then Fm.sizeL l else 0) = Fm.sizeL l ∧ (if k = 3 then Fm.depthL l else 0) = Fm.depthL l := by
     rcases leafS_kids h3' with rfl | rfl
     ·simp
     ·simp [Fm.sizeL, Fm.depthL]
    rw [hs.1] at eS
    rw [hs.2] at eD
    rw [h3', b1]
    refine ⟨?_, fun ht => by rw [← b1] at ht; have := b2 ht; omega⟩
    simp only [Bool.true_and]
    congr 2
    ·apply decide_eq_decide.2; omega
    ·apply decide_eq_decide.2; omega
theorem refValid_val {f : Fm} (hb : f.big ≤ 4611686018427387000) : G_refValid f = some (validF f) := by
 unfold G_refValid G_small1 validF
 rw [(validS_iff f 20000 100 (by omega) (by omega)).1]
 simp only [Fm.eta_eq, fields_val hb, refSize_val hb, refDepth_val hb, Option.bind_some]
 cases fieldsF f with
 | false => rfl
 | true =>
  by_cases h : (f.size : Int) ≤ 20000
  ·simp [h]
  ·simp [h]
end Go.Ab
