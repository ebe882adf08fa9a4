/-
  FORMS: the reference's parts of a form, and a form with another part.
-/
import Derived.Test.YtdagildojaagiaaGreatDoorZ13
set_option linter.unusedVariables false
set_option linter.unusedSimpArgs false
set_option maxRecDepth 100000
namespace Go.Ab
open Go Go.RowKit Go.Proofs
noncomputable def G_insSort (x1 : Int) (x2 : Int) (o0 : List Fm) : Option ((Unit) × ((List Fm) × Unit)) := (
 loopM (L := (Unit × Int × Int × Unit × Int × Unit) × ((List Fm) × Unit)) (R := (Unit) × ((List Fm) × Unit)) (fun d1 => (
 let l2 := d1.2.1
 let v1_3 := d1.1.2.1
 let v2_4 := d1.1.2.2.1
 let v8_5 := d1.1.2.2.2.2.1
 cond (decide (v8_5 < v2_4)) (Option.bind (α := (Unit × Int × Int × Unit × Int × Unit) × ((List Fm) × Unit))
 (loopM (L := (Unit × Int × Int × Unit × Int × Int × Unit) × ((List Fm) × Unit)) (R := (Unit × Int × Int × Unit × Int × Unit) × ((List Fm) × Unit)) (fun d6 => (
 let l7 := d6.2.1
 let v1_8 := d6.1.2.1
 let v2_9 := d6.1.2.2.1
 let v8_10 := d6.1.2.2.2.2.1
 let v9_11 := d6.1.2.2.2.2.2.1
 cond ((ixOK v9_11 l7.length) || !(decide (v9_11 > v1_8))) (cond ((decide (v9_11.toNat < l7.length)) || !(decide (v9_11 > v1_8))) (cond ((ixOK (IntKind.wrap .i64 (v9_11 - 1)) l7.length) || !(decide (v9_11 > v1_8))) (cond ((decide ((IntKind.wrap .i64 (v9_11 - 1)).toNat < l7.length)) || !(decide (v9_11 > v1_8))) (Option.bind (α := Int) (cond (decide (v9_11 > v1_8)) (L_compare (Fm.eta (l7.getD v9_11.toNat (Fm.mk 0 0 [] []))) (Fm.eta (l7.getD ((IntKind.wrap .i64 (v9_11 - 1)).toNat) (Fm.mk 0 0 [] [])))) (some (0 : Int))) fun r12 => (
 cond (cond (decide (v9_11 > v1_8)) (decide (r12 < 0)) false) (cond (ixOK (IntKind.wrap .i64 (v9_11 - 1)) l7.length) (cond (decide ((IntKind.wrap .i64 (v9_11 - 1)).toNat < l7.length)) (cond (ixOK v9_11 l7.length) (cond (decide (v9_11.toNat < l7.length)) (cond (ixOK v9_11 l7.length) (cond (decide (v9_11.toNat < l7.length)) (cond (ixOK (IntKind.wrap .i64 (v9_11 - 1)) l7.length) (cond (decide ((IntKind.wrap .i64 (v9_11 - 1)).toNat < (l7.set v9_11.toNat (Fm.eta (l7.getD ((IntKind.wrap .i64 (v9_11 - 1)).toNat) (Fm.mk 0 0 [] [])))).length)) (some (Step.next (((), v1_8, v2_9, (), v8_10, IntKind.wrap .i64 (v9_11 - 1), ()), ((l7.set v9_11.toNat (Fm.eta (l7.getD ((IntKind.wrap .i64 (v9_11 - 1)).toNat) (Fm.mk 0 0 [] [])))).set ((IntKind.wrap .i64 (v9_11 - 1)).toNat) (Fm.eta (l7.getD v9_11.toNat (Fm.mk 0 0 [] []))), ())))) none) none) none) none) none) none) none) none) (some (Step.done (((), v1_8, v2_9, (), v8_10, ()), (l7, ())))))) none) none) none) none)) (((), v1_3, v2_4, (), v8_5, v8_5, ()), (l2, ()))) fun d13 => (
 let l14 := d13.2.1
 let v1_15 := d13.1.2.1
 let v2_16 := d13.1.2.2.1
 let v8_17 := d13.1.2.2.2.2.1
 some (Step.next (((), v1_15, v2_16, (), IntKind.wrap .i64 (v8_17 + 1), ()), (l14, ()))))) (some (Step.done ((), (l2, ())))))) (((), x1, x2, (), IntKind.wrap .i64 (x1 + 1), ()), (o0, ())))
def A_insSort : An := .seq (.leaf) (.block (.loop { env := [(0, (.gs 0 .form)), (1, (.d (.int .i64))), (2, (.d (.int .i64))), (3, (.c (.fn (.func 84) [] []))), (8, (.d (.int .i64)))], objs := [(true, .tg .form 26)] } (.seq (.leaf) (.join false { env := [(0, (.gs 0 .form)), (1, (.d (.int .i64))), (2, (.d (.int .i64))), (3, (.c (.fn (.func 84) [] []))), (8, (.d (.int .i64)))], objs := [(true, .tg .form 26)] } (.block (.seq (.leaf) (.block (.loop { env := [(0, (.gs 0 .form)), (1, (.d (.int .i64))), (2, (.d (.int .i64))), (3, (.c (.fn (.func 84) [] []))), (8, (.d (.int .i64))), (9, (.d (.int .i64)))], objs := [(true, .tg .form 26)] } (.leaf))))) (.leaf)))))
def H_insSort : Nat → RH := fun _ => {}
noncomputable def S_insSort : Sig := .o { pre := [(false, .tg .form 26)], args := [(.gs 0 .form), (.d (.int .i64)), (.d (.int .i64)), (.c (.fn (.func 84) [] []))], post := [(true, .tg .form 26)], res := (.tup []), f := fun x => G_insSort x.1.2.1 x.1.2.2.1 x.2.1 }
theorem S_insSort_ok : SigOK CX 157 S_insSort := sigO_of (l := [(84, S_compare_l)]) ⟨S_compare_l_ok, trivial⟩ (hint := H_insSort) (an := A_insSort) (by kernel_rfl) (fun x => by kernel_rfl)
noncomputable def G_siftDown (x1 : Int) (x2 : Int) (x3 : Int) (o0 : List Fm) : Option ((Unit) × ((List Fm) × Unit)) := (
 loopM (L := (Unit × Int × Int × Unit × Int × Unit) × ((List Fm) × Unit)) (R := (Unit) × ((List Fm) × Unit)) (fun d1 => (
 let l2 := d1.2.1
 let v2_3 := d1.1.2.1
 let v3_4 := d1.1.2.2.1
 let v10_5 := d1.1.2.2.2.2.1
 cond (decide (IntKind.wrap .i64 (IntKind.wrap .i64 (2 * v10_5) + 1) ≥ v2_3)) (some (Step.done ((), (l2, ())))) (Option.bind (α := (Unit × Int × Int × Unit × Int × Int × Unit) × ((List Fm) × Unit))
 (cond ((ixOK (IntKind.wrap .i64 (v3_4 + IntKind.wrap .i64 (IntKind.wrap .i64 (2 * v10_5) + 1))) l2.length) || !(decide (IntKind.wrap .i64 (IntKind.wrap .i64 (IntKind.wrap .i64 (2 * v10_5) + 1) + 1) < v2_3))) (cond ((decide ((IntKind.wrap .i64 (v3_4 + IntKind.wrap .i64 (IntKind.wrap .i64 (2 * v10_5) + 1))).toNat < l2.length)) || !(decide (IntKind.wrap .i64 (IntKind.wrap .i64 (IntKind.wrap .i64 (2 * v10_5) + 1) + 1) < v2_3))) (cond ((ixOK (IntKind.wrap .i64 (IntKind.wrap .i64 (v3_4 + IntKind.wrap .i64 (IntKind.wrap .i64 (2 * v10_5) + 1)) + 1)) l2.length) || !(decide (IntKind.wrap .i64 (IntKind.wrap .i64 (IntKind.wrap .i64 (2 * v10_5) + 1) + 1) < v2_3))) (cond ((decide ((IntKind.wrap .i64 (IntKind.wrap .i64 (v3_4 + IntKind.wrap .i64 (IntKind.wrap .i64 (2 * v10_5) + 1)) + 1)).toNat < l2.length)) || !(decide (IntKind.wrap .i64 (IntKind.wrap .i64 (IntKind.wrap .i64 (2 * v10_5) + 1) + 1) < v2_3))) (Option.bind (α := Int) (cond (decide (IntKind.wrap .i64 (IntKind.wrap .i64 (IntKind.wrap .i64 (2 * v10_5) + 1) + 1) < v2_3)) (L_compare (Fm.eta (l2.getD ((IntKind.wrap .i64 (v3_4 + IntKind.wrap .i64 (IntKind.wrap .i64 (2 * v10_5) + 1))).toNat) (Fm.mk 0 0 [] []))) (Fm.eta (l2.getD ((IntKind.wrap .i64 (IntKind.wrap .i64 (v3_4 + IntKind.wrap .i64 (IntKind.wrap .i64 (2 * v10_5) + 1)) + 1)).toNat) (Fm.mk 0 0 [] [])))) (some (0 : Int))) fun r6 => (
 cond (cond (decide (IntKind.wrap .i64 (IntKind.wrap .i64 (IntKind.wrap .i64 (2 * v10_5) + 1) + 1) < v2_3)) (decide (r6 < 0)) false) (some (((), v2_3, v3_4, (), v10_5, IntKind.wrap .i64 (IntKind.wrap .i64 (IntKind.wrap .i64 (2 * v10_5) + 1) + 1), ()), (l2, ()))) (some (((), v2_3, v3_4, (), v10_5, IntKind.wrap .i64 (IntKind.wrap .i64 (2 * v10_5) + 1), ()), (l2, ()))))) none) none) none) none) fun d7 => (
 let l8 := d7.2.1
 let v2_9 := d7.1.2.1
 let v3_10 := d7.1.2.2.1
 let v10_11 := d7.1.2.2.2.2.1
 let v11_12 := d7.1.2.2.2.2.2.1
 cond (ixOK (IntKind.wrap .i64 (v3_10 + v10_11)) l8.length) (cond (decide ((IntKind.wrap .i64 (v3_10 + v10_11)).toNat < l8.length)) (cond (ixOK (IntKind.wrap .i64 (v3_10 + v11_12)) l8.length) (cond (decide ((IntKind.wrap .i64 (v3_10 + v11_12)).toNat < l8.length)) (Option.bind (α := Int) (L_compare (Fm.eta (l8.getD ((IntKind.wrap .i64 (v3_10 + v10_11)).toNat) (Fm.mk 0 0 [] []))) (Fm.eta (l8.getD ((IntKind.wrap .i64 (v3_10 + v11_12)).toNat) (Fm.mk 0 0 [] [])))) fun r13 => (
 cond (!(decide (r13 < 0))) (some (Step.done ((), (l8, ())))) (cond (ixOK (IntKind.wrap .i64 (v3_10 + v11_12)) l8.length) (cond (decide ((IntKind.wrap .i64 (v3_10 + v11_12)).toNat < l8.length)) (cond (ixOK (IntKind.wrap .i64 (v3_10 + v10_11)) l8.length) (cond (decide ((IntKind.wrap .i64 (v3_10 + v10_11)).toNat < l8.length)) (cond (ixOK (IntKind.wrap .i64 (v3_10 + v10_11)) l8.length) (cond (decide ((IntKind.wrap .i64 (v3_10 + v10_11)).toNat < l8.length)) (cond (ixOK (IntKind.wrap .i64 (v3_10 + v11_12)) l8.length) (cond (decide ((IntKind.wrap .i64 (v3_10 + v11_12)).toNat < (l8.set ((IntKind.wrap .i64 (v3_10 + v10_11)).toNat) (Fm.eta (l8.getD ((IntKind.wrap .i64 (v3_10 + v11_12)).toNat) (Fm.mk 0 0 [] [])))).length)) (some (Step.next (((), v2_9, v3_10, (), v11_12, ()), ((l8.set ((IntKind.wrap .i64 (v3_10 + v10_11)).toNat) (Fm.eta (l8.getD ((IntKind.wrap .i64 (v3_10 + v11_12)).toNat) (Fm.mk 0 0 [] [])))).set ((IntKind.wrap .i64 (v3_10 + v11_12)).toNat) (Fm.eta (l8.getD ((IntKind.wrap .i64 (v3_10 + v10_11)).toNat) (Fm.mk 0 0 [] []))), ())))) none) none) none) none) none) none) none) none))) none) none) none) none)))) (((), x2, x3, (), x1, ()), (o0, ())))
def A_siftDown : An := .seq (.leaf) (.block (.loop { env := [(0, (.gs 0 .form)), (2, (.d (.int .i64))), (3, (.d (.int .i64))), (4, (.c (.fn (.func 84) [] []))), (10, (.d (.int .i64)))], objs := [(true, .tg .form 26)] } (.block (.seq (.leaf) (.seq (.leaf) (.join false { env := [(0, (.gs 0 .form)), (2, (.d (.int .i64))), (3, (.d (.int .i64))), (4, (.c (.fn (.func 84) [] []))), (10, (.d (.int .i64))), (11, (.d (.int .i64)))], objs := [(true, .tg .form 26)] } (.leaf) (.leaf)))))))
def H_siftDown : Nat → RH := fun _ => {}
noncomputable def S_siftDown : Sig := .o { pre := [(false, .tg .form 26)], args := [(.gs 0 .form), (.d (.int .i64)), (.d (.int .i64)), (.d (.int .i64)), (.c (.fn (.func 84) [] []))], post := [(true, .tg .form 26)], res := (.tup []), f := fun x => G_siftDown x.1.2.1 x.1.2.2.1 x.1.2.2.2.1 x.2.1 }
theorem S_siftDown_ok : SigOK CX 208 S_siftDown := sigO_of (l := [(84, S_compare_l)]) ⟨S_compare_l_ok, trivial⟩ (hint := H_siftDown) (an := A_siftDown) (by kernel_rfl) (fun x => by kernel_rfl)
noncomputable def G_heapSort (x1 : Int) (x2 : Int) (o0 : List Fm) : Option ((Unit) × ((List Fm) × Unit)) := (
 Option.bind (α := (Unit × Unit × Int × Int × Int × Unit) × ((List Fm) × Unit))
 (loopM (L := (Unit × Unit × Int × Int × Int × Int × Unit) × ((List Fm) × Unit)) (R := (Unit × Unit × Int × Int × Int × Unit) × ((List Fm) × Unit)) (fun d1 => (
 let l2 := d1.2.1
 let v8_3 := d1.1.2.2.1
 let v9_4 := d1.1.2.2.2.1
 let v10_5 := d1.1.2.2.2.2.1
 let v11_6 := d1.1.2.2.2.2.2.1
 cond (decide (v11_6 ≥ 0)) (Option.bind (α := (Unit) × ((List Fm) × Unit)) (G_siftDown v11_6 v10_5 v8_3 l2) fun r7 => (
 some (Step.next (((), (), v8_3, v9_4, v10_5, IntKind.wrap .i64 (v11_6 - 1), ()), (r7.2.1, ()))))) (some (Step.done (((), (), v8_3, v9_4, v10_5, ()), (l2, ())))))) (((), (), x1, 0, IntKind.wrap .i64 (x2 - x1), IntKind.wrap .i64 (Int.tdiv (IntKind.wrap .i64 (IntKind.wrap .i64 (x2 - x1) - 1)) 2), ()), (o0, ()))) fun d8 => (
 let l9 := d8.2.1
 let v8_10 := d8.1.2.2.1
 let v9_11 := d8.1.2.2.2.1
 let v10_12 := d8.1.2.2.2.2.1
 loopM (L := (Unit × Unit × Int × Int × Int × Unit) × ((List Fm) × Unit)) (R := (Unit) × ((List Fm) × Unit)) (fun d13 => (
 let l14 := d13.2.1
 let v8_15 := d13.1.2.2.1
 let v9_16 := d13.1.2.2.2.1
 let v12_17 := d13.1.2.2.2.2.1
 cond (decide (v12_17 ≥ 0)) (cond (ixOK (IntKind.wrap .i64 (v8_15 + v12_17)) l14.length) (cond (decide ((IntKind.wrap .i64 (v8_15 + v12_17)).toNat < l14.length)) (cond (ixOK v8_15 l14.length) (cond (decide (v8_15.toNat < l14.length)) (cond (ixOK v8_15 l14.length) (cond (decide (v8_15.toNat < l14.length)) (cond (ixOK (IntKind.wrap .i64 (v8_15 + v12_17)) l14.length) (cond (decide ((IntKind.wrap .i64 (v8_15 + v12_17)).toNat < (l14.set v8_15.toNat (Fm.eta (l14.getD ((IntKind.wrap .i64 (v8_15 + v12_17)).toNat) (Fm.mk 0 0 [] [])))).length)) (Option.bind (α := (Unit) × ((List Fm) × Unit)) (G_siftDown v9_16 v12_17 v8_15 ((l14.set v8_15.toNat (Fm.eta (l14.getD ((IntKind.wrap .i64 (v8_15 + v12_17)).toNat) (Fm.mk 0 0 [] [])))).set ((IntKind.wrap .i64 (v8_15 + v12_17)).toNat) (Fm.eta (l14.getD v8_15.toNat (Fm.mk 0 0 [] []))))) fun r18 => (
 some (Step.next (((), (), v8_15, v9_16, IntKind.wrap .i64 (v12_17 - 1), ()), (r18.2.1, ()))))) none) none) none) none) none) none) none) none) (some (Step.done ((), (l14, ())))))) (((), (), v8_10, v9_11, IntKind.wrap .i64 (v10_12 - 1), ()), (l9, ()))))
def A_heapSort : An := .seq (.leaf) (.seq (.leaf) (.seq (.leaf) (.join false { env := [(0, (.gs 0 .form)), (3, (.c (.fn (.func 84) [] []))), (8, (.d (.int .i64))), (9, (.d (.int .i64))), (10, (.d (.int .i64)))], objs := [(true, .tg .form 26)] } (.seq (.leaf) (.block (.loop { env := [(0, (.gs 0 .form)), (3, (.c (.fn (.func 84) [] []))), (8, (.d (.int .i64))), (9, (.d (.int .i64))), (10, (.d (.int .i64))), (11, (.d (.int .i64)))], objs := [(true, .tg .form 26)] } (.leaf)))) (.seq (.leaf) (.block (.loop { env := [(0, (.gs 0 .form)), (3, (.c (.fn (.func 84) [] []))), (8, (.d (.int .i64))), (9, (.d (.int .i64))), (12, (.d (.int .i64)))], objs := [(true, .tg .form 26)] } (.leaf)))))))
def H_heapSort : Nat → RH := fun r => match r with
 | 6 => { H := { ac := [29] } }
 | 11 => { H := { ac := [59] } }
 | _ => {}
noncomputable def S_heapSort : Sig := .o { pre := [(false, .tg .form 26)], args := [(.gs 0 .form), (.d (.int .i64)), (.d (.int .i64)), (.c (.fn (.func 84) [] []))], post := [(true, .tg .form 26)], res := (.tup []), f := fun x => G_heapSort x.1.2.1 x.1.2.2.1 x.2.1 }
theorem S_heapSort_ok : SigOK CX 176 S_heapSort := sigO_of (l := [(208, S_siftDown)]) ⟨S_siftDown_ok, trivial⟩ (hint := H_heapSort) (an := A_heapSort) (by kernel_rfl) (fun x => by kernel_rfl)
noncomputable def G_len64 (x0 : Int) : Option (Int) := (
 Option.bind (α := (Int × Int × Unit) × (Unit))
 (cond (decide (x0 ≥ 4294967296)) (some ((x0 / 2 ^ (32 : Int).toNat, 32, ()), ())) (some ((x0, 0, ()), ()))) fun d1 => (
 let v0_2 := d1.1.1
 let v2_3 := d1.1.2.1
 Option.bind (α := (Int × Int × Unit) × (Unit))
 (cond (decide (v0_2 ≥ 65536)) (some ((v0_2 / 2 ^ (16 : Int).toNat, IntKind.wrap .i64 (v2_3 + 16), ()), ())) (some ((v0_2, v2_3, ()), ()))) fun d4 => (
 let v0_5 := d4.1.1
 let v2_6 := d4.1.2.1
 Option.bind (α := (Int × Int × Unit) × (Unit))
 (cond (decide (v0_5 ≥ 256)) (some ((v0_5 / 2 ^ (8 : Int).toNat, IntKind.wrap .i64 (v2_6 + 8), ()), ())) (some ((v0_5, v2_6, ()), ()))) fun d7 => (
 let v0_8 := d7.1.1
 let v2_9 := d7.1.2.1
 cond (ixOK (IntKind.wrap .u8 (v0_8)) ([0, 1, 2, 2, 3, 3, 3, 3, 4, 4, 4, 4, 4, 4, 4, 4, 5, 5, 5, 5, 5, 5, 5, 5, 5, 5, 5, 5, 5, 5, 5, 5, 6, 6, 6, 6, 6, 6, 6, 6, 6, 6, 6, 6, 6, 6, 6, 6, 6, 6, 6, 6, 6, 6, 6, 6, 6, 6, 6, 6, 6, 6, 6, 6, 7, 7, 7, 7, 7, 7, 7, 7, 7, 7, 7, 7, 7, 7, 7, 7, 7, 7, 7, 7, 7, 7, 7, 7, 7, 7, 7, 7, 7, 7, 7, 7, 7, 7, 7, 7, 7, 7, 7, 7, 7, 7, 7, 7, 7, 7, 7, 7, 7, 7, 7, 7, 7, 7, 7, 7, 7, 7, 7, 7, 7, 7, 7, 7, 8, 8, 8, 8, 8, 8, 8, 8, 8, 8, 8, 8, 8, 8, 8, 8, 8, 8, 8, 8, 8, 8, 8, 8, 8, 8, 8, 8, 8, 8, 8, 8, 8, 8, 8, 8, 8, 8, 8, 8, 8, 8, 8, 8, 8, 8, 8, 8, 8, 8, 8, 8, 8, 8, 8, 8, 8, 8, 8, 8, 8, 8, 8, 8, 8, 8, 8, 8, 8, 8, 8, 8, 8, 8, 8, 8, 8, 8, 8, 8, 8, 8, 8, 8, 8, 8, 8, 8, 8, 8, 8, 8, 8, 8, 8, 8, 8, 8, 8, 8, 8, 8, 8, 8, 8, 8, 8, 8, 8, 8, 8, 8, 8, 8, 8, 8, 8, 8, 8, 8, 8, 8, 8, 8, 8, 8, 8, 8]).length) (some (IntKind.wrap .i64 (v2_9 + IntKind.wrap .i64 (byteAt ([0, 1, 2, 2, 3, 3, 3, 3, 4, 4, 4, 4, 4, 4, 4, 4, 5, 5, 5, 5, 5, 5, 5, 5, 5, 5, 5, 5, 5, 5, 5, 5, 6, 6, 6, 6, 6, 6, 6, 6, 6, 6, 6, 6, 6, 6, 6, 6, 6, 6, 6, 6, 6, 6, 6, 6, 6, 6, 6, 6, 6, 6, 6, 6, 7, 7, 7, 7, 7, 7, 7, 7, 7, 7, 7, 7, 7, 7, 7, 7, 7, 7, 7, 7, 7, 7, 7, 7, 7, 7, 7, 7, 7, 7, 7, 7, 7, 7, 7, 7, 7, 7, 7, 7, 7, 7, 7, 7, 7, 7, 7, 7, 7, 7, 7, 7, 7, 7, 7, 7, 7, 7, 7, 7, 7, 7, 7, 7, 8, 8, 8, 8, 8, 8, 8, 8, 8, 8, 8, 8, 8, 8, 8, 8, 8, 8, 8, 8, 8, 8, 8, 8, 8, 8, 8, 8, 8, 8, 8, 8, 8, 8, 8, 8, 8, 8, 8, 8, 8, 8, 8, 8, 8, 8, 8, 8, 8, 8, 8, 8, 8, 8, 8, 8, 8, 8, 8, 8, 8, 8, 8, 8, 8, 8, 8, 8, 8, 8, 8, 8, 8, 8, 8, 8, 8, 8, 8, 8, 8, 8, 8, 8, 8, 8, 8, 8, 8, 8, 8, 8, 8, 8, 8, 8, 8, 8, 8, 8, 8, 8, 8, 8, 8, 8, 8, 8, 8, 8, 8, 8, 8, 8, 8, 8, 8, 8, 8, 8, 8, 8, 8, 8, 8, 8, 8, 8]) (IntKind.wrap .u8 (v0_8)))))) none))))
def A_len64 : An := .seq (.leaf) (.join false { env := [(0, (.d (.int .u64))), (2, (.d (.int .i64)))], objs := [] } (.leaf) (.join false { env := [(0, (.d (.int .u64))), (2, (.d (.int .i64)))], objs := [] } (.leaf) (.join false { env := [(0, (.d (.int .u64))), (2, (.d (.int .i64)))], objs := [] } (.leaf) (.leaf))))
def H_len64 : Nat → RH := fun _ => {}
noncomputable def S_len64 : Sig := .n [(.d (.int .u64))] (.d (.int .i64)) (fun x => G_len64 x.1)
theorem S_len64_ok : SigOK CX 184 S_len64 := sigN_of (l := []) trivial (hint := H_len64) (an := A_len64) (fun x => by kernel_rfl)
noncomputable def G_blen (x0 : Int) : Option (Int) := (
 Option.bind (α := Int) (G_len64 x0) fun r1 => (
 some r1))
def A_blen : An := .leaf
def H_blen : Nat → RH := fun _ => {}
noncomputable def S_blen : Sig := .n [(.d (.int .u64))] (.d (.int .i64)) (fun x => G_blen x.1)
theorem S_blen_ok : SigOK CX 163 S_blen := sigN_of (l := [(184, S_len64)]) ⟨S_len64_ok, trivial⟩ (hint := H_blen) (an := A_blen) (fun x => by kernel_rfl)
noncomputable def G_nextPow (x0 : Int) : Option (Int) := (
 Option.bind (α := Int) (G_blen (IntKind.wrap .u64 (x0))) fun r1 => (
 cond (decide ((0 : Int) ≤ r1 ∧ (r1 : Int) ≤ ((IntKind.bits .u64 : Nat) : Int))) (some (IntKind.wrap .u64 (1 * 2 ^ (r1 : Int).toNat))) none))
def A_nextPow : An := .leaf
def H_nextPow : Nat → RH := fun _ => {}
noncomputable def S_nextPow : Sig := .n [(.d (.int .i64))] (.d (.int .u64)) (fun x => G_nextPow x.1)
theorem S_nextPow_ok : SigOK CX 209 S_nextPow := sigN_of (l := [(163, S_blen)]) ⟨S_blen_ok, trivial⟩ (hint := H_nextPow) (an := A_nextPow) (fun x => by kernel_rfl)
noncomputable def G_xorNext (o0 : Int × Unit) : Option ((Int) × ((Int × Unit) × Unit)) := (
 some (Go.bits .xor .u64 (Go.bits .xor .u64 (Go.bits .xor .u64 o0.1 (IntKind.wrap .u64 (o0.1 * 2 ^ (13 : Int).toNat))) ((Go.bits .xor .u64 o0.1 (IntKind.wrap .u64 (o0.1 * 2 ^ (13 : Int).toNat))) / 2 ^ (7 : Int).toNat)) (IntKind.wrap .u64 ((Go.bits .xor .u64 (Go.bits .xor .u64 o0.1 (IntKind.wrap .u64 (o0.1 * 2 ^ (13 : Int).toNat))) ((Go.bits .xor .u64 o0.1 (IntKind.wrap .u64 (o0.1 * 2 ^ (13 : Int).toNat))) / 2 ^ (7 : Int).toNat)) * 2 ^ (17 : Int).toNat)), ((Go.bits .xor .u64 (Go.bits .xor .u64 (Go.bits .xor .u64 o0.1 (IntKind.wrap .u64 (o0.1 * 2 ^ (13 : Int).toNat))) ((Go.bits .xor .u64 o0.1 (IntKind.wrap .u64 (o0.1 * 2 ^ (13 : Int).toNat))) / 2 ^ (7 : Int).toNat)) (IntKind.wrap .u64 ((Go.bits .xor .u64 (Go.bits .xor .u64 o0.1 (IntKind.wrap .u64 (o0.1 * 2 ^ (13 : Int).toNat))) ((Go.bits .xor .u64 o0.1 (IntKind.wrap .u64 (o0.1 * 2 ^ (13 : Int).toNat))) / 2 ^ (7 : Int).toNat)) * 2 ^ (17 : Int).toNat)), ()), ())))
def A_xorNext : An := .leaf
def H_xorNext : Nat → RH := fun _ => {}
noncomputable def S_xorNext : Sig := .o { pre := [(false, .cells 242 [(.d (.int .u64))])], args := [(.ref 0 0)], post := [(true, .cells 242 [(.d (.int .u64))])], res := (.d (.int .u64)), f := fun x => G_xorNext x.2.1 }
theorem S_xorNext_ok : SigOK CX 210 S_xorNext := sigO_of (l := []) trivial (hint := H_xorNext) (an := A_xorNext) (by kernel_rfl) (fun x => by kernel_rfl)
noncomputable def G_breakPat (x1 : Int) (x2 : Int) (o0 : List Fm) : Option ((Unit) × ((List Fm) × Unit)) := (
 cond (decide (IntKind.wrap .i64 (x2 - x1) ≥ 8)) (Option.bind (α := Int) (G_nextPow (IntKind.wrap .i64 (x2 - x1))) fun r1 => (
 loopM (L := (Unit × Int × Int × Unit × Int × Int × Unit) × ((List Fm) × (Int × Unit) × Unit)) (R := (Unit) × ((List Fm) × Unit)) (fun d2 => (
 let l3 := d2.2.1
 let c4 := d2.2.2.1.1
 let v1_5 := d2.1.2.1
 let v8_6 := d2.1.2.2.1
 let v10_7 := d2.1.2.2.2.2.1
 let v11_8 := d2.1.2.2.2.2.2.1
 cond (decide (v11_8 ≤ IntKind.wrap .i64 (IntKind.wrap .i64 (v1_5 + IntKind.wrap .i64 ((IntKind.wrap .i64 (Int.tdiv v8_6 4)) * 2)) + 1))) (Option.bind (α := (Int) × ((Int × Unit) × Unit)) (G_xorNext (c4, ())) fun r9 => (
 Option.bind (α := (Unit × Int × Int × Unit × Int × Int × Int × Unit) × ((List Fm) × (Int × Unit) × Unit))
 (cond (decide (IntKind.wrap .i64 (Go.bits .and .u64 r9.1 (IntKind.wrap .u64 (v10_7 - 1))) ≥ v8_6)) (some (((), v1_5, v8_6, (), v10_7, v11_8, IntKind.wrap .i64 (IntKind.wrap .i64 (Go.bits .and .u64 r9.1 (IntKind.wrap .u64 (v10_7 - 1))) - v8_6), ()), (l3, (r9.2.1.1, ()), ()))) (some (((), v1_5, v8_6, (), v10_7, v11_8, IntKind.wrap .i64 (Go.bits .and .u64 r9.1 (IntKind.wrap .u64 (v10_7 - 1))), ()), (l3, (r9.2.1.1, ()), ())))) fun d10 => (
 let l11 := d10.2.1
 let c12 := d10.2.2.1.1
 let v1_13 := d10.1.2.1
 let v8_14 := d10.1.2.2.1
 let v10_15 := d10.1.2.2.2.2.1
 let v11_16 := d10.1.2.2.2.2.2.1
 let v12_17 := d10.1.2.2.2.2.2.2.1
 cond (ixOK (IntKind.wrap .i64 (v1_13 + v12_17)) l11.length) (cond (decide ((IntKind.wrap .i64 (v1_13 + v12_17)).toNat < l11.length)) (cond (ixOK v11_16 l11.length) (cond (decide (v11_16.toNat < l11.length)) (cond (ixOK v11_16 l11.length) (cond (decide (v11_16.toNat < l11.length)) (cond (ixOK (IntKind.wrap .i64 (v1_13 + v12_17)) l11.length) (cond (decide ((IntKind.wrap .i64 (v1_13 + v12_17)).toNat < (l11.set v11_16.toNat (Fm.eta (l11.getD ((IntKind.wrap .i64 (v1_13 + v12_17)).toNat) (Fm.mk 0 0 [] [])))).length)) (some (Step.next (((), v1_13, v8_14, (), v10_15, IntKind.wrap .i64 (v11_16 + 1), ()), ((l11.set v11_16.toNat (Fm.eta (l11.getD ((IntKind.wrap .i64 (v1_13 + v12_17)).toNat) (Fm.mk 0 0 [] [])))).set ((IntKind.wrap .i64 (v1_13 + v12_17)).toNat) (Fm.eta (l11.getD v11_16.toNat (Fm.mk 0 0 [] []))), (c12, ()), ())))) none) none) none) none) none) none) none) none))) (some (Step.done ((), (l3, ())))))) (((), x1, IntKind.wrap .i64 (x2 - x1), (), r1, IntKind.wrap .i64 (IntKind.wrap .i64 (x1 + IntKind.wrap .i64 ((IntKind.wrap .i64 (Int.tdiv (IntKind.wrap .i64 (x2 - x1)) 4)) * 2)) - 1), ()), (o0, (IntKind.wrap .u64 (IntKind.wrap .i64 (x2 - x1)), ()), ())))) (some ((), (o0, ()))))
def A_breakPat : An := .seq (.leaf) (.seq (.leaf) (.cond (.seq (.leaf) (.seq (.leaf) (.seq (.leaf) (.block (.loop { env := [(0, (.gs 0 .form)), (1, (.d (.int .i64))), (8, (.d (.int .i64))), (9, (.ref 1 0)), (10, (.d (.int .u64))), (11, (.d (.int .i64)))], objs := [(true, .tg .form 26), (false, .cells 242 [(.d (.int .u64))])] } (.seq (.leaf) (.seq (.block (.seq (.leaf) (.join false { env := [(0, (.gs 0 .form)), (1, (.d (.int .i64))), (8, (.d (.int .i64))), (9, (.ref 1 0)), (10, (.d (.int .u64))), (11, (.d (.int .i64))), (12, (.d (.int .i64)))], objs := [(true, .tg .form 26), (false, .cells 242 [(.d (.int .u64))])] } (.leaf) (.leaf)))) (.leaf)))))))) (.leaf)))
def H_breakPat : Nat → RH := fun r => match r with
 | 7 => { H := { ac := [38] } }
 | _ => {}
noncomputable def S_breakPat : Sig := .o { pre := [(false, .tg .form 26)], args := [(.gs 0 .form), (.d (.int .i64)), (.d (.int .i64)), (.c (.fn (.func 84) [] []))], post := [(true, .tg .form 26)], res := (.tup []), f := fun x => G_breakPat x.1.2.1 x.1.2.2.1 x.2.1 }
theorem S_breakPat_ok : SigOK CX 177 S_breakPat := sigO_of (l := [(209, S_nextPow), (210, S_xorNext)]) ⟨S_nextPow_ok, S_xorNext_ok, trivial⟩ (hint := H_breakPat) (an := A_breakPat) (by kernel_rfl) (fun x => by kernel_rfl)
noncomputable def G_order2 (x1 : Int) (x2 : Int) (o0 : List Fm) (o1 : Int × Unit) : Option ((Int × Int × Unit) × ((List Fm) × (Int × Unit) × Unit)) := (
 cond (ixOK x2 o0.length) (cond (decide (x2.toNat < o0.length)) (cond (ixOK x1 o0.length) (cond (decide (x1.toNat < o0.length)) (Option.bind (α := Int) (L_compare (Fm.eta (o0.getD x2.toNat (Fm.mk 0 0 [] []))) (Fm.eta (o0.getD x1.toNat (Fm.mk 0 0 [] [])))) fun r1 => (
 cond (decide (r1 < 0)) (some ((x2, x1, ()), (o0, (IntKind.wrap .i64 (o1.1 + 1), ()), ()))) (some ((x1, x2, ()), (o0, (o1.1, ()), ()))))) none) none) none) none)
def A_order2 : An := .leaf
def H_order2 : Nat → RH := fun _ => {}
noncomputable def S_order2 : Sig := .o { pre := [(false, .tg .form 26), (false, .cells 3 [(.d (.int .i64))])], args := [(.gs 0 .form), (.d (.int .i64)), (.d (.int .i64)), (.ref 1 0), (.c (.fn (.func 84) [] []))], post := [(true, .tg .form 26), (true, .cells 3 [(.d (.int .i64))])], res := (.tup [(.d (.int .i64)), (.d (.int .i64))]), f := fun x => G_order2 x.1.2.1 x.1.2.2.1 x.2.1 x.2.2.1 }
theorem S_order2_ok : SigOK CX 234 S_order2 := sigO_of (l := [(84, S_compare_l)]) ⟨S_compare_l_ok, trivial⟩ (hint := H_order2) (an := A_order2) (by kernel_rfl) (fun x => by kernel_rfl)
noncomputable def G_median (x1 : Int) (x2 : Int) (x3 : Int) (o0 : List Fm) (o1 : Int × Unit) : Option ((Int) × ((List Fm) × (Int × Unit) × Unit)) := (
 Option.bind (α := (Int × Int × Unit) × ((List Fm) × (Int × Unit) × Unit)) (G_order2 x1 x2 o0 (o1.1, ())) fun r1 => (
 Option.bind (α := (Int × Int × Unit) × ((List Fm) × (Int × Unit) × Unit)) (G_order2 r1.1.2.1 x3 r1.2.1 (r1.2.2.1.1, ())) fun r2 => (
 Option.bind (α := (Int × Int × Unit) × ((List Fm) × (Int × Unit) × Unit)) (G_order2 r1.1.1 r2.1.1 r2.2.1 (r2.2.2.1.1, ())) fun r3 => (
 some (r3.1.2.1, (r3.2.1, (r3.2.2.1.1, ()), ()))))))
def A_median : An := .leaf
def H_median : Nat → RH := fun r => match r with
 | 1 => { H := { ac := [19] } }
 | 2 => { H := { ac := [28] } }
 | 3 => { H := { ac := [37] } }
 | _ => {}
noncomputable def S_median : Sig := .o { pre := [(false, .tg .form 26), (false, .cells 3 [(.d (.int .i64))])], args := [(.gs 0 .form), (.d (.int .i64)), (.d (.int .i64)), (.d (.int .i64)), (.ref 1 0), (.c (.fn (.func 84) [] []))], post := [(true, .tg .form 26), (true, .cells 3 [(.d (.int .i64))])], res := (.d (.int .i64)), f := fun x => G_median x.1.2.1 x.1.2.2.1 x.1.2.2.2.1 x.2.1 x.2.2.1 }
theorem S_median_ok : SigOK CX 212 S_median := sigO_of (l := [(234, S_order2)]) ⟨S_order2_ok, trivial⟩ (hint := H_median) (an := A_median) (by kernel_rfl) (fun x => by kernel_rfl)
noncomputable def G_medianAdj (x1 : Int) (o0 : List Fm) (o1 : Int × Unit) : Option ((Int) × ((List Fm) × (Int × Unit) × Unit)) := (
 Option.bind (α := (Int) × ((List Fm) × (Int × Unit) × Unit)) (G_median (IntKind.wrap .i64 (x1 - 1)) x1 (IntKind.wrap .i64 (x1 + 1)) o0 (o1.1, ())) fun r1 => (
 some (r1.1, (r1.2.1, (r1.2.2.1.1, ()), ()))))
def A_medianAdj : An := .leaf
def H_medianAdj : Nat → RH := fun r => match r with
 | 1 => { H := { ac := [17] } }
 | _ => {}
noncomputable def S_medianAdj : Sig := .o { pre := [(false, .tg .form 26), (false, .cells 3 [(.d (.int .i64))])], args := [(.gs 0 .form), (.d (.int .i64)), (.ref 1 0), (.c (.fn (.func 84) [] []))], post := [(true, .tg .form 26), (true, .cells 3 [(.d (.int .i64))])], res := (.d (.int .i64)), f := fun x => G_medianAdj x.1.2.1 x.2.1 x.2.2.1 }
theorem S_medianAdj_ok : SigOK CX 211 S_medianAdj := sigO_of (l := [(212, S_median)]) ⟨S_median_ok, trivial⟩ (hint := H_medianAdj) (an := A_medianAdj) (by kernel_rfl) (fun x => by kernel_rfl)
noncomputable def G_choosePivot (x1 : Int) (x2 : Int) (o0 : List Fm) : Option ((Int × Int × Unit) × ((List Fm) × Unit)) := (
 Option.bind (α := (Unit × Int × Unit) × ((List Fm) × (Int × Unit) × Unit))
 (cond (decide (IntKind.wrap .i64 (x2 - x1) ≥ 8)) (Option.bind (α := (Unit × Unit × Unit × Int × Int × Int × Unit) × ((List Fm) × (Int × Unit) × Unit))
 (cond (decide (IntKind.wrap .i64 (x2 - x1) ≥ 50)) (Option.bind (α := (Int) × ((List Fm) × (Int × Unit) × Unit)) (G_medianAdj (IntKind.wrap .i64 (x1 + IntKind.wrap .i64 ((IntKind.wrap .i64 (Int.tdiv (IntKind.wrap .i64 (x2 - x1)) 4)) * 1))) o0 (0, ())) fun r1 => (
 Option.bind (α := (Int) × ((List Fm) × (Int × Unit) × Unit)) (G_medianAdj (IntKind.wrap .i64 (x1 + IntKind.wrap .i64 ((IntKind.wrap .i64 (Int.tdiv (IntKind.wrap .i64 (x2 - x1)) 4)) * 2))) r1.2.1 (r1.2.2.1.1, ())) fun r2 => (
 Option.bind (α := (Int) × ((List Fm) × (Int × Unit) × Unit)) (G_medianAdj (IntKind.wrap .i64 (x1 + IntKind.wrap .i64 ((IntKind.wrap .i64 (Int.tdiv (IntKind.wrap .i64 (x2 - x1)) 4)) * 3))) r2.2.1 (r2.2.2.1.1, ())) fun r3 => (
 some (((), (), (), r1.1, r2.1, r3.1, ()), (r3.2.1, (r3.2.2.1.1, ()), ())))))) (some (((), (), (), IntKind.wrap .i64 (x1 + IntKind.wrap .i64 ((IntKind.wrap .i64 (Int.tdiv (IntKind.wrap .i64 (x2 - x1)) 4)) * 1)), IntKind.wrap .i64 (x1 + IntKind.wrap .i64 ((IntKind.wrap .i64 (Int.tdiv (IntKind.wrap .i64 (x2 - x1)) 4)) * 2)), IntKind.wrap .i64 (x1 + IntKind.wrap .i64 ((IntKind.wrap .i64 (Int.tdiv (IntKind.wrap .i64 (x2 - x1)) 4)) * 3)), ()), (o0, (0, ()), ())))) fun d4 => (
 let l5 := d4.2.1
 let c6 := d4.2.2.1.1
 let v12_7 := d4.1.2.2.2.1
 let v13_8 := d4.1.2.2.2.2.1
 let v14_9 := d4.1.2.2.2.2.2.1
 Option.bind (α := (Int) × ((List Fm) × (Int × Unit) × Unit)) (G_median v12_7 v13_8 v14_9 l5 (c6, ())) fun r10 => (
 some (((), r10.1, ()), (r10.2.1, (r10.2.2.1.1, ()), ()))))) (some (((), IntKind.wrap .i64 (x1 + IntKind.wrap .i64 ((IntKind.wrap .i64 (Int.tdiv (IntKind.wrap .i64 (x2 - x1)) 4)) * 2)), ()), (o0, (0, ()), ())))) fun d11 => (
 let l12 := d11.2.1
 let c13 := d11.2.2.1.1
 let v13_14 := d11.1.2.1
 cond (decide (c13 = 0)) (some ((v13_14, 1, ()), (l12, ()))) (cond (decide (c13 = 12)) (some ((v13_14, 2, ()), (l12, ()))) (some ((v13_14, 0, ()), (l12, ()))))))
def A_choosePivot : An := .seq (.leaf) (.seq (.leaf) (.seq (.leaf) (.seq (.leaf) (.seq (.leaf) (.seq (.leaf) (.join false { env := [(11, (.ref 1 0)), (13, (.d (.int .i64)))], objs := [(true, .tg .form 26), (false, .cells 3 [(.d (.int .i64))])] } (.seq (.leaf) (.cond (.join false { env := [(0, (.gs 0 .form)), (3, (.c (.fn (.func 84) [] []))), (11, (.ref 1 0)), (12, (.d (.int .i64))), (13, (.d (.int .i64))), (14, (.d (.int .i64)))], objs := [(true, .tg .form 26), (false, .cells 3 [(.d (.int .i64))])] } (.leaf) (.leaf)) (.leaf))) (.leaf)))))))
def H_choosePivot : Nat → RH := fun r => match r with
 | 8 => { H := { ac := [40] } }
 | 9 => { H := { ac := [44] } }
 | 10 => { H := { ac := [48] } }
 | 11 => { H := { ac := [54] } }
 | _ => {}
noncomputable def S_choosePivot : Sig := .o { pre := [(false, .tg .form 26)], args := [(.gs 0 .form), (.d (.int .i64)), (.d (.int .i64)), (.c (.fn (.func 84) [] []))], post := [(true, .tg .form 26)], res := (.tup [(.d (.int .i64)), (.d (.int .i64))]), f := fun x => G_choosePivot x.1.2.1 x.1.2.2.1 x.2.1 }
theorem S_choosePivot_ok : SigOK CX 178 S_choosePivot := sigO_of (l := [(211, S_medianAdj), (212, S_median)]) ⟨S_medianAdj_ok, S_median_ok, trivial⟩ (hint := H_choosePivot) (an := A_choosePivot) (by kernel_rfl) (fun x => by kernel_rfl)
noncomputable def G_revRange (x1 : Int) (x2 : Int) (o0 : List Fm) : Option ((Unit) × ((List Fm) × Unit)) := (
 loopM (L := (Unit × Int × Int × Unit) × ((List Fm) × Unit)) (R := (Unit) × ((List Fm) × Unit)) (fun d1 => (
 let l2 := d1.2.1
 let v8_3 := d1.1.2.1
 let v9_4 := d1.1.2.2.1
 cond (decide (v8_3 < v9_4)) (cond (ixOK v9_4 l2.length) (cond (decide (v9_4.toNat < l2.length)) (cond (ixOK v8_3 l2.length) (cond (decide (v8_3.toNat < l2.length)) (cond (ixOK v8_3 l2.length) (cond (decide (v8_3.toNat < l2.length)) (cond (ixOK v9_4 l2.length) (cond (decide (v9_4.toNat < (l2.set v8_3.toNat (Fm.eta (l2.getD v9_4.toNat (Fm.mk 0 0 [] [])))).length)) (some (Step.next (((), IntKind.wrap .i64 (v8_3 + 1), IntKind.wrap .i64 (v9_4 - 1), ()), ((l2.set v8_3.toNat (Fm.eta (l2.getD v9_4.toNat (Fm.mk 0 0 [] [])))).set v9_4.toNat (Fm.eta (l2.getD v8_3.toNat (Fm.mk 0 0 [] []))), ())))) none) none) none) none) none) none) none) none) (some (Step.done ((), (l2, ())))))) (((), x1, IntKind.wrap .i64 (x2 - 1), ()), (o0, ())))
def A_revRange : An := .seq (.leaf) (.seq (.leaf) (.block (.loop { env := [(0, (.gs 0 .form)), (8, (.d (.int .i64))), (9, (.d (.int .i64)))], objs := [(true, .tg .form 26)] } (.leaf))))
def H_revRange : Nat → RH := fun _ => {}
noncomputable def S_revRange : Sig := .o { pre := [(false, .tg .form 26)], args := [(.gs 0 .form), (.d (.int .i64)), (.d (.int .i64)), (.c (.fn (.func 84) [] []))], post := [(true, .tg .form 26)], res := (.tup []), f := fun x => G_revRange x.1.2.1 x.1.2.2.1 x.2.1 }
theorem S_revRange_ok : SigOK CX 179 S_revRange := sigO_of (l := []) trivial (hint := H_revRange) (an := A_revRange) (by kernel_rfl) (fun x => by kernel_rfl)
noncomputable def G_partIns (x1 : Int) (x2 : Int) (o0 : List Fm) : Option ((Bool) × ((List Fm) × Unit)) := (
 Option.bind (α := Step ((Unit) × ((List Fm) × Unit)) ((Bool) × ((List Fm) × Unit)))
 (loopM (L := (Unit × Int × Int × Unit × Int × Int × Unit) × ((List Fm) × Unit)) (R := Step ((Unit) × ((List Fm) × Unit)) ((Bool) × ((List Fm) × Unit))) (fun d1 => (
 let l2 := d1.2.1
 let v1_3 := d1.1.2.1
 let v2_4 := d1.1.2.2.1
 let v9_5 := d1.1.2.2.2.2.1
 let v10_6 := d1.1.2.2.2.2.2.1
 cond (decide (v10_6 < 5)) (Option.bind (α := Step ((Unit × Int × Int × Unit × Int × Int × Unit) × ((List Fm) × Unit)) (Step ((Unit × Int × Int × Unit × Int × Int × Unit) × ((List Fm) × Unit)) (Step ((Unit) × ((List Fm) × Unit)) ((Bool) × ((List Fm) × Unit)))))
 (Option.bind (α := (Unit × Int × Int × Unit × Int × Int × Unit) × ((List Fm) × Unit))
 (loopM (L := (Unit × Int × Int × Unit × Int × Int × Unit) × ((List Fm) × Unit)) (R := (Unit × Int × Int × Unit × Int × Int × Unit) × ((List Fm) × Unit)) (fun d7 => (
 let l8 := d7.2.1
 let v1_9 := d7.1.2.1
 let v2_10 := d7.1.2.2.1
 let v9_11 := d7.1.2.2.2.2.1
 let v10_12 := d7.1.2.2.2.2.2.1
 cond ((ixOK v9_11 l8.length) || !(decide (v9_11 < v2_10))) (cond ((decide (v9_11.toNat < l8.length)) || !(decide (v9_11 < v2_10))) (cond ((ixOK (IntKind.wrap .i64 (v9_11 - 1)) l8.length) || !(decide (v9_11 < v2_10))) (cond ((decide ((IntKind.wrap .i64 (v9_11 - 1)).toNat < l8.length)) || !(decide (v9_11 < v2_10))) (Option.bind (α := Int) (cond (decide (v9_11 < v2_10)) (L_compare (Fm.eta (l8.getD v9_11.toNat (Fm.mk 0 0 [] []))) (Fm.eta (l8.getD ((IntKind.wrap .i64 (v9_11 - 1)).toNat) (Fm.mk 0 0 [] [])))) (some (0 : Int))) fun r13 => (
 cond (cond (decide (v9_11 < v2_10)) (!(decide (r13 < 0))) false) (some (Step.next (((), v1_9, v2_10, (), IntKind.wrap .i64 (v9_11 + 1), v10_12, ()), (l8, ())))) (some (Step.done (((), v1_9, v2_10, (), v9_11, v10_12, ()), (l8, ())))))) none) none) none) none)) (((), v1_3, v2_4, (), v9_5, v10_6, ()), (l2, ()))) fun d14 => (
 let l15 := d14.2.1
 let v1_16 := d14.1.2.1
 let v2_17 := d14.1.2.2.1
 let v9_18 := d14.1.2.2.2.2.1
 let v10_19 := d14.1.2.2.2.2.2.1
 cond (decide (v9_18 = v2_17)) (some (Step.done (Step.done (Step.done (true, (l15, ())))))) (cond (decide (IntKind.wrap .i64 (v2_17 - v1_16) < 50)) (some (Step.done (Step.done (Step.done (false, (l15, ())))))) (cond (ixOK (IntKind.wrap .i64 (v9_18 - 1)) l15.length) (cond (decide ((IntKind.wrap .i64 (v9_18 - 1)).toNat < l15.length)) (cond (ixOK v9_18 l15.length) (cond (decide (v9_18.toNat < l15.length)) (cond (ixOK v9_18 l15.length) (cond (decide (v9_18.toNat < l15.length)) (cond (ixOK (IntKind.wrap .i64 (v9_18 - 1)) l15.length) (cond (decide ((IntKind.wrap .i64 (v9_18 - 1)).toNat < (l15.set v9_18.toNat (Fm.eta (l15.getD ((IntKind.wrap .i64 (v9_18 - 1)).toNat) (Fm.mk 0 0 [] [])))).length)) (Option.bind (α := (Unit × Int × Int × Unit × Int × Int × Unit) × ((List Fm) × Unit))
 (cond (decide (IntKind.wrap .i64 (v9_18 - v1_16) ≥ 2)) (loopM (L := (Unit × Int × Int × Unit × Int × Int × Int × Unit) × ((List Fm) × Unit)) (R := (Unit × Int × Int × Unit × Int × Int × Unit) × ((List Fm) × Unit)) (fun d20 => (
 let l21 := d20.2.1
 let v1_22 := d20.1.2.1
 let v2_23 := d20.1.2.2.1
 let v9_24 := d20.1.2.2.2.2.1
 let v10_25 := d20.1.2.2.2.2.2.1
 let v11_26 := d20.1.2.2.2.2.2.2.1
 cond (decide (v11_26 ≥ 1)) (cond (ixOK v11_26 l21.length) (cond (decide (v11_26.toNat < l21.length)) (cond (ixOK (IntKind.wrap .i64 (v11_26 - 1)) l21.length) (cond (decide ((IntKind.wrap .i64 (v11_26 - 1)).toNat < l21.length)) (Option.bind (α := Int) (L_compare (Fm.eta (l21.getD v11_26.toNat (Fm.mk 0 0 [] []))) (Fm.eta (l21.getD ((IntKind.wrap .i64 (v11_26 - 1)).toNat) (Fm.mk 0 0 [] [])))) fun r27 => (
 cond (!(decide (r27 < 0))) (some (Step.done (((), v1_22, v2_23, (), v9_24, v10_25, ()), (l21, ())))) (cond (ixOK (IntKind.wrap .i64 (v11_26 - 1)) l21.length) (cond (decide ((IntKind.wrap .i64 (v11_26 - 1)).toNat < l21.length)) (cond (ixOK v11_26 l21.length) (cond (decide (v11_26.toNat < l21.length)) (cond (ixOK v11_26 l21.length) (cond (decide (v11_26.toNat < l21.length)) (cond (ixOK (IntKind.wrap .i64 (v11_26 - 1)) l21.length) (cond (decide ((IntKind.wrap .i64 (v11_26 - 1)).toNat < (l21.set v11_26.toNat (Fm.eta (l21.getD ((IntKind.wrap .i64 (v11_26 - 1)).toNat) (Fm.mk 0 0 [] [])))).length)) (some (Step.next (((), v1_22, v2_23, (), v9_24, v10_25, IntKind.wrap .i64 (v11_26 - 1), ()), ((l21.set v11_26.toNat (Fm.eta (l21.getD ((IntKind.wrap .i64 (v11_26 - 1)).toNat) (Fm.mk 0 0 [] [])))).set ((IntKind.wrap .i64 (v11_26 - 1)).toNat) (Fm.eta (l21.getD v11_26.toNat (Fm.mk 0 0 [] []))), ())))) none) none) none) none) none) none) none) none))) none) none) none) none) (some (Step.done (((), v1_22, v2_23, (), v9_24, v10_25, ()), (l21, ())))))) (((), v1_16, v2_17, (), v9_18, v10_19, IntKind.wrap .i64 (v9_18 - 1), ()), ((l15.set v9_18.toNat (Fm.eta (l15.getD ((IntKind.wrap .i64 (v9_18 - 1)).toNat) (Fm.mk 0 0 [] [])))).set ((IntKind.wrap .i64 (v9_18 - 1)).toNat) (Fm.eta (l15.getD v9_18.toNat (Fm.mk 0 0 [] []))), ()))) (some (((), v1_16, v2_17, (), v9_18, v10_19, ()), ((l15.set v9_18.toNat (Fm.eta (l15.getD ((IntKind.wrap .i64 (v9_18 - 1)).toNat) (Fm.mk 0 0 [] [])))).set ((IntKind.wrap .i64 (v9_18 - 1)).toNat) (Fm.eta (l15.getD v9_18.toNat (Fm.mk 0 0 [] []))), ())))) fun d28 => (
 let l29 := d28.2.1
 let v1_30 := d28.1.2.1
 let v2_31 := d28.1.2.2.1
 let v9_32 := d28.1.2.2.2.2.1
 let v10_33 := d28.1.2.2.2.2.2.1
 cond (decide (IntKind.wrap .i64 (v2_31 - v9_32) ≥ 2)) (loopM (L := (Unit × Int × Int × Unit × Int × Int × Int × Unit) × ((List Fm) × Unit)) (R := Step ((Unit × Int × Int × Unit × Int × Int × Unit) × ((List Fm) × Unit)) (Step ((Unit × Int × Int × Unit × Int × Int × Unit) × ((List Fm) × Unit)) (Step ((Unit) × ((List Fm) × Unit)) ((Bool) × ((List Fm) × Unit))))) (fun d34 => (
 let l35 := d34.2.1
 let v1_36 := d34.1.2.1
 let v2_37 := d34.1.2.2.1
 let v9_38 := d34.1.2.2.2.2.1
 let v10_39 := d34.1.2.2.2.2.2.1
 let v12_40 := d34.1.2.2.2.2.2.2.1
 cond (decide (v12_40 < v2_37)) (cond (ixOK v12_40 l35.length) (cond (decide (v12_40.toNat < l35.length)) (cond (ixOK (IntKind.wrap .i64 (v12_40 - 1)) l35.length) (cond (decide ((IntKind.wrap .i64 (v12_40 - 1)).toNat < l35.length)) (Option.bind (α := Int) (L_compare (Fm.eta (l35.getD v12_40.toNat (Fm.mk 0 0 [] []))) (Fm.eta (l35.getD ((IntKind.wrap .i64 (v12_40 - 1)).toNat) (Fm.mk 0 0 [] [])))) fun r41 => (
 cond (!(decide (r41 < 0))) (some (Step.done (Step.next (((), v1_36, v2_37, (), v9_38, v10_39, ()), (l35, ()))))) (cond (ixOK (IntKind.wrap .i64 (v12_40 - 1)) l35.length) (cond (decide ((IntKind.wrap .i64 (v12_40 - 1)).toNat < l35.length)) (cond (ixOK v12_40 l35.length) (cond (decide (v12_40.toNat < l35.length)) (cond (ixOK v12_40 l35.length) (cond (decide (v12_40.toNat < l35.length)) (cond (ixOK (IntKind.wrap .i64 (v12_40 - 1)) l35.length) (cond (decide ((IntKind.wrap .i64 (v12_40 - 1)).toNat < (l35.set v12_40.toNat (Fm.eta (l35.getD ((IntKind.wrap .i64 (v12_40 - 1)).toNat) (Fm.mk 0 0 [] [])))).length)) (some (Step.next (((), v1_36, v2_37, (), v9_38, v10_39, IntKind.wrap .i64 (v12_40 + 1), ()), ((l35.set v12_40.toNat (Fm.eta (l35.getD ((IntKind.wrap .i64 (v12_40 - 1)).toNat) (Fm.mk 0 0 [] [])))).set ((IntKind.wrap .i64 (v12_40 - 1)).toNat) (Fm.eta (l35.getD v12_40.toNat (Fm.mk 0 0 [] []))), ())))) none) none) none) none) none) none) none) none))) none) none) none) none) (some (Step.done (Step.next (((), v1_36, v2_37, (), v9_38, v10_39, ()), (l35, ()))))))) (((), v1_30, v2_31, (), v9_32, v10_33, IntKind.wrap .i64 (v9_32 + 1), ()), (l29, ()))) (some (Step.next (((), v1_30, v2_31, (), v9_32, v10_33, ()), (l29, ())))))) none) none) none) none) none) none) none) none)))) fun qd42 => match qd42 with
 | .next d42 => (
 let l43 := d42.2.1
 let v1_44 := d42.1.2.1
 let v2_45 := d42.1.2.2.1
 let v9_46 := d42.1.2.2.2.2.1
 let v10_47 := d42.1.2.2.2.2.2.1
 some (Step.next (((), v1_44, v2_45, (), v9_46, IntKind.wrap .i64 (v10_47 + 1), ()), (l43, ()))))
 | .done r => some r) (some (Step.done (Step.next ((), (l2, ()))))))) (((), x1, x2, (), IntKind.wrap .i64 (x1 + 1), 0, ()), (o0, ()))) fun qd48 => match qd48 with
 | .next d48 => (
 let l49 := d48.2.1
 some (false, (l49, ())))
 | .done r => some r)
def A_partIns : An := .seq (.leaf) (.seq (.leaf) (.join true { env := [], objs := [(true, .tg .form 26)] } (.seq (.leaf) (.block (.loop { env := [(0, (.gs 0 .form)), (1, (.d (.int .i64))), (2, (.d (.int .i64))), (3, (.c (.fn (.func 84) [] []))), (9, (.d (.int .i64))), (10, (.d (.int .i64)))], objs := [(true, .tg .form 26)] } (.seq (.leaf) (.join true { env := [(0, (.gs 0 .form)), (1, (.d (.int .i64))), (2, (.d (.int .i64))), (3, (.c (.fn (.func 84) [] []))), (9, (.d (.int .i64))), (10, (.d (.int .i64)))], objs := [(true, .tg .form 26)] } (.block (.join false { env := [(0, (.gs 0 .form)), (1, (.d (.int .i64))), (2, (.d (.int .i64))), (3, (.c (.fn (.func 84) [] []))), (9, (.d (.int .i64))), (10, (.d (.int .i64)))], objs := [(true, .tg .form 26)] } (.block (.loop { env := [(0, (.gs 0 .form)), (1, (.d (.int .i64))), (2, (.d (.int .i64))), (3, (.c (.fn (.func 84) [] []))), (9, (.d (.int .i64))), (10, (.d (.int .i64)))], objs := [(true, .tg .form 26)] } (.leaf))) (.seq (.leaf) (.seq (.leaf) (.seq (.leaf) (.join false { env := [(0, (.gs 0 .form)), (1, (.d (.int .i64))), (2, (.d (.int .i64))), (3, (.c (.fn (.func 84) [] []))), (9, (.d (.int .i64))), (10, (.d (.int .i64)))], objs := [(true, .tg .form 26)] } (.seq (.leaf) (.cond (.seq (.leaf) (.block (.loop { env := [(0, (.gs 0 .form)), (1, (.d (.int .i64))), (2, (.d (.int .i64))), (3, (.c (.fn (.func 84) [] []))), (9, (.d (.int .i64))), (10, (.d (.int .i64))), (11, (.d (.int .i64)))], objs := [(true, .tg .form 26)] } (.leaf)))) (.leaf))) (.seq (.leaf) (.cond (.seq (.leaf) (.block (.loop { env := [(0, (.gs 0 .form)), (1, (.d (.int .i64))), (2, (.d (.int .i64))), (3, (.c (.fn (.func 84) [] []))), (9, (.d (.int .i64))), (10, (.d (.int .i64))), (12, (.d (.int .i64)))], objs := [(true, .tg .form 26)] } (.leaf)))) (.leaf))))))))) (.leaf)))))) (.leaf)))
def H_partIns : Nat → RH := fun _ => {}
noncomputable def S_partIns : Sig := .o { pre := [(false, .tg .form 26)], args := [(.gs 0 .form), (.d (.int .i64)), (.d (.int .i64)), (.c (.fn (.func 84) [] []))], post := [(true, .tg .form 26)], res := (.d .bool), f := fun x => G_partIns x.1.2.1 x.1.2.2.1 x.2.1 }
theorem S_partIns_ok : SigOK CX 180 S_partIns := sigO_of (l := [(84, S_compare_l)]) ⟨S_compare_l_ok, trivial⟩ (hint := H_partIns) (an := A_partIns) (by kernel_rfl) (fun x => by kernel_rfl)
noncomputable def G_partEq (x1 : Int) (x2 : Int) (x3 : Int) (o0 : List Fm) : Option ((Int) × ((List Fm) × Unit)) := (
 cond (ixOK x3 o0.length) (cond (decide (x3.toNat < o0.length)) (cond (ixOK x1 o0.length) (cond (decide (x1.toNat < o0.length)) (cond (ixOK x1 o0.length) (cond (decide (x1.toNat < o0.length)) (cond (ixOK x3 o0.length) (cond (decide (x3.toNat < (o0.set x1.toNat (Fm.eta (o0.getD x3.toNat (Fm.mk 0 0 [] [])))).length)) (Option.bind (α := (Int × Unit) × ((List Fm) × Unit))
 (loopM (L := (Unit × Int × Unit × Int × Int × Unit) × ((List Fm) × Unit)) (R := (Int × Unit) × ((List Fm) × Unit)) (fun d1 => (
 let l2 := d1.2.1
 let v1_3 := d1.1.2.1
 let v11_4 := d1.1.2.2.2.1
 let v12_5 := d1.1.2.2.2.2.1
 Option.bind (α := (Unit × Int × Unit × Int × Int × Unit) × ((List Fm) × Unit))
 (loopM (L := (Unit × Int × Unit × Int × Int × Unit) × ((List Fm) × Unit)) (R := (Unit × Int × Unit × Int × Int × Unit) × ((List Fm) × Unit)) (fun d6 => (
 let l7 := d6.2.1
 let v1_8 := d6.1.2.1
 let v11_9 := d6.1.2.2.2.1
 let v12_10 := d6.1.2.2.2.2.1
 cond ((ixOK v1_8 l7.length) || !(decide (v11_9 ≤ v12_10))) (cond ((decide (v1_8.toNat < l7.length)) || !(decide (v11_9 ≤ v12_10))) (cond ((ixOK v11_9 l7.length) || !(decide (v11_9 ≤ v12_10))) (cond ((decide (v11_9.toNat < l7.length)) || !(decide (v11_9 ≤ v12_10))) (Option.bind (α := Int) (cond (decide (v11_9 ≤ v12_10)) (L_compare (Fm.eta (l7.getD v1_8.toNat (Fm.mk 0 0 [] []))) (Fm.eta (l7.getD v11_9.toNat (Fm.mk 0 0 [] [])))) (some (0 : Int))) fun r11 => (
 cond (cond (decide (v11_9 ≤ v12_10)) (!(decide (r11 < 0))) false) (some (Step.next (((), v1_8, (), IntKind.wrap .i64 (v11_9 + 1), v12_10, ()), (l7, ())))) (some (Step.done (((), v1_8, (), v11_9, v12_10, ()), (l7, ())))))) none) none) none) none)) (((), v1_3, (), v11_4, v12_5, ()), (l2, ()))) fun d12 => (
 let l13 := d12.2.1
 let v1_14 := d12.1.2.1
 let v11_15 := d12.1.2.2.2.1
 let v12_16 := d12.1.2.2.2.2.1
 Option.bind (α := (Unit × Int × Unit × Int × Int × Unit) × ((List Fm) × Unit))
 (loopM (L := (Unit × Int × Unit × Int × Int × Unit) × ((List Fm) × Unit)) (R := (Unit × Int × Unit × Int × Int × Unit) × ((List Fm) × Unit)) (fun d17 => (
 let l18 := d17.2.1
 let v1_19 := d17.1.2.1
 let v11_20 := d17.1.2.2.2.1
 let v12_21 := d17.1.2.2.2.2.1
 cond ((ixOK v1_19 l18.length) || !(decide (v11_20 ≤ v12_21))) (cond ((decide (v1_19.toNat < l18.length)) || !(decide (v11_20 ≤ v12_21))) (cond ((ixOK v12_21 l18.length) || !(decide (v11_20 ≤ v12_21))) (cond ((decide (v12_21.toNat < l18.length)) || !(decide (v11_20 ≤ v12_21))) (Option.bind (α := Int) (cond (decide (v11_20 ≤ v12_21)) (L_compare (Fm.eta (l18.getD v1_19.toNat (Fm.mk 0 0 [] []))) (Fm.eta (l18.getD v12_21.toNat (Fm.mk 0 0 [] [])))) (some (0 : Int))) fun r22 => (
 cond (cond (decide (v11_20 ≤ v12_21)) (decide (r22 < 0)) false) (some (Step.next (((), v1_19, (), v11_20, IntKind.wrap .i64 (v12_21 - 1), ()), (l18, ())))) (some (Step.done (((), v1_19, (), v11_20, v12_21, ()), (l18, ())))))) none) none) none) none)) (((), v1_14, (), v11_15, v12_16, ()), (l13, ()))) fun d23 => (
 let l24 := d23.2.1
 let v1_25 := d23.1.2.1
 let v11_26 := d23.1.2.2.2.1
 let v12_27 := d23.1.2.2.2.2.1
 cond (decide (v11_26 > v12_27)) (some (Step.done ((v11_26, ()), (l24, ())))) (cond (ixOK v12_27 l24.length) (cond (decide (v12_27.toNat < l24.length)) (cond (ixOK v11_26 l24.length) (cond (decide (v11_26.toNat < l24.length)) (cond (ixOK v11_26 l24.length) (cond (decide (v11_26.toNat < l24.length)) (cond (ixOK v12_27 l24.length) (cond (decide (v12_27.toNat < (l24.set v11_26.toNat (Fm.eta (l24.getD v12_27.toNat (Fm.mk 0 0 [] [])))).length)) (some (Step.next (((), v1_25, (), IntKind.wrap .i64 (v11_26 + 1), IntKind.wrap .i64 (v12_27 - 1), ()), ((l24.set v11_26.toNat (Fm.eta (l24.getD v12_27.toNat (Fm.mk 0 0 [] [])))).set v12_27.toNat (Fm.eta (l24.getD v11_26.toNat (Fm.mk 0 0 [] []))), ())))) none) none) none) none) none) none) none) none))))) (((), x1, (), IntKind.wrap .i64 (x1 + 1), IntKind.wrap .i64 (x2 - 1), ()), ((o0.set x1.toNat (Fm.eta (o0.getD x3.toNat (Fm.mk 0 0 [] [])))).set x3.toNat (Fm.eta (o0.getD x1.toNat (Fm.mk 0 0 [] []))), ()))) fun d28 => (
 let l29 := d28.2.1
 let v11_30 := d28.1.1
 some (v11_30, (l29, ())))) none) none) none) none) none) none) none) none)
def A_partEq : An := .seq (.leaf) (.seq (.leaf) (.seq (.leaf) (.join false { env := [(11, (.d (.int .i64)))], objs := [(true, .tg .form 26)] } (.block (.loop { env := [(0, (.gs 0 .form)), (1, (.d (.int .i64))), (4, (.c (.fn (.func 84) [] []))), (11, (.d (.int .i64))), (12, (.d (.int .i64)))], objs := [(true, .tg .form 26)] } (.block (.join false { env := [(0, (.gs 0 .form)), (1, (.d (.int .i64))), (4, (.c (.fn (.func 84) [] []))), (11, (.d (.int .i64))), (12, (.d (.int .i64)))], objs := [(true, .tg .form 26)] } (.block (.loop { env := [(0, (.gs 0 .form)), (1, (.d (.int .i64))), (4, (.c (.fn (.func 84) [] []))), (11, (.d (.int .i64))), (12, (.d (.int .i64)))], objs := [(true, .tg .form 26)] } (.leaf))) (.join false { env := [(0, (.gs 0 .form)), (1, (.d (.int .i64))), (4, (.c (.fn (.func 84) [] []))), (11, (.d (.int .i64))), (12, (.d (.int .i64)))], objs := [(true, .tg .form 26)] } (.block (.loop { env := [(0, (.gs 0 .form)), (1, (.d (.int .i64))), (4, (.c (.fn (.func 84) [] []))), (11, (.d (.int .i64))), (12, (.d (.int .i64)))], objs := [(true, .tg .form 26)] } (.leaf))) (.leaf)))))) (.leaf))))
def H_partEq : Nat → RH := fun _ => {}
noncomputable def S_partEq : Sig := .o { pre := [(false, .tg .form 26)], args := [(.gs 0 .form), (.d (.int .i64)), (.d (.int .i64)), (.d (.int .i64)), (.c (.fn (.func 84) [] []))], post := [(true, .tg .form 26)], res := (.d (.int .i64)), f := fun x => G_partEq x.1.2.1 x.1.2.2.1 x.1.2.2.2.1 x.2.1 }
theorem S_partEq_ok : SigOK CX 181 S_partEq := sigO_of (l := [(84, S_compare_l)]) ⟨S_compare_l_ok, trivial⟩ (hint := H_partEq) (an := A_partEq) (by kernel_rfl) (fun x => by kernel_rfl)
noncomputable def G_partition (x1 : Int) (x2 : Int) (x3 : Int) (o0 : List Fm) : Option ((Int × Bool × Unit) × ((List Fm) × Unit)) := (
 cond (ixOK x3 o0.length) (cond (decide (x3.toNat < o0.length)) (cond (ixOK x1 o0.length) (cond (decide (x1.toNat < o0.length)) (cond (ixOK x1 o0.length) (cond (decide (x1.toNat < o0.length)) (cond (ixOK x3 o0.length) (cond (decide (x3.toNat < (o0.set x1.toNat (Fm.eta (o0.getD x3.toNat (Fm.mk 0 0 [] [])))).length)) (Option.bind (α := (Unit × Int × Unit × Int × Int × Unit) × ((List Fm) × Unit))
 (loopM (L := (Unit × Int × Unit × Int × Int × Unit) × ((List Fm) × Unit)) (R := (Unit × Int × Unit × Int × Int × Unit) × ((List Fm) × Unit)) (fun d1 => (
 let l2 := d1.2.1
 let v1_3 := d1.1.2.1
 let v12_4 := d1.1.2.2.2.1
 let v13_5 := d1.1.2.2.2.2.1
 cond ((ixOK v12_4 l2.length) || !(decide (v12_4 ≤ v13_5))) (cond ((decide (v12_4.toNat < l2.length)) || !(decide (v12_4 ≤ v13_5))) (cond ((ixOK v1_3 l2.length) || !(decide (v12_4 ≤ v13_5))) (cond ((decide (v1_3.toNat < l2.length)) || !(decide (v12_4 ≤ v13_5))) (Option.bind (α := Int) (cond (decide (v12_4 ≤ v13_5)) (L_compare (Fm.eta (l2.getD v12_4.toNat (Fm.mk 0 0 [] []))) (Fm.eta (l2.getD v1_3.toNat (Fm.mk 0 0 [] [])))) (some (0 : Int))) fun r6 => (
 cond (cond (decide (v12_4 ≤ v13_5)) (decide (r6 < 0)) false) (some (Step.next (((), v1_3, (), IntKind.wrap .i64 (v12_4 + 1), v13_5, ()), (l2, ())))) (some (Step.done (((), v1_3, (), v12_4, v13_5, ()), (l2, ())))))) none) none) none) none)) (((), x1, (), IntKind.wrap .i64 (x1 + 1), IntKind.wrap .i64 (x2 - 1), ()), ((o0.set x1.toNat (Fm.eta (o0.getD x3.toNat (Fm.mk 0 0 [] [])))).set x3.toNat (Fm.eta (o0.getD x1.toNat (Fm.mk 0 0 [] []))), ()))) fun d7 => (
 let l8 := d7.2.1
 let v1_9 := d7.1.2.1
 let v12_10 := d7.1.2.2.2.1
 let v13_11 := d7.1.2.2.2.2.1
 Option.bind (α := (Unit × Int × Unit × Int × Int × Unit) × ((List Fm) × Unit))
 (loopM (L := (Unit × Int × Unit × Int × Int × Unit) × ((List Fm) × Unit)) (R := (Unit × Int × Unit × Int × Int × Unit) × ((List Fm) × Unit)) (fun d12 => (
 let l13 := d12.2.1
 let v1_14 := d12.1.2.1
 let v12_15 := d12.1.2.2.2.1
 let v13_16 := d12.1.2.2.2.2.1
 cond ((ixOK v13_16 l13.length) || !(decide (v12_15 ≤ v13_16))) (cond ((decide (v13_16.toNat < l13.length)) || !(decide (v12_15 ≤ v13_16))) (cond ((ixOK v1_14 l13.length) || !(decide (v12_15 ≤ v13_16))) (cond ((decide (v1_14.toNat < l13.length)) || !(decide (v12_15 ≤ v13_16))) (Option.bind (α := Int) (cond (decide (v12_15 ≤ v13_16)) (L_compare (Fm.eta (l13.getD v13_16.toNat (Fm.mk 0 0 [] []))) (Fm.eta (l13.getD v1_14.toNat (Fm.mk 0 0 [] [])))) (some (0 : Int))) fun r17 => (
 cond (cond (decide (v12_15 ≤ v13_16)) (!(decide (r17 < 0))) false) (some (Step.next (((), v1_14, (), v12_15, IntKind.wrap .i64 (v13_16 - 1), ()), (l13, ())))) (some (Step.done (((), v1_14, (), v12_15, v13_16, ()), (l13, ())))))) none) none) none) none)) (((), v1_9, (), v12_10, v13_11, ()), (l8, ()))) fun d18 => (
 let l19 := d18.2.1
 let v1_20 := d18.1.2.1
 let v12_21 := d18.1.2.2.2.1
 let v13_22 := d18.1.2.2.2.2.1
 cond (decide (v12_21 > v13_22)) (cond (ixOK v1_20 l19.length) (cond (decide (v1_20.toNat < l19.length)) (cond (ixOK v13_22 l19.length) (cond (decide (v13_22.toNat < l19.length)) (cond (ixOK v13_22 l19.length) (cond (decide (v13_22.toNat < l19.length)) (cond (ixOK v1_20 l19.length) (cond (decide (v1_20.toNat < (l19.set v13_22.toNat (Fm.eta (l19.getD v1_20.toNat (Fm.mk 0 0 [] [])))).length)) (some ((v13_22, true, ()), ((l19.set v13_22.toNat (Fm.eta (l19.getD v1_20.toNat (Fm.mk 0 0 [] [])))).set v1_20.toNat (Fm.eta (l19.getD v13_22.toNat (Fm.mk 0 0 [] []))), ()))) none) none) none) none) none) none) none) none) (cond (ixOK v13_22 l19.length) (cond (decide (v13_22.toNat < l19.length)) (cond (ixOK v12_21 l19.length) (cond (decide (v12_21.toNat < l19.length)) (cond (ixOK v12_21 l19.length) (cond (decide (v12_21.toNat < l19.length)) (cond (ixOK v13_22 l19.length) (cond (decide (v13_22.toNat < (l19.set v12_21.toNat (Fm.eta (l19.getD v13_22.toNat (Fm.mk 0 0 [] [])))).length)) (Option.bind (α := (Unit × Int × Int × Unit) × ((List Fm) × Unit))
 (loopM (L := (Unit × Int × Unit × Int × Int × Unit) × ((List Fm) × Unit)) (R := (Unit × Int × Int × Unit) × ((List Fm) × Unit)) (fun d23 => (
 let l24 := d23.2.1
 let v1_25 := d23.1.2.1
 let v12_26 := d23.1.2.2.2.1
 let v13_27 := d23.1.2.2.2.2.1
 Option.bind (α := (Unit × Int × Unit × Int × Int × Unit) × ((List Fm) × Unit))
 (loopM (L := (Unit × Int × Unit × Int × Int × Unit) × ((List Fm) × Unit)) (R := (Unit × Int × Unit × Int × Int × Unit) × ((List Fm) × Unit)) (fun d28 => (
 let l29 := d28.2.1
 let v1_30 := d28.1.2.1
 let v12_31 := d28.1.2.2.2.1
 let v13_32 := d28.1.2.2.2.2.1
 cond ((ixOK v12_31 l29.length) || !(decide (v12_31 ≤ v13_32))) (cond ((decide (v12_31.toNat < l29.length)) || !(decide (v12_31 ≤ v13_32))) (cond ((ixOK v1_30 l29.length) || !(decide (v12_31 ≤ v13_32))) (cond ((decide (v1_30.toNat < l29.length)) || !(decide (v12_31 ≤ v13_32))) (Option.bind (α := Int) (cond (decide (v12_31 ≤ v13_32)) (L_compare (Fm.eta (l29.getD v12_31.toNat (Fm.mk 0 0 [] []))) (Fm.eta (l29.getD v1_30.toNat (Fm.mk 0 0 [] [])))) (some (0 : Int))) fun r33 => (
 cond (cond (decide (v12_31 ≤ v13_32)) (decide (r33 < 0)) false) (some (Step.next (((), v1_30, (), IntKind.wrap .i64 (v12_31 + 1), v13_32, ()), (l29, ())))) (some (Step.done (((), v1_30, (), v12_31, v13_32, ()), (l29, ())))))) none) none) none) none)) (((), v1_25, (), v12_26, v13_27, ()), (l24, ()))) fun d34 => (
 let l35 := d34.2.1
 let v1_36 := d34.1.2.1
 let v12_37 := d34.1.2.2.2.1
 let v13_38 := d34.1.2.2.2.2.1
 Option.bind (α := (Unit × Int × Unit × Int × Int × Unit) × ((List Fm) × Unit))
 (loopM (L := (Unit × Int × Unit × Int × Int × Unit) × ((List Fm) × Unit)) (R := (Unit × Int × Unit × Int × Int × Unit) × ((List Fm) × Unit)) (fun d39 => (
 let l40 := d39.2.1
 let v1_41 := d39.1.2.1
 let v12_42 := d39.1.2.2.2.1
 let v13_43 := d39.1.2.2.2.2.1
 cond ((ixOK v13_43 l40.length) || !(decide (v12_42 ≤ v13_43))) (cond ((decide (v13_43.toNat < l40.length)) || !(decide (v12_42 ≤ v13_43))) (cond ((ixOK v1_41 l40.length) || !(decide (v12_42 ≤ v13_43))) (cond ((decide (v1_41.toNat < l40.length)) || !(decide (v12_42 ≤ v13_43))) (Option.bind (α := Int) (cond (decide (v12_42 ≤ v13_43)) (L_compare (Fm.eta (l40.getD v13_43.toNat (Fm.mk 0 0 [] []))) (Fm.eta (l40.getD v1_41.toNat (Fm.mk 0 0 [] [])))) (some (0 : Int))) fun r44 => (
 cond (cond (decide (v12_42 ≤ v13_43)) (!(decide (r44 < 0))) false) (some (Step.next (((), v1_41, (), v12_42, IntKind.wrap .i64 (v13_43 - 1), ()), (l40, ())))) (some (Step.done (((), v1_41, (), v12_42, v13_43, ()), (l40, ())))))) none) none) none) none)) (((), v1_36, (), v12_37, v13_38, ()), (l35, ()))) fun d45 => (
 let l46 := d45.2.1
 let v1_47 := d45.1.2.1
 let v12_48 := d45.1.2.2.2.1
 let v13_49 := d45.1.2.2.2.2.1
 cond (decide (v12_48 > v13_49)) (some (Step.done (((), v1_47, v13_49, ()), (l46, ())))) (cond (ixOK v13_49 l46.length) (cond (decide (v13_49.toNat < l46.length)) (cond (ixOK v12_48 l46.length) (cond (decide (v12_48.toNat < l46.length)) (cond (ixOK v12_48 l46.length) (cond (decide (v12_48.toNat < l46.length)) (cond (ixOK v13_49 l46.length) (cond (decide (v13_49.toNat < (l46.set v12_48.toNat (Fm.eta (l46.getD v13_49.toNat (Fm.mk 0 0 [] [])))).length)) (some (Step.next (((), v1_47, (), IntKind.wrap .i64 (v12_48 + 1), IntKind.wrap .i64 (v13_49 - 1), ()), ((l46.set v12_48.toNat (Fm.eta (l46.getD v13_49.toNat (Fm.mk 0 0 [] [])))).set v13_49.toNat (Fm.eta (l46.getD v12_48.toNat (Fm.mk 0 0 [] []))), ())))) none) none) none) none) none) none) none) none))))) (((), v1_20, (), IntKind.wrap .i64 (v12_21 + 1), IntKind.wrap .i64 (v13_22 - 1), ()), ((l19.set v12_21.toNat (Fm.eta (l19.getD v13_22.toNat (Fm.mk 0 0 [] [])))).set v13_22.toNat (Fm.eta (l19.getD v12_21.toNat (Fm.mk 0 0 [] []))), ()))) fun d50 => (
 let l51 := d50.2.1
 let v1_52 := d50.1.2.1
 let v13_53 := d50.1.2.2.1
 cond (ixOK v1_52 l51.length) (cond (decide (v1_52.toNat < l51.length)) (cond (ixOK v13_53 l51.length) (cond (decide (v13_53.toNat < l51.length)) (cond (ixOK v13_53 l51.length) (cond (decide (v13_53.toNat < l51.length)) (cond (ixOK v1_52 l51.length) (cond (decide (v1_52.toNat < (l51.set v13_53.toNat (Fm.eta (l51.getD v1_52.toNat (Fm.mk 0 0 [] [])))).length)) (some ((v13_53, false, ()), ((l51.set v13_53.toNat (Fm.eta (l51.getD v1_52.toNat (Fm.mk 0 0 [] [])))).set v1_52.toNat (Fm.eta (l51.getD v13_53.toNat (Fm.mk 0 0 [] []))), ()))) none) none) none) none) none) none) none) none)) none) none) none) none) none) none) none) none)))) none) none) none) none) none) none) none) none)
def A_partition : An := .seq (.leaf) (.seq (.leaf) (.seq (.leaf) (.join false { env := [(0, (.gs 0 .form)), (1, (.d (.int .i64))), (4, (.c (.fn (.func 84) [] []))), (12, (.d (.int .i64))), (13, (.d (.int .i64)))], objs := [(true, .tg .form 26)] } (.block (.loop { env := [(0, (.gs 0 .form)), (1, (.d (.int .i64))), (4, (.c (.fn (.func 84) [] []))), (12, (.d (.int .i64))), (13, (.d (.int .i64)))], objs := [(true, .tg .form 26)] } (.leaf))) (.join false { env := [(0, (.gs 0 .form)), (1, (.d (.int .i64))), (4, (.c (.fn (.func 84) [] []))), (12, (.d (.int .i64))), (13, (.d (.int .i64)))], objs := [(true, .tg .form 26)] } (.block (.loop { env := [(0, (.gs 0 .form)), (1, (.d (.int .i64))), (4, (.c (.fn (.func 84) [] []))), (12, (.d (.int .i64))), (13, (.d (.int .i64)))], objs := [(true, .tg .form 26)] } (.leaf))) (.seq (.leaf) (.seq (.leaf) (.seq (.leaf) (.seq (.leaf) (.join false { env := [(0, (.gs 0 .form)), (1, (.d (.int .i64))), (13, (.d (.int .i64)))], objs := [(true, .tg .form 26)] } (.block (.loop { env := [(0, (.gs 0 .form)), (1, (.d (.int .i64))), (4, (.c (.fn (.func 84) [] []))), (12, (.d (.int .i64))), (13, (.d (.int .i64)))], objs := [(true, .tg .form 26)] } (.block (.join false { env := [(0, (.gs 0 .form)), (1, (.d (.int .i64))), (4, (.c (.fn (.func 84) [] []))), (12, (.d (.int .i64))), (13, (.d (.int .i64)))], objs := [(true, .tg .form 26)] } (.block (.loop { env := [(0, (.gs 0 .form)), (1, (.d (.int .i64))), (4, (.c (.fn (.func 84) [] []))), (12, (.d (.int .i64))), (13, (.d (.int .i64)))], objs := [(true, .tg .form 26)] } (.leaf))) (.join false { env := [(0, (.gs 0 .form)), (1, (.d (.int .i64))), (4, (.c (.fn (.func 84) [] []))), (12, (.d (.int .i64))), (13, (.d (.int .i64)))], objs := [(true, .tg .form 26)] } (.block (.loop { env := [(0, (.gs 0 .form)), (1, (.d (.int .i64))), (4, (.c (.fn (.func 84) [] []))), (12, (.d (.int .i64))), (13, (.d (.int .i64)))], objs := [(true, .tg .form 26)] } (.leaf))) (.leaf)))))) (.leaf))))))))))
def H_partition : Nat → RH := fun _ => {}
noncomputable def S_partition : Sig := .o { pre := [(false, .tg .form 26)], args := [(.gs 0 .form), (.d (.int .i64)), (.d (.int .i64)), (.d (.int .i64)), (.c (.fn (.func 84) [] []))], post := [(true, .tg .form 26)], res := (.tup [(.d (.int .i64)), (.d .bool)]), f := fun x => G_partition x.1.2.1 x.1.2.2.1 x.1.2.2.2.1 x.2.1 }
theorem S_partition_ok : SigOK CX 182 S_partition := sigO_of (l := [(84, S_compare_l)]) ⟨S_compare_l_ok, trivial⟩ (hint := H_partition) (an := A_partition) (by kernel_rfl) (fun x => by kernel_rfl)
noncomputable def G_pdq (k : Nat) (x1 : Int) (x2 : Int) (x3 : Int) (o0 : List Fm) : Option ((Unit) × ((List Fm) × Unit)) := match k with
| 0 => none
| k + 1 => (
 loopM (L := (Unit × Int × Int × Int × Unit × Bool × Bool × Unit) × ((List Fm) × Unit)) (R := (Unit) × ((List Fm) × Unit)) (fun d1 => (
 let l2 := d1.2.1
 let v1_3 := d1.1.2.1
 let v2_4 := d1.1.2.2.1
 let v3_5 := d1.1.2.2.2.1
 let v10_6 := d1.1.2.2.2.2.2.1
 let v11_7 := d1.1.2.2.2.2.2.2.1
 cond (decide (IntKind.wrap .i64 (v2_4 - v1_3) ≤ 12)) (Option.bind (α := (Unit) × ((List Fm) × Unit)) (G_insSort v1_3 v2_4 l2) fun r8 => (
 some (Step.done ((), (r8.2.1, ()))))) (cond (decide (v3_5 = 0)) (Option.bind (α := (Unit) × ((List Fm) × Unit)) (G_heapSort v1_3 v2_4 l2) fun r9 => (
 some (Step.done ((), (r9.2.1, ()))))) (Option.bind (α := (Unit × Int × Int × Int × Unit × Bool × Bool × Int × Unit) × ((List Fm) × Unit))
 (cond (!v10_6) (Option.bind (α := (Unit) × ((List Fm) × Unit)) (G_breakPat v1_3 v2_4 l2) fun r10 => (
 some (((), v1_3, v2_4, IntKind.wrap .i64 (v3_5 - 1), (), v10_6, v11_7, IntKind.wrap .i64 (v2_4 - v1_3), ()), (r10.2.1, ())))) (some (((), v1_3, v2_4, v3_5, (), v10_6, v11_7, IntKind.wrap .i64 (v2_4 - v1_3), ()), (l2, ())))) fun d11 => (
 let l12 := d11.2.1
 let v1_13 := d11.1.2.1
 let v2_14 := d11.1.2.2.1
 let v3_15 := d11.1.2.2.2.1
 let v10_16 := d11.1.2.2.2.2.2.1
 let v11_17 := d11.1.2.2.2.2.2.2.1
 let v12_18 := d11.1.2.2.2.2.2.2.2.1
 Option.bind (α := (Int × Int × Unit) × ((List Fm) × Unit)) (G_choosePivot v1_13 v2_14 l12) fun r19 => (
 Option.bind (α := (Unit × Int × Int × Int × Unit × Bool × Bool × Int × Int × Int × Unit) × ((List Fm) × Unit))
 (cond (decide (r19.1.2.1 = 2)) (Option.bind (α := (Unit) × ((List Fm) × Unit)) (G_revRange v1_13 v2_14 r19.2.1) fun r20 => (
 some (((), v1_13, v2_14, v3_15, (), v10_16, v11_17, v12_18, IntKind.wrap .i64 (IntKind.wrap .i64 (v2_14 - 1) - IntKind.wrap .i64 (r19.1.1 - v1_13)), 1, ()), (r20.2.1, ())))) (some (((), v1_13, v2_14, v3_15, (), v10_16, v11_17, v12_18, r19.1.1, r19.1.2.1, ()), (r19.2.1, ())))) fun d21 => (
 let l22 := d21.2.1
 let v1_23 := d21.1.2.1
 let v2_24 := d21.1.2.2.1
 let v3_25 := d21.1.2.2.2.1
 let v10_26 := d21.1.2.2.2.2.2.1
 let v11_27 := d21.1.2.2.2.2.2.2.1
 let v12_28 := d21.1.2.2.2.2.2.2.2.1
 let v13_29 := d21.1.2.2.2.2.2.2.2.2.1
 let v14_30 := d21.1.2.2.2.2.2.2.2.2.2.1
 Option.bind (α := Step ((Unit × Int × Int × Int × Unit × Bool × Bool × Int × Int × Unit) × ((List Fm) × Unit)) (Step ((Unit × Int × Int × Int × Unit × Bool × Bool × Unit) × ((List Fm) × Unit)) ((Unit) × ((List Fm) × Unit))))
 (cond (cond (cond v10_26 v11_27 false) (decide (v14_30 = 1)) false) (Option.bind (α := (Bool) × ((List Fm) × Unit)) (G_partIns v1_23 v2_24 l22) fun r31 => (
 cond r31.1 (some (Step.done (Step.done ((), (r31.2.1, ()))))) (some (Step.next (((), v1_23, v2_24, v3_25, (), v10_26, v11_27, v12_28, v13_29, ()), (r31.2.1, ())))))) (some (Step.next (((), v1_23, v2_24, v3_25, (), v10_26, v11_27, v12_28, v13_29, ()), (l22, ()))))) fun qd32 => match qd32 with
 | .next d32 => (
 let l33 := d32.2.1
 let v1_34 := d32.1.2.1
 let v2_35 := d32.1.2.2.1
 let v3_36 := d32.1.2.2.2.1
 let v10_37 := d32.1.2.2.2.2.2.1
 let v11_38 := d32.1.2.2.2.2.2.2.1
 let v12_39 := d32.1.2.2.2.2.2.2.2.1
 let v13_40 := d32.1.2.2.2.2.2.2.2.2.1
 cond ((ixOK (IntKind.wrap .i64 (v1_34 - 1)) l33.length) || !(decide (v1_34 > 0))) (cond ((decide ((IntKind.wrap .i64 (v1_34 - 1)).toNat < l33.length)) || !(decide (v1_34 > 0))) (cond ((ixOK v13_40 l33.length) || !(decide (v1_34 > 0))) (cond ((decide (v13_40.toNat < l33.length)) || !(decide (v1_34 > 0))) (Option.bind (α := Int) (cond (decide (v1_34 > 0)) (L_compare (Fm.eta (l33.getD ((IntKind.wrap .i64 (v1_34 - 1)).toNat) (Fm.mk 0 0 [] []))) (Fm.eta (l33.getD v13_40.toNat (Fm.mk 0 0 [] [])))) (some (0 : Int))) fun r41 => (
 cond (cond (decide (v1_34 > 0)) (!(decide (r41 < 0))) false) (Option.bind (α := (Int) × ((List Fm) × Unit)) (G_partEq v1_34 v2_35 v13_40 l33) fun r42 => (
 some (Step.next (((), r42.1, v2_35, v3_36, (), v10_37, v11_38, ()), (r42.2.1, ()))))) (Option.bind (α := (Int × Bool × Unit) × ((List Fm) × Unit)) (G_partition v1_34 v2_35 v13_40 l33) fun r43 => (
 cond (decide (IntKind.wrap .i64 (r43.1.1 - v1_34) < IntKind.wrap .i64 (v2_35 - r43.1.1))) (Option.bind (α := (Unit) × ((List Fm) × Unit)) (G_pdq k v1_34 r43.1.1 v3_36 r43.2.1) fun r44 => (
 some (Step.next (((), IntKind.wrap .i64 (r43.1.1 + 1), v2_35, v3_36, (), decide (IntKind.wrap .i64 (r43.1.1 - v1_34) ≥ IntKind.wrap .i64 (Int.tdiv v12_39 8)), r43.1.2.1, ()), (r44.2.1, ()))))) (Option.bind (α := (Unit) × ((List Fm) × Unit)) (G_pdq k (IntKind.wrap .i64 (r43.1.1 + 1)) v2_35 v3_36 r43.2.1) fun r45 => (
 some (Step.next (((), v1_34, r43.1.1, v3_36, (), decide (IntKind.wrap .i64 (v2_35 - r43.1.1) ≥ IntKind.wrap .i64 (Int.tdiv v12_39 8)), r43.1.2.1, ()), (r45.2.1, ()))))))))) none) none) none) none)
 | .done r => some r))))))) (((), x1, x2, x3, (), true, true, ()), (o0, ())))
def A_pdq : An := .seq (.leaf) (.seq (.leaf) (.block (.loop { env := [(0, (.gs 0 .form)), (1, (.d (.int .i64))), (2, (.d (.int .i64))), (3, (.d (.int .i64))), (4, (.c (.fn (.func 84) [] []))), (10, (.d .bool)), (11, (.d .bool))], objs := [(true, .tg .form 26)] } (.block (.seq (.leaf) (.seq (.leaf) (.seq (.leaf) (.join false { env := [(0, (.gs 0 .form)), (1, (.d (.int .i64))), (2, (.d (.int .i64))), (3, (.d (.int .i64))), (4, (.c (.fn (.func 84) [] []))), (10, (.d .bool)), (11, (.d .bool)), (12, (.d (.int .i64)))], objs := [(true, .tg .form 26)] } (.leaf) (.seq (.leaf) (.join false { env := [(0, (.gs 0 .form)), (1, (.d (.int .i64))), (2, (.d (.int .i64))), (3, (.d (.int .i64))), (4, (.c (.fn (.func 84) [] []))), (10, (.d .bool)), (11, (.d .bool)), (12, (.d (.int .i64))), (13, (.d (.int .i64))), (14, (.d (.int .i64)))], objs := [(true, .tg .form 26)] } (.leaf) (.join true { env := [(0, (.gs 0 .form)), (1, (.d (.int .i64))), (2, (.d (.int .i64))), (3, (.d (.int .i64))), (4, (.c (.fn (.func 84) [] []))), (10, (.d .bool)), (11, (.d .bool)), (12, (.d (.int .i64))), (13, (.d (.int .i64)))], objs := [(true, .tg .form 26)] } (.leaf) (.leaf))))))))))))
def H_pdq : Nat → RH := fun r => match r with
 | 4 => { H := { ac := [30] } }
 | 6 => { H := { ac := [37] } }
 | 8 => { H := { ac := [44] } }
 | 10 => { H := { ac := [52] } }
 | 12 => { H := { ac := [61] } }
 | 16 => { H := { ac := [80] } }
 | 18 => { H := { ac := [103] } }
 | 20 => { H := { ac := [111] } }
 | 26 => { H := { ac := [134] } }
 | 29 => { H := { ac := [146] } }
 | _ => {}
noncomputable def S_pdq (k : Nat) : Sig := .o { pre := [(false, .tg .form 26)], args := [(.gs 0 .form), (.d (.int .i64)), (.d (.int .i64)), (.d (.int .i64)), (.c (.fn (.func 84) [] []))], post := [(true, .tg .form 26)], res := (.tup []), f := fun x => G_pdq k x.1.2.1 x.1.2.2.1 x.1.2.2.2.1 x.2.1 }
theorem S_pdq_ok : ∀ k, SigOK CX 162 (S_pdq k)
| 0 => ⟨by kernel_rfl, fun x r h => by cases h⟩
| k + 1 => by
 have ih := S_pdq_ok k
 exact sigO_of (l := [(157, S_insSort), (176, S_heapSort), (177, S_breakPat), (178, S_choosePivot), (179, S_revRange), (180, S_partIns), (84, S_compare_l), (181, S_partEq), (182, S_partition), (162, (S_pdq k))]) ⟨S_insSort_ok, S_heapSort_ok, S_breakPat_ok, S_choosePivot_ok, S_revRange_ok, S_partIns_ok, S_compare_l_ok, S_partEq_ok, S_partition_ok, ih, trivial⟩ (hint := H_pdq) (an := A_pdq) (by kernel_rfl) (fun x => by kernel_rfl)
noncomputable def L_pdq (x1 : Int) (x2 : Int) (x3 : Int) (o0 : List Fm) : Option ((Unit) × ((List Fm) × Unit)) := limF fun k => G_pdq k x1 x2 x3 o0
noncomputable def S_pdq_l : Sig := .o { pre := [(false, .tg .form 26)], args := [(.gs 0 .form), (.d (.int .i64)), (.d (.int .i64)), (.d (.int .i64)), (.c (.fn (.func 84) [] []))], post := [(true, .tg .form 26)], res := (.tup []), f := fun x => L_pdq x.1.2.1 x.1.2.2.1 x.1.2.2.2.1 x.2.1 }
theorem S_pdq_l_ok : SigOK CX 162 S_pdq_l := SigOK.limO S_pdq_ok fun x r h => limF_ex h
noncomputable def G_sortFunc (o0 : List Fm) : Option ((Unit) × ((List Fm) × Unit)) := (
 Option.bind (α := Int) (G_blen (IntKind.wrap .u64 ((o0.length : Int)))) fun r1 => (
 Option.bind (α := (Unit) × ((List Fm) × Unit)) (L_pdq 0 (o0.length : Int) r1 o0) fun r2 => (
 some ((), (r2.2.1, ())))))
def A_sortFunc : An := .leaf
def H_sortFunc : Nat → RH := fun r => match r with
 | 1 => { H := { ac := [13] } }
 | _ => {}
noncomputable def S_sortFunc : Sig := .o { pre := [(false, .tg .form 26)], args := [(.gs 0 .form), (.c (.fn (.func 84) [] []))], post := [(true, .tg .form 26)], res := (.tup []), f := fun x => G_sortFunc x.2.1 }
theorem S_sortFunc_ok : SigOK CX 136 S_sortFunc := sigO_of (l := [(163, S_blen), (162, S_pdq_l)]) ⟨S_blen_ok, S_pdq_l_ok, trivial⟩ (hint := H_sortFunc) (an := A_sortFunc) (by kernel_rfl) (fun x => by kernel_rfl)
end Go.Ab

set_option maxRecDepth 100000
namespace Go.Ab
open Go Go.RowKit Go.Proofs
noncomputable def G_requalQ (x0 : Fm) (x1 : Fm) : Option (Bool) := (
 Option.bind (α := Int) (L_compare (Fm.eta x0) (Fm.eta x1)) fun r1 => (
 some (decide (r1 = 0))))
def A_requalQ : An := .leaf
def H_requalQ : Nat → RH := fun _ => {}
noncomputable def S_requalQ : Sig := .n [(.d .form), (.d .form)] (.d .bool) (fun x => G_requalQ x.1 x.2.1)
theorem S_requalQ_ok : SigOK CX 86 S_requalQ := sigN_of (l := [(84, S_compare_l)]) ⟨S_compare_l_ok, trivial⟩ (hint := H_requalQ) (an := A_requalQ) (fun x => by kernel_rfl)
noncomputable def G_compact (o0 : List Fm) : Option ((Unit) × ((List Fm) × Unit)) := (
 cond (decide ((o0.length : Int) < 2)) (some ((), (o0, ()))) (Option.bind (α := Step ((Unit × Unit) × ((List Fm) × Unit)) ((Unit) × ((List Fm) × Unit)))
 (loopM (L := (Unit × Unit × Int × Unit) × ((List Fm) × Unit)) (R := Step ((Unit × Unit) × ((List Fm) × Unit)) ((Unit) × ((List Fm) × Unit))) (fun d1 => (
 let l2 := d1.2.1
 let v5_3 := d1.1.2.2.1
 cond (decide (v5_3 < (l2.length : Int))) (Option.bind (α := Step ((Unit × Unit × Int × Unit) × ((List Fm) × Unit)) (Step ((Unit × Unit × Int × Unit) × ((List Fm) × Unit)) (Step ((Unit × Unit) × ((List Fm) × Unit)) ((Unit) × ((List Fm) × Unit)))))
 (cond (ixOK v5_3 l2.length) (cond (decide (v5_3.toNat < l2.length)) (cond (ixOK (IntKind.wrap .i64 (v5_3 - 1)) l2.length) (cond (decide ((IntKind.wrap .i64 (v5_3 - 1)).toNat < l2.length)) (Option.bind (α := Bool) (G_requalQ (Fm.eta (l2.getD v5_3.toNat (Fm.mk 0 0 [] []))) (Fm.eta (l2.getD ((IntKind.wrap .i64 (v5_3 - 1)).toNat) (Fm.mk 0 0 [] [])))) fun r4 => (
 cond r4 (cond (slOK v5_3 (l2.length : Int) l2.length) (Option.bind (α := (Unit × Int × Unit) × ((List Fm) × Unit))
 (loopM (L := (Unit × Unit × Int × (Nat × Nat) × Int × Unit) × ((List Fm) × Unit)) (R := (Unit × Int × Unit) × ((List Fm) × Unit)) (fun d5 => (
 let l6 := d5.2.1
 let v5_7 := d5.1.2.2.1
 let v7_8 := d5.1.2.2.2.2.1
 cond (decide (v7_8 < (d5.1.2.2.2.1.2 : Int))) (Option.bind (α := (Unit × Unit × Int × (Nat × Nat) × Int × Unit) × ((List Fm) × Unit))
 (cond (ixOK v7_8 d5.1.2.2.2.1.2) (cond (decide (d5.1.2.2.2.1.1 + v7_8.toNat < l6.length)) (cond (ixOK (IntKind.wrap .i64 (v7_8 - 1)) d5.1.2.2.2.1.2) (cond (decide (d5.1.2.2.2.1.1 + (IntKind.wrap .i64 (v7_8 - 1)).toNat < l6.length)) (Option.bind (α := Bool) (G_requalQ (Fm.eta (l6.getD (d5.1.2.2.2.1.1 + v7_8.toNat) (Fm.mk 0 0 [] []))) (Fm.eta (l6.getD (d5.1.2.2.2.1.1 + (IntKind.wrap .i64 (v7_8 - 1)).toNat) (Fm.mk 0 0 [] [])))) fun r9 => (
 cond (!r9) (cond (ixOK v7_8 d5.1.2.2.2.1.2) (cond (decide (d5.1.2.2.2.1.1 + v7_8.toNat < l6.length)) (cond (ixOK v5_7 l6.length) (cond (decide (v5_7.toNat < l6.length)) (some (((), (), IntKind.wrap .i64 (v5_7 + 1), (d5.1.2.2.2.1.1, d5.1.2.2.2.1.2), v7_8, ()), (l6.set v5_7.toNat (Fm.eta (l6.getD (d5.1.2.2.2.1.1 + v7_8.toNat) (Fm.mk 0 0 [] []))), ()))) none) none) none) none) (some (((), (), v5_7, (d5.1.2.2.2.1.1, d5.1.2.2.2.1.2), v7_8, ()), (l6, ()))))) none) none) none) none) fun d10 => (
 let l11 := d10.2.1
 let v5_12 := d10.1.2.2.1
 let v7_13 := d10.1.2.2.2.2.1
 some (Step.next (((), (), v5_12, (d10.1.2.2.2.1.1, d10.1.2.2.2.1.2), IntKind.wrap .i64 (v7_13 + 1), ()), (l11, ()))))) (some (Step.done (((), v5_7, ()), (l6, ())))))) (((), (), v5_3, (v5_3.toNat, (l2.length : Int).toNat - v5_3.toNat), 1, ()), (l2, ()))) fun d14 => (
 let l15 := d14.2.1
 let v5_16 := d14.1.2.1
 cond (slOK v5_16 (l15.length : Int) l15.length) (cond (decide (v5_16.toNat + ((l15.length : Int).toNat - v5_16.toNat) ≤ l15.length)) (cond (hiOK v5_16 (l15.take v5_16.toNat ++ (List.replicate ((l15.length : Int).toNat - v5_16.toNat) (Fm.mk 0 0 ([]) ([] : List Fm)) ++ l15.drop (v5_16.toNat + ((l15.length : Int).toNat - v5_16.toNat)))).length) (some (Step.done (Step.done (Step.done ((), ((l15.take v5_16.toNat ++ (List.replicate ((l15.length : Int).toNat - v5_16.toNat) (Fm.mk 0 0 ([]) ([] : List Fm)) ++ l15.drop (v5_16.toNat + ((l15.length : Int).toNat - v5_16.toNat)))).take v5_16.toNat, ())))))) none) none) none)) none) (some (Step.next (((), (), v5_3, ()), (l2, ())))))) none) none) none) none) fun qd17 => match qd17 with
 | .next d17 => (
 let l18 := d17.2.1
 let v5_19 := d17.1.2.2.1
 some (Step.next (((), (), IntKind.wrap .i64 (v5_19 + 1), ()), (l18, ()))))
 | .done r => some r) (some (Step.done (Step.next (((), ()), (l2, ()))))))) (((), (), 1, ()), (o0, ()))) fun qd20 => match qd20 with
 | .next d20 => (
 let l21 := d20.2.1
 some ((), (l21, ())))
 | .done r => some r))
def A_compact : An := .seq (.leaf) (.seq (.leaf) (.join true { env := [(0, (.gs 0 .form))], objs := [(true, .tg .form 26)] } (.seq (.leaf) (.block (.loop { env := [(0, (.gs 0 .form)), (1, (.c (.fn (.func 86) [] []))), (5, (.d (.int .i64)))], objs := [(true, .tg .form 26)] } (.seq (.leaf) (.join true { env := [(0, (.gs 0 .form)), (1, (.c (.fn (.func 86) [] []))), (5, (.d (.int .i64)))], objs := [(true, .tg .form 26)] } (.block (.seq (.leaf) (.cond (.seq (.leaf) (.join false { env := [(0, (.gs 0 .form)), (5, (.d (.int .i64)))], objs := [(true, .tg .form 26)] } (.seq (.leaf) (.block (.loop { env := [(0, (.gs 0 .form)), (1, (.c (.fn (.func 86) [] []))), (5, (.d (.int .i64))), (6, (.gv 0 .form)), (7, (.d (.int .i64)))], objs := [(true, .tg .form 26)] } (.seq (.leaf) (.join false { env := [(0, (.gs 0 .form)), (1, (.c (.fn (.func 86) [] []))), (5, (.d (.int .i64))), (6, (.gv 0 .form)), (7, (.d (.int .i64)))], objs := [(true, .tg .form 26)] } (.leaf) (.leaf)))))) (.leaf))) (.leaf)))) (.leaf)))))) (.leaf)))
def H_compact : Nat → RH := fun r => match r with
 | 15 => { H := { mb := [64] } }
 | _ => {}
noncomputable def S_compact : Sig := .o { pre := [(false, .tg .form 26)], args := [(.gs 0 .form), (.c (.fn (.func 86) [] []))], post := [(false, .tg .form 26)], res := (.gs 0 .form), f := fun x => G_compact x.2.1 }
theorem S_compact_ok : SigOK CX 85 S_compact := sigO_of (l := [(86, S_requalQ)]) ⟨S_requalQ_ok, trivial⟩ (hint := H_compact) (an := A_compact) (by kernel_rfl) (fun x => by kernel_rfl)
noncomputable def G_sorted (x0 : List Fm) : Option (List Fm) := (
 Option.bind (α := (Unit) × ((List Fm) × Unit)) (cloneF 56 x0) fun r1 => (
 Option.bind (α := (Unit) × ((List Fm) × Unit)) (G_sortFunc r1.2.1) fun r2 => (
 Option.bind (α := (Unit) × ((List Fm) × Unit)) (G_compact r2.2.1) fun r3 => (
 some r3.2.1))))
def A_sorted : An := .leaf
def H_sorted : Nat → RH := fun r => match r with
 | 1 => { H := { ac := [5] } }
 | 2 => { H := { ac := [7] } }
 | 3 => { H := { ac := [9] } }
 | _ => {}
noncomputable def S_sorted : Sig := .n [(.d (.slice .form))] (.d (.slice .form)) (fun x => G_sorted x.1)
theorem S_sorted_ok : SigOK CX 99 S_sorted := sigN_of (l := [(82, S_clone), (136, S_sortFunc), (85, S_compact)]) ⟨S_clone_ok, S_sortFunc_ok, S_compact_ok, trivial⟩ (hint := H_sorted) (an := A_sorted) (fun x => by kernel_rfl)
noncomputable def G_lnames (x0 : List (Int × List (Int × Fm))) : Option (List Fm) := (
 Option.bind (α := (Unit × Unit) × ((List Fm) × Unit))
 (loopM (L := (Unit × (List (Int × List (Int × Fm))) × Int × Int × Unit) × ((List Fm) × Unit)) (R := (Unit × Unit) × ((List Fm) × Unit)) (fun d1 => (
 let l2 := d1.2.1
 let v8_3 := d1.1.2.1
 let v9_4 := d1.1.2.2.1
 let v10_5 := d1.1.2.2.2.1
 cond (decide (v10_5 < v9_4)) (Option.bind (α := (Unit × (List (Int × List (Int × Fm))) × Int × Int × Unit) × ((List Fm) × Unit))
 (cond (ixOK v10_5 v8_3.length) (loopM (L := (Unit × (List (Int × List (Int × Fm))) × Int × Int × (List (Int × Fm)) × Int × Int × Unit) × ((List Fm) × Unit)) (R := (Unit × (List (Int × List (Int × Fm))) × Int × Int × Unit) × ((List Fm) × Unit)) (fun d6 => (
 let l7 := d6.2.1
 let v8_8 := d6.1.2.1
 let v9_9 := d6.1.2.2.1
 let v10_10 := d6.1.2.2.2.1
 let v15_11 := d6.1.2.2.2.2.1
 let v16_12 := d6.1.2.2.2.2.2.1
 let v17_13 := d6.1.2.2.2.2.2.2.1
 cond (decide (v17_13 < v16_12)) (cond (ixOK v17_13 v15_11.length) (cond (decide ((l7.length + ([(Fm.eta ((v15_11.getD v17_13.toNat ((0 : Int), (Fm.mk 0 0 [] []))).2))]).length) * 56 ≤ 140737488355328)) (some (Step.next (((), v8_8, v9_9, v10_10, v15_11, v16_12, IntKind.wrap .i64 (v17_13 + 1), ()), (l7 ++ ([(Fm.eta ((v15_11.getD v17_13.toNat ((0 : Int), (Fm.mk 0 0 [] []))).2))]), ())))) none) none) (some (Step.done (((), v8_8, v9_9, v10_10, ()), (l7, ())))))) (((), v8_3, v9_4, v10_5, (v8_3.getD v10_5.toNat ((0 : Int), ([] : List (Int × Fm)))).2, (((v8_3.getD v10_5.toNat ((0 : Int), ([] : List (Int × Fm)))).2).length : Int), 0, ()), (l2, ()))) none) fun d14 => (
 let l15 := d14.2.1
 let v8_16 := d14.1.2.1
 let v9_17 := d14.1.2.2.1
 let v10_18 := d14.1.2.2.2.1
 some (Step.next (((), v8_16, v9_17, IntKind.wrap .i64 (v10_18 + 1), ()), (l15, ()))))) (some (Step.done (((), ()), (l2, ())))))) (((), x0, (x0.length : Int), 0, ()), (([] : List Fm), ()))) fun d19 => (
 let l20 := d19.2.1
 Option.bind (α := List Fm) (G_sorted l20) fun r21 => (
 some r21)))
def A_lnames : An := .seq (.leaf) (.seq (.leaf) (.join false { env := [(3, (.gs 0 .form))], objs := [(false, .tg .form 26)] } (.seq (.leaf) (.block (.loop { env := [(3, (.gs 0 .form)), (8, (.d (.slice (.pr (.int .i64) (.slice (.pr (.int .i64) .form)))))), (9, (.d (.int .i64))), (10, (.d (.int .i64)))], objs := [(false, .tg .form 26)] } (.seq (.leaf) (.seq (.leaf) (.join false { env := [(3, (.gs 0 .form)), (8, (.d (.slice (.pr (.int .i64) (.slice (.pr (.int .i64) .form)))))), (9, (.d (.int .i64))), (10, (.d (.int .i64)))], objs := [(false, .tg .form 26)] } (.block (.seq (.leaf) (.seq (.leaf) (.block (.loop { env := [(3, (.gs 0 .form)), (8, (.d (.slice (.pr (.int .i64) (.slice (.pr (.int .i64) .form)))))), (9, (.d (.int .i64))), (10, (.d (.int .i64))), (15, (.d (.slice (.pr (.int .i64) .form)))), (16, (.d (.int .i64))), (17, (.d (.int .i64)))], objs := [(false, .tg .form 26)] } (.leaf)))))) (.leaf))))))) (.frz [0] (.leaf))))
def H_lnames : Nat → RH := fun r => match r with
 | 8 => { H := { ty := [(25, .form)] } }
 | _ => {}
noncomputable def S_lnames : Sig := .n [(.d (.slice (.pr (.int .i64) (.slice (.pr (.int .i64) .form)))))] (.d (.slice .form)) (fun x => G_lnames x.1)
theorem S_lnames_ok : SigOK CX 55 S_lnames := sigN_of (l := [(99, S_sorted)]) ⟨S_sorted_ok, trivial⟩ (hint := H_lnames) (an := A_lnames) (fun x => by kernel_rfl)
noncomputable def G_lNames (x0 : List (Int × List (Int × Fm))) : Option (List Fm) := (
 Option.bind (α := List Fm) (G_lnames x0) fun r1 => (
 Option.bind (α := List Fm) (G_copies r1) fun r2 => (
 some r2)))
def A_lNames : An := .leaf
def H_lNames : Nat → RH := fun _ => {}
noncomputable def S_lNames : Sig := .n [(.d (.slice (.pr (.int .i64) (.slice (.pr (.int .i64) .form)))))] (.d (.slice .form)) (fun x => G_lNames x.1)
theorem S_lNames_ok : SigOK CX 16 S_lNames := sigN_of (l := [(55, S_lnames), (54, S_copies)]) ⟨S_lnames_ok, S_copies_ok, trivial⟩ (hint := H_lNames) (an := A_lNames) (fun x => by kernel_rfl)
end Go.Ab

set_option maxRecDepth 100000
namespace Go.Ab
open Go Go.RowKit Go.Proofs
end Go.Ab

set_option maxRecDepth 100000
namespace Go.Ab
open Go Go.RowKit Go.Proofs
noncomputable def G_own (k : Nat) (x0 : Fm) : Option (Fm) := match k with
| 0 => none
| k + 1 => (
 Option.bind (α := (Unit × Unit × Unit × Unit) × ((Int × Int × (List UInt8) × (List Fm) × Unit) × (Int × Int × (List UInt8) × Unit × Unit) × (List Fm) × Unit))
 (loopM (L := (Unit × Unit × Unit × Int × Unit) × ((Int × Int × (List UInt8) × (List Fm) × Unit) × (Int × Int × (List UInt8) × Unit × Unit) × (List Fm) × Unit)) (R := (Unit × Unit × Unit × Unit) × ((Int × Int × (List UInt8) × (List Fm) × Unit) × (Int × Int × (List UInt8) × Unit × Unit) × (List Fm) × Unit)) (fun d1 => (
 let c2 := d1.2.1.1
 let c3 := d1.2.1.2.1
 let c4 := d1.2.1.2.2.1
 let c5 := d1.2.1.2.2.2.1
 let l6 := d1.2.2.2.1
 let v4_7 := d1.1.2.2.2.1
 cond (decide (v4_7 < (c5.length : Int))) (cond (ixOK v4_7 c5.length) (Option.bind (α := Fm) (G_own k (Fm.eta (c5.getD v4_7.toNat (Fm.mk 0 0 [] [])))) fun r8 => (
 cond (decide ((l6.length + ([(Fm.eta r8)]).length) * 56 ≤ 140737488355328)) (some (Step.next (((), (), (), IntKind.wrap .i64 (v4_7 + 1), ()), ((c2, c3, c4, c5, ()), (d1.2.2.1.1, d1.2.2.1.2.1, d1.2.2.1.2.2.1, (), ()), l6 ++ ([(Fm.eta r8)]), ())))) none)) none) (some (Step.done (((), (), (), ()), ((c2, c3, c4, c5, ()), (d1.2.2.1.1, d1.2.2.1.2.1, d1.2.2.1.2.2.1, (), ()), l6, ())))))) (((), (), (), 0, ()), ((x0.k, x0.n, x0.t, x0.l, ()), (0, 0, [], (), ()), ([] : List Fm), ()))) fun d9 => (
 let c10 := d9.2.1.1
 let c11 := d9.2.1.2.1
 let c12 := d9.2.1.2.2.1
 let c13 := d9.2.1.2.2.2.1
 let l14 := d9.2.2.2.1
 some (Fm.mk c10 c11 c12 l14)))
def A_own : An := .seq (.leaf) (.seq (.leaf) (.join false { env := [(1, (.ref 0 0)), (2, (.ref 1 0)), (3, (.gs 2 .form))], objs := [(false, .cells 26 [(.d (.int .i64)), (.d (.int .i64)), (.d .str), (.d (.slice .form))]), (false, .cells 26 [(.d (.int .i64)), (.d (.int .i64)), (.d .str), (.c (.base (.slice none 0 0)))]), (false, .tg .form 26)] } (.seq (.leaf) (.block (.loop { env := [(1, (.ref 0 0)), (2, (.ref 1 0)), (3, (.gs 2 .form)), (4, (.d (.int .i64)))], objs := [(false, .cells 26 [(.d (.int .i64)), (.d (.int .i64)), (.d .str), (.d (.slice .form))]), (false, .cells 26 [(.d (.int .i64)), (.d (.int .i64)), (.d .str), (.c (.base (.slice none 0 0)))]), (false, .tg .form 26)] } (.leaf)))) (.leaf)))
def H_own : Nat → RH := fun r => match r with
 | 0 => { H := { mb := [1] } }
 | 5 => { H := { ty := [(20, .form)] } }
 | _ => {}
noncomputable def S_own (k : Nat) : Sig := .n [(.d .form)] (.d .form) (fun x => G_own k x.1)
theorem S_own_rec : ∀ k, SigOK CX 87 (S_own k)
| 0 => fun x r h => by cases h
| k + 1 => by
 have ih := S_own_rec k
 exact sigN_of (l := [(87, (S_own k))]) ⟨ih, trivial⟩ (hint := H_own) (an := A_own) (fun x => by kernel_rfl)
theorem S_own_ok : ∀ k, SigOK CX 87 (S_own k) := fun k => S_own_rec k
noncomputable def L_own (x0 : Fm) : Option (Fm) := limF fun k => G_own k x0
noncomputable def S_own_l : Sig := .n [(.d .form)] (.d .form) (fun x => L_own x.1)
theorem S_own_l_ok : SigOK CX 87 S_own_l := SigOK.limN S_own_ok fun x r h => limF_ex h
noncomputable def G_refEqual1 (x0 : Fm) (x1 : Fm) : Option (Bool) := (
 Option.bind (α := Int) (L_refCompare (Fm.eta x0) (Fm.eta x1)) fun r1 => (
 some (decide (r1 = 0))))
def A_refEqual1 : An := .leaf
def H_refEqual1 : Nat → RH := fun _ => {}
noncomputable def S_refEqual1 : Sig := .n [(.d .form), (.d .form)] (.d .bool) (fun x => G_refEqual1 x.1 x.2.1)
theorem S_refEqual1_ok : SigOK CX 25 S_refEqual1 := sigN_of (l := [(64, S_refCompare_l)]) ⟨S_refCompare_l_ok, trivial⟩ (hint := H_refEqual1) (an := A_refEqual1) (fun x => by kernel_rfl)
end Go.Ab
