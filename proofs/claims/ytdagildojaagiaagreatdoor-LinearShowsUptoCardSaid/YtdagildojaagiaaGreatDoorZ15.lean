/-
  THE ORDER OF FORMS: what the reference's comparison comes to; and the statement, in plain terms.
-/
import Derived.Test.YtdagildojaagiaaGreatDoorZ14
import Derived.Test.YtdagildojaagiaaGreatDoorZ12
import Derived.Test.YtdagildojaagiaaGreatDoorZ11
import Derived.Test.YtdagildojaagiaaGreatDoorZ13
set_option linter.unusedVariables false
set_option linter.unusedSimpArgs false
set_option maxRecDepth 100000
namespace Go.Ab
open Go Go.RowKit Go.Proofs
noncomputable def G_refSort (x0 : List Fm) : Option (List Fm) := (
 Option.bind (α := (Unit × Unit) × ((List Fm) × Unit))
 (loopM (L := ((List Fm) × Unit × Int × Unit) × ((List Fm) × Unit)) (R := (Unit × Unit) × ((List Fm) × Unit)) (fun d1 => (
 let l2 := d1.2.1
 let v0_3 := d1.1.1
 let v4_4 := d1.1.2.2.1
 cond (decide (v4_4 < (v0_3.length : Int))) (Option.bind (α := ((List Fm) × Unit × Int × Unit) × ((List Fm) × Unit))
 (Option.bind (α := ((List Fm) × Unit × Int × Int × Unit) × ((List Fm) × Unit))
 (loopM (L := ((List Fm) × Unit × Int × Int × Unit) × ((List Fm) × Unit)) (R := ((List Fm) × Unit × Int × Int × Unit) × ((List Fm) × Unit)) (fun d5 => (
 let l6 := d5.2.1
 let v0_7 := d5.1.1
 let v4_8 := d5.1.2.2.1
 let v5_9 := d5.1.2.2.2.1
 cond ((ixOK v5_9 l6.length) || !(decide (v5_9 < (l6.length : Int)))) (cond ((decide (v5_9.toNat < l6.length)) || !(decide (v5_9 < (l6.length : Int)))) (cond ((ixOK v4_8 v0_7.length) || !(decide (v5_9 < (l6.length : Int)))) (Option.bind (α := Int) (cond (decide (v5_9 < (l6.length : Int))) (L_refCompare (Fm.eta (l6.getD v5_9.toNat (Fm.mk 0 0 [] []))) (Fm.eta (v0_7.getD v4_8.toNat (Fm.mk 0 0 [] [])))) (some (0 : Int))) fun r10 => (
 cond (cond (decide (v5_9 < (l6.length : Int))) (decide (r10 < 0)) false) (some (Step.next ((v0_7, (), v4_8, IntKind.wrap .i64 (v5_9 + 1), ()), (l6, ())))) (some (Step.done ((v0_7, (), v4_8, v5_9, ()), (l6, ())))))) none) none) none)) ((v0_3, (), v4_4, 0, ()), (l2, ()))) fun d11 => (
 let l12 := d11.2.1
 let v0_13 := d11.1.1
 let v4_14 := d11.1.2.2.1
 let v5_15 := d11.1.2.2.2.1
 cond ((ixOK v5_15 l12.length) || !(decide (v5_15 < (l12.length : Int)))) (cond ((decide (v5_15.toNat < l12.length)) || !(decide (v5_15 < (l12.length : Int)))) (cond ((ixOK v4_14 v0_13.length) || !(decide (v5_15 < (l12.length : Int)))) (Option.bind (α := Bool) (cond (decide (v5_15 < (l12.length : Int))) (G_refEqual1 (Fm.eta (l12.getD v5_15.toNat (Fm.mk 0 0 [] []))) (Fm.eta (v0_13.getD v4_14.toNat (Fm.mk 0 0 [] [])))) (some false)) fun r16 => (
 cond (cond (decide (v5_15 < (l12.length : Int))) r16 false) (some ((v0_13, (), v4_14, ()), (l12, ()))) (cond (slOK 0 v5_15 l12.length) (cond (decide ((([] : List Fm).length + ((l12.drop (0 : Int).toNat).take (v5_15.toNat - (0 : Int).toNat)).length) * 56 ≤ 140737488355328)) (cond (ixOK v4_14 v0_13.length) (Option.bind (α := Fm) (L_own (Fm.eta (v0_13.getD v4_14.toNat (Fm.mk 0 0 [] [])))) fun r17 => (
 cond (decide (((([] : List Fm) ++ ((l12.drop (0 : Int).toNat).take (v5_15.toNat - (0 : Int).toNat))).length + ([(Fm.eta r17)]).length) * 56 ≤ 140737488355328)) (cond (slOK v5_15 (l12.length : Int) l12.length) (cond (decide ((((([] : List Fm) ++ ((l12.drop (0 : Int).toNat).take (v5_15.toNat - (0 : Int).toNat))) ++ ([(Fm.eta r17)])).length + ((l12.drop v5_15.toNat).take ((l12.length : Int).toNat - v5_15.toNat)).length) * 56 ≤ 140737488355328)) (some ((v0_13, (), v4_14, ()), (((([] : List Fm) ++ ((l12.drop (0 : Int).toNat).take (v5_15.toNat - (0 : Int).toNat))) ++ ([(Fm.eta r17)])) ++ ((l12.drop v5_15.toNat).take ((l12.length : Int).toNat - v5_15.toNat)), ()))) none) none) none)) none) none) none))) none) none) none)) fun d18 => (
 let l19 := d18.2.1
 let v0_20 := d18.1.1
 let v4_21 := d18.1.2.2.1
 some (Step.next ((v0_20, (), IntKind.wrap .i64 (v4_21 + 1), ()), (l19, ()))))) (some (Step.done (((), ()), (l2, ())))))) ((x0, (), 0, ()), (([] : List Fm), ()))) fun d22 => (
 let l23 := d22.2.1
 some l23))
def A_refSort : An := .seq (.leaf) (.seq (.leaf) (.join false { env := [(3, (.gs 0 .form))], objs := [(false, .tg .form 26)] } (.seq (.leaf) (.block (.loop { env := [(0, (.d (.slice .form))), (3, (.gs 0 .form)), (4, (.d (.int .i64)))], objs := [(false, .tg .form 26)] } (.seq (.leaf) (.join false { env := [(0, (.d (.slice .form))), (3, (.gs 0 .form)), (4, (.d (.int .i64)))], objs := [(false, .tg .form 26)] } (.block (.seq (.leaf) (.join false { env := [(0, (.d (.slice .form))), (3, (.gs 0 .form)), (4, (.d (.int .i64))), (5, (.d (.int .i64)))], objs := [(false, .tg .form 26)] } (.block (.loop { env := [(0, (.d (.slice .form))), (3, (.gs 0 .form)), (4, (.d (.int .i64))), (5, (.d (.int .i64)))], objs := [(false, .tg .form 26)] } (.leaf))) (.seq (.leaf) (.frz [0] (.leaf)))))) (.leaf)))))) (.leaf)))
def H_refSort : Nat → RH := fun r => match r with
 | 6 => { H := { pl := [25] } }
 | 8 => { H := { pl := [43] } }
 | 9 => { H := { mb := [46], ty := [(46, .form), (50, .form)] } }
 | 10 => { H := { ty := [(58, .form)] } }
 | 11 => { H := { ty := [(63, .form)] } }
 | _ => {}
noncomputable def S_refSort : Sig := .n [(.d (.slice .form))] (.d (.slice .form)) (fun x => G_refSort x.1)
theorem S_refSort_ok : SigOK CX 46 S_refSort := sigN_of (l := [(64, S_refCompare_l), (25, S_refEqual1), (87, S_own_l)]) ⟨S_refCompare_l_ok, S_refEqual1_ok, S_own_l_ok, trivial⟩ (hint := H_refSort) (an := A_refSort) (fun x => by kernel_rfl)
noncomputable def G_refEqualAll (x0 : List Fm) (x1 : List Fm) : Option (Bool) := (
 Option.bind (α := Fm) (G_refList x0) fun r1 => (
 Option.bind (α := Fm) (G_refList x1) fun r2 => (
 Option.bind (α := Bool) (G_refEqual1 (Fm.eta r1) (Fm.eta r2)) fun r3 => (
 some r3))))
def A_refEqualAll : An := .leaf
def H_refEqualAll : Nat → RH := fun _ => {}
noncomputable def S_refEqualAll : Sig := .n [(.d (.slice .form)), (.d (.slice .form))] (.d .bool) (fun x => G_refEqualAll x.1 x.2.1)
theorem S_refEqualAll_ok : SigOK CX 15 S_refEqualAll := sigN_of (l := [(53, S_refList), (25, S_refEqual1)]) ⟨S_refList_ok, S_refEqual1_ok, trivial⟩ (hint := H_refEqualAll) (an := A_refEqualAll) (fun x => by kernel_rfl)
noncomputable def G_refNames (x0 : List (Int × List (Int × Fm))) : Option (List Fm) := (
 Option.bind (α := (Unit × Unit) × ((List Fm) × Unit))
 (loopM (L := ((List (Int × List (Int × Fm))) × Unit × Int × Unit) × ((List Fm) × Unit)) (R := (Unit × Unit) × ((List Fm) × Unit)) (fun d1 => (
 let l2 := d1.2.1
 let v0_3 := d1.1.1
 let v4_4 := d1.1.2.2.1
 cond (decide (v4_4 < (v0_3.length : Int))) (Option.bind (α := ((List (Int × List (Int × Fm))) × Unit × Int × Unit) × ((List Fm) × Unit))
 (loopM (L := ((List (Int × List (Int × Fm))) × Unit × Int × Int × Unit) × ((List Fm) × Unit)) (R := ((List (Int × List (Int × Fm))) × Unit × Int × Unit) × ((List Fm) × Unit)) (fun d5 => (
 let l6 := d5.2.1
 let v0_7 := d5.1.1
 let v4_8 := d5.1.2.2.1
 let v5_9 := d5.1.2.2.2.1
 cond (ixOK v4_8 v0_7.length) (cond (decide (v5_9 < (((v0_7.getD v4_8.toNat ((0 : Int), ([] : List (Int × Fm)))).2).length : Int))) (cond (ixOK v4_8 v0_7.length) (cond (ixOK v5_9 ((v0_7.getD v4_8.toNat ((0 : Int), ([] : List (Int × Fm)))).2).length) (cond (decide ((l6.length + ([(Fm.eta ((((v0_7.getD v4_8.toNat ((0 : Int), ([] : List (Int × Fm)))).2).getD v5_9.toNat ((0 : Int), (Fm.mk 0 0 [] []))).2))]).length) * 56 ≤ 140737488355328)) (some (Step.next ((v0_7, (), v4_8, IntKind.wrap .i64 (v5_9 + 1), ()), (l6 ++ ([(Fm.eta ((((v0_7.getD v4_8.toNat ((0 : Int), ([] : List (Int × Fm)))).2).getD v5_9.toNat ((0 : Int), (Fm.mk 0 0 [] []))).2))]), ())))) none) none) none) (some (Step.done ((v0_7, (), v4_8, ()), (l6, ()))))) none)) ((v0_3, (), v4_4, 0, ()), (l2, ()))) fun d10 => (
 let l11 := d10.2.1
 let v0_12 := d10.1.1
 let v4_13 := d10.1.2.2.1
 some (Step.next ((v0_12, (), IntKind.wrap .i64 (v4_13 + 1), ()), (l11, ()))))) (some (Step.done (((), ()), (l2, ())))))) ((x0, (), 0, ()), (([] : List Fm), ()))) fun d14 => (
 let l15 := d14.2.1
 Option.bind (α := List Fm) (G_refSort l15) fun r16 => (
 some r16)))
def A_refNames : An := .seq (.leaf) (.seq (.leaf) (.join false { env := [(3, (.gs 0 .form))], objs := [(false, .tg .form 26)] } (.seq (.leaf) (.block (.loop { env := [(0, (.d (.slice (.pr (.int .i64) (.slice (.pr (.int .i64) .form)))))), (3, (.gs 0 .form)), (4, (.d (.int .i64)))], objs := [(false, .tg .form 26)] } (.seq (.leaf) (.join false { env := [(0, (.d (.slice (.pr (.int .i64) (.slice (.pr (.int .i64) .form)))))), (3, (.gs 0 .form)), (4, (.d (.int .i64)))], objs := [(false, .tg .form 26)] } (.block (.seq (.leaf) (.block (.loop { env := [(0, (.d (.slice (.pr (.int .i64) (.slice (.pr (.int .i64) .form)))))), (3, (.gs 0 .form)), (4, (.d (.int .i64))), (5, (.d (.int .i64)))], objs := [(false, .tg .form 26)] } (.leaf))))) (.leaf)))))) (.frz [0] (.leaf))))
def H_refNames : Nat → RH := fun r => match r with
 | 8 => { H := { ty := [(33, .form)] } }
 | _ => {}
noncomputable def S_refNames : Sig := .n [(.d (.slice (.pr (.int .i64) (.slice (.pr (.int .i64) .form)))))] (.d (.slice .form)) (fun x => G_refNames x.1)
theorem S_refNames_ok : SigOK CX 56 S_refNames := sigN_of (l := [(46, S_refSort)]) ⟨S_refSort_ok, trivial⟩ (hint := H_refNames) (an := A_refNames) (fun x => by kernel_rfl)
noncomputable def G_refNames2 (x0 : List (Int × List (Int × Fm))) : Option (List Fm) := (
 Option.bind (α := List Fm) (G_refNames x0) fun r1 => (
 some r1))
def A_refNames2 : An := .leaf
def H_refNames2 : Nat → RH := fun _ => {}
noncomputable def S_refNames2 : Sig := .n [(.d (.slice (.pr (.int .i64) (.slice (.pr (.int .i64) .form)))))] (.d (.slice .form)) (fun x => G_refNames2 x.1)
theorem S_refNames2_ok : SigOK CX 17 S_refNames2 := sigN_of (l := [(56, S_refNames)]) ⟨S_refNames_ok, trivial⟩ (hint := H_refNames2) (an := A_refNames2) (fun x => by kernel_rfl)
noncomputable def G_light34 (x0 : List (Int × List (Int × Fm))) : Option (Bool) := (
 cond (decide ((x0.length : Int) > 14)) (some false) (Option.bind (α := Step ((Unit) × (Unit)) (Bool))
 (loopM (L := ((List (Int × List (Int × Fm))) × Int × Unit) × (Unit)) (R := Step ((Unit) × (Unit)) (Bool)) (fun d1 => (
 let v0_2 := d1.1.1
 let v3_3 := d1.1.2.1
 cond (decide (v3_3 < (v0_2.length : Int))) (cond (ixOK v3_3 v0_2.length) (cond (decide ((((v0_2.getD v3_3.toNat ((0 : Int), ([] : List (Int × Fm)))).2).length : Int) > 8)) (some (Step.done (Step.done false))) (some (Step.next ((v0_2, IntKind.wrap .i64 (v3_3 + 1), ()), ())))) none) (some (Step.done (Step.next ((), ())))))) ((x0, 0, ()), ())) fun qd4 => match qd4 with
 | .next d4 => (
 some true)
 | .done r => some r))
def A_light34 : An := .seq (.leaf) (.seq (.leaf) (.join true { env := [], objs := [] } (.seq (.leaf) (.block (.loop { env := [(0, (.d (.slice (.pr (.int .i64) (.slice (.pr (.int .i64) .form)))))), (3, (.d (.int .i64)))], objs := [] } (.leaf)))) (.leaf)))
def H_light34 : Nat → RH := fun _ => {}
noncomputable def S_light34 : Sig := .n [(.d (.slice (.pr (.int .i64) (.slice (.pr (.int .i64) .form)))))] (.d .bool) (fun x => G_light34 x.1)
theorem S_light34_ok : SigOK CX 9 S_light34 := sigN_of (l := []) trivial (hint := H_light34) (an := A_light34) (fun x => by kernel_rfl)
noncomputable def G_lawRows (x0 : List (Int × List (Int × Fm))) : Option (List (Int × List (Int × Fm))) := (
 Option.bind (α := (Unit × Unit) × ((List (Int × List (Int × Fm))) × Unit))
 (loopM (L := ((List (Int × List (Int × Fm))) × Unit × Int × Unit) × ((List (Int × List (Int × Fm))) × Unit)) (R := (Unit × Unit) × ((List (Int × List (Int × Fm))) × Unit)) (fun d1 => (
 let l2 := d1.2.1
 let v0_3 := d1.1.1
 let v4_4 := d1.1.2.2.1
 cond (decide (v4_4 < (v0_3.length : Int))) (cond (ixOK v4_4 v0_3.length) (Option.bind (α := Int × List (Int × Fm)) (G_mine34 (v0_3.getD v4_4.toNat ((0 : Int), ([] : List (Int × Fm))))) fun r5 => (
 cond (decide ((l2.length + ([r5]).length) * 32 ≤ 140737488355328)) (some (Step.next ((v0_3, (), IntKind.wrap .i64 (v4_4 + 1), ()), (l2 ++ ([r5]), ())))) none)) none) (some (Step.done (((), ()), (l2, ())))))) ((x0, (), 0, ()), (([] : List (Int × List (Int × Fm))), ()))) fun d6 => (
 let l7 := d6.2.1
 some l7))
def A_lawRows : An := .seq (.leaf) (.seq (.leaf) (.join false { env := [(3, (.gs 0 (.pr (.int .i64) (.slice (.pr (.int .i64) .form)))))], objs := [(false, .tg (.pr (.int .i64) (.slice (.pr (.int .i64) .form))) 66)] } (.seq (.leaf) (.block (.loop { env := [(0, (.d (.slice (.pr (.int .i64) (.slice (.pr (.int .i64) .form)))))), (3, (.gs 0 (.pr (.int .i64) (.slice (.pr (.int .i64) .form))))), (4, (.d (.int .i64)))], objs := [(false, .tg (.pr (.int .i64) (.slice (.pr (.int .i64) .form))) 66)] } (.leaf)))) (.leaf)))
def H_lawRows : Nat → RH := fun r => match r with
 | 5 => { H := { ty := [(18, (.pr (.int .i64) (.slice (.pr (.int .i64) .form))))] } }
 | _ => {}
noncomputable def S_lawRows : Sig := .n [(.d (.slice (.pr (.int .i64) (.slice (.pr (.int .i64) .form)))))] (.d (.slice (.pr (.int .i64) (.slice (.pr (.int .i64) .form))))) (fun x => G_lawRows x.1)
theorem S_lawRows_ok : SigOK CX 13 S_lawRows := sigN_of (l := [(51, S_mine34)]) ⟨S_mine34_ok, trivial⟩ (hint := H_lawRows) (an := A_lawRows) (fun x => by kernel_rfl)
noncomputable def G_refCheck (x0 : List (Int × List (Int × Fm))) : Option (Int) := (
 Option.bind (α := Step (((List (Int × List (Int × Fm))) × Unit) × (Unit)) (Int))
 (loopM (L := ((List (Int × List (Int × Fm))) × Int × Unit) × (Unit)) (R := Step (((List (Int × List (Int × Fm))) × Unit) × (Unit)) (Int)) (fun d1 => (
 let v0_2 := d1.1.1
 let v3_3 := d1.1.2.1
 cond (decide (v3_3 < (v0_2.length : Int))) (cond (ixOK v3_3 v0_2.length) (Option.bind (α := Bool) (G_valid34 (v0_2.getD v3_3.toNat ((0 : Int), ([] : List (Int × Fm))))) fun r4 => (
 cond (!r4) (some (Step.done (Step.done 1))) (some (Step.next ((v0_2, IntKind.wrap .i64 (v3_3 + 1), ()), ()))))) none) (some (Step.done (Step.next ((v0_2, ()), ())))))) ((x0, 0, ()), ())) fun qd5 => match qd5 with
 | .next d5 => (
 let v0_6 := d5.1.1
 Option.bind (α := List Fm) (cond (!(decide ((v0_6.length : Int) > 60))) (G_refNames v0_6) (some ([] : List Fm))) fun r7 => (
 cond (cond (decide ((v0_6.length : Int) > 60)) true (decide ((r7.length : Int) > 40))) (some 2) (some 0)))
 | .done r => some r)
def A_refCheck : An := .seq (.leaf) (.join true { env := [(0, (.d (.slice (.pr (.int .i64) (.slice (.pr (.int .i64) .form))))))], objs := [] } (.seq (.leaf) (.block (.loop { env := [(0, (.d (.slice (.pr (.int .i64) (.slice (.pr (.int .i64) .form)))))), (3, (.d (.int .i64)))], objs := [] } (.leaf)))) (.leaf))
def H_refCheck : Nat → RH := fun _ => {}
noncomputable def S_refCheck : Sig := .n [(.d (.slice (.pr (.int .i64) (.slice (.pr (.int .i64) .form)))))] (.d (.int .i64)) (fun x => G_refCheck x.1)
theorem S_refCheck_ok : SigOK CX 27 S_refCheck := sigN_of (l := [(65, S_valid34), (56, S_refNames)]) ⟨S_valid34_ok, S_refNames_ok, trivial⟩ (hint := H_refCheck) (an := A_refCheck) (fun x => by kernel_rfl)
noncomputable def G_refConflict (x0 : List (Int × List (Int × Fm))) (x1 : List Int) : Option (Bool) := (
 cond (!decide ((x1.length : Int) = (x0.length : Int))) (some false) (Option.bind (α := Step ((Unit × Unit) × ((Int × (List (Int × Fm)) × Unit) × Unit)) (Bool))
 (loopM (L := ((List (Int × List (Int × Fm))) × (List Int) × Unit × Int × Unit) × ((Int × (List (Int × Fm)) × Unit) × Unit)) (R := Step ((Unit × Unit) × ((Int × (List (Int × Fm)) × Unit) × Unit)) (Bool)) (fun d1 => (
 let c2 := d1.2.1.1
 let c3 := d1.2.1.2.1
 let v0_4 := d1.1.1
 let v1_5 := d1.1.2.1
 let v6_6 := d1.1.2.2.2.1
 cond (decide (v6_6 < (v0_4.length : Int))) (cond (ixOK v6_6 v1_5.length) (cond (decide ((v1_5.getD v6_6.toNat (0 : Int)) < 0)) (some (Step.done (Step.done false))) (cond (ixOK v6_6 v0_4.length) (cond (ixOK v6_6 v1_5.length) (Option.bind (α := (Int × List (Int × Fm)) × Bool × Unit) (G_sum34 (c2, c3) (v0_4.getD v6_6.toNat ((0 : Int), ([] : List (Int × Fm)))) (v1_5.getD v6_6.toNat (0 : Int))) fun r7 => (
 cond (!r7.2.1) (some (Step.done (Step.done false))) (some (Step.next ((v0_4, v1_5, (), IntKind.wrap .i64 (v6_6 + 1), ()), ((r7.1.1, r7.1.2, ()), ())))))) none) none)) none) (some (Step.done (Step.next (((), ()), ((c2, c3, ()), ()))))))) ((x0, x1, (), 0, ()), ((0, ([] : List (Int × Fm)), ()), ()))) fun qd8 => match qd8 with
 | .next d8 => (
 let c9 := d8.2.1.1
 let c10 := d8.2.1.2.1
 some (cond (decide ((c10.length : Int) = 0)) (decide (c9 > 0)) false))
 | .done r => some r))
def A_refConflict : An := .seq (.leaf) (.seq (.leaf) (.seq (.leaf) (.join true { env := [(5, (.ref 0 0))], objs := [(false, .cells 63 [(.d (.int .i64)), (.d (.slice (.pr (.int .i64) .form)))])] } (.seq (.leaf) (.block (.loop { env := [(0, (.d (.slice (.pr (.int .i64) (.slice (.pr (.int .i64) .form)))))), (1, (.d (.slice (.int .i64)))), (5, (.ref 0 0)), (6, (.d (.int .i64)))], objs := [(false, .cells 63 [(.d (.int .i64)), (.d (.slice (.pr (.int .i64) .form)))])] } (.leaf)))) (.leaf))))
def H_refConflict : Nat → RH := fun r => match r with
 | 9 => { H := { pl := [30, 34] } }
 | _ => {}
noncomputable def S_refConflict : Sig := .n [(.d (.slice (.pr (.int .i64) (.slice (.pr (.int .i64) .form))))), (.d (.slice (.int .i64)))] (.d .bool) (fun x => G_refConflict x.1 x.2.1)
theorem S_refConflict_ok : SigOK CX 52 S_refConflict := sigN_of (l := [(97, S_sum34)]) ⟨S_sum34_ok, trivial⟩ (hint := H_refConflict) (an := A_refConflict) (fun x => by kernel_rfl)
noncomputable def G_refIsFactors (x0 : List (Int × List (Int × Fm))) (x1 : List Int) : Option (Bool × Int × Unit) := (
 Option.bind (α := Int) (G_refCheck x0) fun r1 => (
 cond (!decide (r1 = 0)) (some (false, r1, ())) (Option.bind (α := Bool) (G_refConflict x0 x1) fun r2 => (
 some (r2, 0, ())))))
def A_refIsFactors : An := .leaf
def H_refIsFactors : Nat → RH := fun _ => {}
noncomputable def S_refIsFactors : Sig := .n [(.d (.slice (.pr (.int .i64) (.slice (.pr (.int .i64) .form))))), (.d (.slice (.int .i64)))] (.tup [(.d .bool), (.d (.int .i64))]) (fun x => G_refIsFactors x.1 x.2.1)
theorem S_refIsFactors_ok : SigOK CX 14 S_refIsFactors := sigN_of (l := [(27, S_refCheck), (52, S_refConflict)]) ⟨S_refCheck_ok, S_refConflict_ok, trivial⟩ (hint := H_refIsFactors) (an := A_refIsFactors) (fun x => by kernel_rfl)
noncomputable def G_refIsTreeR (k : Nat) (x0 : List (Int × List (Int × Fm))) (x1 : Fm) (x2 : Int) : Option (Bool) := match k with
| 0 => none
| k + 1 => (
 Option.bind (α := Step ((Unit) × (Unit)) (Bool))
 (Option.bind (α := List UInt8) (G_refHead (Fm.eta x1)) fun r1 => (
 cond (decide (r1 = [102, 97, 99, 116, 111, 114, 115])) (cond (decide ((0 : Int) ≤ (x0.length : Int) ∧ ((x0.length : Int) : Int) ≤ (x0.length : Int) ∧ ((x0.length : Int) : Int) * 8 ≤ 281474976710656)) (Option.bind (α := Step (((List (Int × List (Int × Fm))) × Unit × Unit) × ((List Int) × Unit)) (Step ((Unit) × (Unit)) (Bool)))
 (loopM (L := ((List (Int × List (Int × Fm))) × (List Fm) × Unit × Int × Int × Unit) × ((List Int) × Unit)) (R := Step (((List (Int × List (Int × Fm))) × Unit × Unit) × ((List Int) × Unit)) (Step ((Unit) × (Unit)) (Bool))) (fun d2 => (
 let l3 := d2.2.1
 let v0_4 := d2.1.1
 let v7_5 := d2.1.2.1
 let v9_6 := d2.1.2.2.2.1
 let v10_7 := d2.1.2.2.2.2.1
 cond (decide (v10_7 < (v7_5.length : Int))) (cond (ixOK v10_7 v7_5.length) (cond ((ixOK 0 ((v7_5.getD v10_7.toNat (Fm.mk 0 0 [] [])).l).length) || !(!(cond (!decide ((v7_5.getD v10_7.toNat (Fm.mk 0 0 [] [])).k = 3)) true (!decide ((((v7_5.getD v10_7.toNat (Fm.mk 0 0 [] [])).l).length : Int) = 2))))) (cond ((ixOK 1 ((v7_5.getD v10_7.toNat (Fm.mk 0 0 [] [])).l).length) || !(!(cond (cond (!decide ((v7_5.getD v10_7.toNat (Fm.mk 0 0 [] [])).k = 3)) true (!decide ((((v7_5.getD v10_7.toNat (Fm.mk 0 0 [] [])).l).length : Int) = 2))) true (!decide ((((v7_5.getD v10_7.toNat (Fm.mk 0 0 [] [])).l).getD (0 : Int).toNat (Fm.mk 0 0 [] [])).k = 0))))) (cond (cond (cond (cond (!decide ((v7_5.getD v10_7.toNat (Fm.mk 0 0 [] [])).k = 3)) true (!decide ((((v7_5.getD v10_7.toNat (Fm.mk 0 0 [] [])).l).length : Int) = 2))) true (!decide ((((v7_5.getD v10_7.toNat (Fm.mk 0 0 [] [])).l).getD (0 : Int).toNat (Fm.mk 0 0 [] [])).k = 0))) true (!decide ((((v7_5.getD v10_7.toNat (Fm.mk 0 0 [] [])).l).getD (1 : Int).toNat (Fm.mk 0 0 [] [])).k = 0))) (some (Step.done (Step.done (Step.done false)))) (cond (ixOK 0 ((v7_5.getD v10_7.toNat (Fm.mk 0 0 [] [])).l).length) (cond ((ixOK 1 ((v7_5.getD v10_7.toNat (Fm.mk 0 0 [] [])).l).length) || !(!(cond (decide ((((v7_5.getD v10_7.toNat (Fm.mk 0 0 [] [])).l).getD (0 : Int).toNat (Fm.mk 0 0 [] [])).n ≤ v9_6)) true (decide ((((v7_5.getD v10_7.toNat (Fm.mk 0 0 [] [])).l).getD (0 : Int).toNat (Fm.mk 0 0 [] [])).n ≥ (v0_4.length : Int)))))) (cond (cond (cond (decide ((((v7_5.getD v10_7.toNat (Fm.mk 0 0 [] [])).l).getD (0 : Int).toNat (Fm.mk 0 0 [] [])).n ≤ v9_6)) true (decide ((((v7_5.getD v10_7.toNat (Fm.mk 0 0 [] [])).l).getD (0 : Int).toNat (Fm.mk 0 0 [] [])).n ≥ (v0_4.length : Int)))) true (decide ((((v7_5.getD v10_7.toNat (Fm.mk 0 0 [] [])).l).getD (1 : Int).toNat (Fm.mk 0 0 [] [])).n < 1))) (some (Step.done (Step.done (Step.done false)))) (cond (ixOK 1 ((v7_5.getD v10_7.toNat (Fm.mk 0 0 [] [])).l).length) (cond (ixOK ((((v7_5.getD v10_7.toNat (Fm.mk 0 0 [] [])).l).getD (0 : Int).toNat (Fm.mk 0 0 [] [])).n) l3.length) (cond (decide (((((v7_5.getD v10_7.toNat (Fm.mk 0 0 [] [])).l).getD (0 : Int).toNat (Fm.mk 0 0 [] [])).n).toNat < l3.length)) (some (Step.next ((v0_4, v7_5, (), (((v7_5.getD v10_7.toNat (Fm.mk 0 0 [] [])).l).getD (0 : Int).toNat (Fm.mk 0 0 [] [])).n, IntKind.wrap .i64 (v10_7 + 1), ()), (l3.set (((((v7_5.getD v10_7.toNat (Fm.mk 0 0 [] [])).l).getD (0 : Int).toNat (Fm.mk 0 0 [] [])).n).toNat) ((((v7_5.getD v10_7.toNat (Fm.mk 0 0 [] [])).l).getD (1 : Int).toNat (Fm.mk 0 0 [] [])).n), ())))) none) none) none)) none) none)) none) none) none) (some (Step.done (Step.next ((v0_4, (), ()), (l3, ()))))))) ((x0, x1.l, (), (-1), 1, ()), (List.replicate (x0.length : Int).toNat 0, ()))) fun qd8 => match qd8 with
 | .next d8 => (
 let l9 := d8.2.1
 let v0_10 := d8.1.1
 Option.bind (α := Bool) (G_refConflict v0_10 l9) fun r11 => (
 some (Step.done r11)))
 | .done r => some r) none) (cond (decide (r1 = [99, 117, 116])) (cond ((ixOK 2 x1.l.length) || !(!(!decide ((x1.l.length : Int) = 5)))) (cond (cond (cond (!decide ((x1.l.length : Int) = 5)) true (!decide ((x1.l.getD (2 : Int).toNat (Fm.mk 0 0 [] [])).k = 0))) true (decide (x2 ≥ 40))) (some (Step.done false)) (cond (ixOK 2 x1.l.length) (cond (ixOK 1 x1.l.length) (cond (ixOK 2 x1.l.length) (cond (ixOK 1 x1.l.length) (Option.bind (α := Bool) (G_small34 (IntKind.wrap .i64 ((x1.l.getD (2 : Int).toNat (Fm.mk 0 0 [] [])).n + 1))) fun r12 => (
 cond (!r12) (some (Step.done false)) (cond (decide ((([] : List (Int × List (Int × Fm))).length + x0.length) * 32 ≤ 140737488355328)) (cond (decide (((([] : List (Int × List (Int × Fm))) ++ x0).length + ([(IntKind.wrap .i64 (0 - (x1.l.getD (2 : Int).toNat (Fm.mk 0 0 [] [])).n), [(1, (Fm.eta (x1.l.getD (1 : Int).toNat (Fm.mk 0 0 [] []))))])]).length) * 32 ≤ 140737488355328)) (cond (decide ((([] : List (Int × List (Int × Fm))).length + x0.length) * 32 ≤ 140737488355328)) (cond (decide (((([] : List (Int × List (Int × Fm))) ++ x0).length + ([(IntKind.wrap .i64 ((x1.l.getD (2 : Int).toNat (Fm.mk 0 0 [] [])).n + 1), [((-1), (Fm.eta (x1.l.getD (1 : Int).toNat (Fm.mk 0 0 [] []))))])]).length) * 32 ≤ 140737488355328)) (cond (ixOK 3 x1.l.length) (Option.bind (α := Bool) (G_refIsTreeR k ((([] : List (Int × List (Int × Fm))) ++ x0) ++ ([(IntKind.wrap .i64 (0 - (x1.l.getD (2 : Int).toNat (Fm.mk 0 0 [] [])).n), [(1, (Fm.eta (x1.l.getD (1 : Int).toNat (Fm.mk 0 0 [] []))))])])) (Fm.eta (x1.l.getD (3 : Int).toNat (Fm.mk 0 0 [] []))) (IntKind.wrap .i64 (x2 + 1))) fun r13 => (
 cond ((ixOK 4 x1.l.length) || !r13) (Option.bind (α := Bool) (cond r13 (G_refIsTreeR k ((([] : List (Int × List (Int × Fm))) ++ x0) ++ ([(IntKind.wrap .i64 ((x1.l.getD (2 : Int).toNat (Fm.mk 0 0 [] [])).n + 1), [((-1), (Fm.eta (x1.l.getD (1 : Int).toNat (Fm.mk 0 0 [] []))))])])) (Fm.eta (x1.l.getD (4 : Int).toNat (Fm.mk 0 0 [] []))) (IntKind.wrap .i64 (x2 + 1))) (some false)) fun r14 => (
 some (Step.done (cond r13 r14 false)))) none)) none) none) none) none) none))) none) none) none) none)) none) (some (Step.next ((), ())))))) fun qd15 => match qd15 with
 | .next d15 => (
 some false)
 | .done r => some r)
def A_refIsTreeR : An := .seq (.leaf) (.seq (.leaf) (.join true { env := [], objs := [] } (.seq (.leaf) (.block (.seq (.leaf) (.cond (.seq (.leaf) (.seq (.leaf) (.join true { env := [(0, (.d (.slice (.pr (.int .i64) (.slice (.pr (.int .i64) .form)))))), (8, (.gs 0 (.int .i64)))], objs := [(false, .tg (.int .i64) 3)] } (.seq (.leaf) (.block (.loop { env := [(0, (.d (.slice (.pr (.int .i64) (.slice (.pr (.int .i64) .form)))))), (7, (.d (.slice .form))), (8, (.gs 0 (.int .i64))), (9, (.d (.int .i64))), (10, (.d (.int .i64)))], objs := [(false, .tg (.int .i64) 3)] } (.leaf)))) (.frz [0] (.leaf))))) (.seq (.leaf) (.cond (.seq (.leaf) (.seq (.leaf) (.seq (.leaf) (.seq (.leaf) (.frz [0] (.frz [1] (.frz [2, 3] (.leaf)))))))) (.leaf))))))) (.leaf)))
def H_refIsTreeR : Nat → RH := fun r => match r with
 | 4 => { H := { ty := [(25, (.int .i64))] } }
 | 21 => { H := { pl := [114, 118] } }
 | 22 => { H := { pl := [125, 129] } }
 | 25 => { H := { mb := [137], pl := [140], ty := [(137, (.pr (.int .i64) (.slice (.pr (.int .i64) .form)))), (139, (.pr (.int .i64) (.slice (.pr (.int .i64) .form)))), (142, (.pr (.int .i64) (.slice (.pr (.int .i64) .form))))] } }
 | 26 => { H := { mb := [143], pl := [146], ty := [(143, (.pr (.int .i64) (.slice (.pr (.int .i64) .form)))), (145, (.pr (.int .i64) (.slice (.pr (.int .i64) .form)))), (148, (.pr (.int .i64) (.slice (.pr (.int .i64) .form))))] } }
 | _ => {}
noncomputable def S_refIsTreeR (k : Nat) : Sig := .n [(.d (.slice (.pr (.int .i64) (.slice (.pr (.int .i64) .form))))), (.d .form), (.d (.int .i64))] (.d .bool) (fun x => G_refIsTreeR k x.1 x.2.1 x.2.2.1)
theorem S_refIsTreeR_rec : ∀ k, SigOK CX 58 (S_refIsTreeR k)
| 0 => fun x r h => by cases h
| k + 1 => by
 have ih := S_refIsTreeR_rec k
 exact sigN_of (l := [(42, S_refHead), (52, S_refConflict), (72, S_small34), (58, (S_refIsTreeR k))]) ⟨S_refHead_ok, S_refConflict_ok, S_small34_ok, ih, trivial⟩ (hint := H_refIsTreeR) (an := A_refIsTreeR) (fun x => by kernel_rfl)
theorem S_refIsTreeR_ok : ∀ k, SigOK CX 58 (S_refIsTreeR k) := fun k => S_refIsTreeR_rec k
noncomputable def L_refIsTreeR (x0 : List (Int × List (Int × Fm))) (x1 : Fm) (x2 : Int) : Option (Bool) := limF fun k => G_refIsTreeR k x0 x1 x2
noncomputable def S_refIsTreeR_l : Sig := .n [(.d (.slice (.pr (.int .i64) (.slice (.pr (.int .i64) .form))))), (.d .form), (.d (.int .i64))] (.d .bool) (fun x => L_refIsTreeR x.1 x.2.1 x.2.2.1)
theorem S_refIsTreeR_l_ok : SigOK CX 58 S_refIsTreeR_l := SigOK.limN S_refIsTreeR_ok fun x r h => limF_ex h
noncomputable def G_refIsTree (x0 : List (Int × List (Int × Fm))) (x1 : Fm) : Option (Bool × Int × Unit) := (
 Option.bind (α := Int) (G_refCheck x0) fun r1 => (
 cond (!decide (r1 = 0)) (some (false, r1, ())) (Option.bind (α := Bool) (G_refValid (Fm.eta x1)) fun r2 => (
 cond (!r2) (some (false, 1, ())) (Option.bind (α := Bool) (L_refIsTreeR x0 (Fm.eta x1) 0) fun r3 => (
 some (r3, 0, ())))))))
def A_refIsTree : An := .leaf
def H_refIsTree : Nat → RH := fun _ => {}
noncomputable def S_refIsTree : Sig := .n [(.d (.slice (.pr (.int .i64) (.slice (.pr (.int .i64) .form))))), (.d .form)] (.tup [(.d .bool), (.d (.int .i64))]) (fun x => G_refIsTree x.1 x.2.1)
theorem S_refIsTree_ok : SigOK CX 19 S_refIsTree := sigN_of (l := [(27, S_refCheck), (35, S_refValid), (58, S_refIsTreeR_l)]) ⟨S_refCheck_ok, S_refValid_ok, S_refIsTreeR_l_ok, trivial⟩ (hint := H_refIsTree) (an := A_refIsTree) (fun x => by kernel_rfl)
noncomputable def G_asked1 (x0 : Int × List (Int × Fm)) : Option (Bool) := (
 Option.bind (α := Bool) (G_lvalid x0) fun r1 => (
 some (!r1)))
def A_asked1 : An := .leaf
def H_asked1 : Nat → RH := fun _ => {}
noncomputable def S_asked1 : Sig := .n [(.d (.pr (.int .i64) (.slice (.pr (.int .i64) .form))))] (.d .bool) (fun x => G_asked1 x.1)
theorem S_asked1_ok : SigOK CX 91 S_asked1 := sigN_of (l := [(92, S_lvalid)]) ⟨S_lvalid_ok, trivial⟩ (hint := H_asked1) (an := A_asked1) (fun x => by kernel_rfl)
noncomputable def G_idxSum (x0 : List (Int × List (Int × Fm))) (x1 : Unit) : Option (Int) := (
 Option.bind (α := Step ((Unit) × (Unit)) (Int))
 (loopM (L := ((List (Int × List (Int × Fm))) × Unit × Int × Int × Unit) × (Unit)) (R := Step ((Unit) × (Unit)) (Int)) (fun d1 => (
 let v0_2 := d1.1.1
 let v7_3 := d1.1.2.2.1
 let v8_4 := d1.1.2.2.2.1
 cond (decide (v8_4 < v7_3)) (cond (ixOK v8_4 v0_2.length) (Option.bind (α := Bool) (G_asked1 (v0_2.getD v8_4.toNat ((0 : Int), ([] : List (Int × Fm))))) fun r5 => (
 cond r5 (some (Step.done (Step.done v8_4))) (some (Step.next ((v0_2, (), v7_3, IntKind.wrap .i64 (v8_4 + 1), ()), ()))))) none) (some (Step.done (Step.next ((), ())))))) ((x0, (), (x0.length : Int), 0, ()), ())) fun qd6 => match qd6 with
 | .next d6 => (
 some (-1))
 | .done r => some r)
def A_idxSum : An := .seq (.leaf) (.join true { env := [], objs := [] } (.seq (.leaf) (.block (.loop { env := [(0, (.d (.slice (.pr (.int .i64) (.slice (.pr (.int .i64) .form)))))), (1, (.c (.fn (.func 91) [] []))), (7, (.d (.int .i64))), (8, (.d (.int .i64)))], objs := [] } (.leaf)))) (.leaf))
def H_idxSum : Nat → RH := fun _ => {}
noncomputable def S_idxSum : Sig := .n [(.d (.slice (.pr (.int .i64) (.slice (.pr (.int .i64) .form))))), (.c (.fn (.func 91) [] []))] (.d (.int .i64)) (fun x => G_idxSum x.1 x.2.1)
theorem S_idxSum_ok : SigOK CX 132 S_idxSum := sigN_of (l := [(91, S_asked1)]) ⟨S_asked1_ok, trivial⟩ (hint := H_idxSum) (an := A_idxSum) (fun x => by kernel_rfl)
noncomputable def G_cntSum (x0 : List (Int × List (Int × Fm))) (x1 : Unit) : Option (Bool) := (
 Option.bind (α := Int) (G_idxSum x0 ()) fun r1 => (
 some (decide (r1 ≥ 0))))
def A_cntSum : An := .leaf
def H_cntSum : Nat → RH := fun _ => {}
noncomputable def S_cntSum : Sig := .n [(.d (.slice (.pr (.int .i64) (.slice (.pr (.int .i64) .form))))), (.c (.fn (.func 91) [] []))] (.d .bool) (fun x => G_cntSum x.1 x.2.1)
theorem S_cntSum_ok : SigOK CX 90 S_cntSum := sigN_of (l := [(132, S_idxSum)]) ⟨S_idxSum_ok, trivial⟩ (hint := H_cntSum) (an := A_cntSum) (fun x => by kernel_rfl)
noncomputable def G_asked (x0 : List (Int × List (Int × Fm))) : Option (Int) := (
 Option.bind (α := Bool) (G_cntSum x0 ()) fun r1 => (
 cond r1 (some 1) (Option.bind (α := List Fm) (cond (!(decide ((x0.length : Int) > 60))) (G_lnames x0) (some ([] : List Fm))) fun r2 => (
 cond (cond (decide ((x0.length : Int) > 60)) true (decide ((r2.length : Int) > 40))) (some 2) (some 0)))))
def A_asked : An := .leaf
def H_asked : Nat → RH := fun _ => {}
noncomputable def S_asked : Sig := .n [(.d (.slice (.pr (.int .i64) (.slice (.pr (.int .i64) .form)))))] (.d (.int .i64)) (fun x => G_asked x.1)
theorem S_asked_ok : SigOK CX 49 S_asked := sigN_of (l := [(90, S_cntSum), (55, S_lnames)]) ⟨S_cntSum_ok, S_lnames_ok, trivial⟩ (hint := H_asked) (an := A_asked) (fun x => by kernel_rfl)
end Go.Ab

set_option maxRecDepth 100000
namespace Go.Ab
open Go Go.RowKit Go.Proofs
theorem leaves_two {C : Cx} {rs : List ResultVar} {Q : AOut → Sto → Nat → Prop} {g : FuncId} {ags : List AV} {u : Option AV} {env : Nat → AV} {σ σ1 : Sto} {nx n1 : Nat} (h : DCall C g ags σ nx u (fun u' σ' nx' => u' = none ∧ σ' = σ1 ∧ nx' = n1)) (hk : afin σ1 n1 Q (resA C.P rs ⟨env, σ1, n1⟩)) : LeavesA C rs Q [(g, ags)] u ⟨env, σ, nx⟩ := by
 refine ⟨_, h, ?_⟩
 rintro u' σ' nx' ⟨rfl, rfl, rfl⟩
 exact (afin_iff _ _ _ _).1 hk
theorem caught1_none (σ : Sto) (nx p nm : Nat) : DCall CX 112 [.ref p nm 0] σ nx none (fun u' σ' nx' => u' = none ∧ σ' = σ ∧ nx' = nx) := by
 refine dcall_mk {} 15 [] Tryz.func112 rfl (by decide) rfl rfl rfl rfl rfl rfl rfl rfl fun K hK => ?_
 simp only [go_sem, ↓reduceIte, recA]
 apply hK; clear hK
 refine aw_sreg {} rfl rfl fun K KP hK hP => ?_
 simp only [go_sem, ↓reduceIte]
 apply hK; clear hK hP
 refine aw_if (False) (by simp only [go_sem, ↓reduceIte]) (fun h1 => ?_) (fun h1 => ?_)
 ·
  exact h1.elim
 ·
  refine aw_skip ?_
  simp only [go_sem, ↓reduceIte, athen_ret]
theorem caught1_some {σ : Sto} {nx p nm : Nat} {b : Bool} (hs : sget σ p nm = some (.cells 4 [.bool b])) : DCall CX 112 [.ref p nm 0] σ nx (some beyondA) (fun u' σ' nx' => u' = none ∧ nx' = nx + 1 ∧ ∃ x, σ' = σ.set p (nm, .cells 4 [.bool true]) ++ [x]) := by
 have hp : p < σ.length := (List.getElem?_eq_some_iff.1 (sget_some hs)).1
 have hq : ∀ x : Nat × AObj, sget (σ ++ [x]) p nm = some (.cells 4 [.bool b]) := fun x => sget_append hs
 have hset : ∀ x y : Nat × AObj, (σ ++ [y]).set p x = σ.set p x ++ [y] := fun x y => List.set_append_left _ _ hp
 refine dcall_mk {} 15 [] Tryz.func112 rfl (by decide) rfl rfl rfl rfl rfl rfl rfl rfl fun K hK => ?_
 simp only [go_sem, ↓reduceIte, beyondA, hs, hq, hset, recA]
 apply hK; clear hK
 refine aw_sreg {} rfl rfl fun K KP hK hP => ?_
 simp only [go_sem, ↓reduceIte, beyondA, hs, hq, hset]
 apply hK; clear hK hP
 refine aw_if (True) (by simp only [go_sem, ↓reduceIte, beyondA, hs, hq, hset]) (fun h1 => ?_) (fun h1 => ?_)
 ·
  refine aw_seq ?_
  refine aw_sreg {} rfl (by simp only [allocObjs, go_sem]; rfl) fun K KP hK hP => ?_
  simp only [go_sem, ↓reduceIte, beyondA, hs, hq, hset]
  apply hK; clear hK hP
  refine aw_sreg {} rfl rfl fun K KP hK hP => ?_
  simp only [go_sem, ↓reduceIte, beyondA, hs, hq, hset]
  apply hK; clear hK hP
  refine aw_if (False) (by simp only [go_sem, ↓reduceIte, beyondA, hs, hq, hset]) (fun h3 => ?_) (fun h3 => ?_)
  ·
   exact h3.elim
  ·
   refine aw_skip ?_
   refine athen_normal.2 ?_
   refine aw_lreg {} rfl rfl fun K KP hK hP => ?_
   simp only [go_sem, ↓reduceIte, beyondA, hs, hq, hset]
   apply hK; clear hK hP
   simp only [go_sem, ↓reduceIte, beyondA, hs, hq, hset, athen_ret] <;> (
    exact ⟨_, rfl⟩)
 ·
  exact absurd trivial h1
theorem caught_ret {g : FuncId} {first caps : List AV} {σ σ2 : Sto} {nx n : Nat} {v : AV} (hlen : σ2.length = σ.length)
  (hf : ∀ z, ∃ tail, ACall CX g (first ++ caps) (σ ++ [z]) (nx + 1) (fun o σ' nx' => o = .ret v ∧ σ' = σ2 ++ ([z] ++ tail) ∧ nx' = nx + 1 + n)) :
  ACall CX 66 [.fn (.func g) first caps] σ nx (fun o σ' nx' => o = .ret (.bool false) ∧ σ' = σ2 ∧ nx' = nx + 1 + n) := by
 obtain ⟨tail, hf⟩ := hf (nx, .cells 4 [.bool false])
 have hs : sget (σ2 ++ ((nx, AObj.cells 4 [.bool false]) :: tail)) σ2.length nx = some (.cells 4 [.bool false]) := by simp [sget]
 have hset : ∀ x : Nat × AObj, (σ2 ++ ((nx, AObj.cells 4 [.bool false]) :: tail)).set σ2.length x = σ2 ++ (x :: tail) := fun x => by simp [List.set_append_right]
 refine acall_cut ?_
 refine acall_mkD 6 [.cell 2 4] Tryz.func66 rfl (by decide) rfl rfl rfl ?_
 refine awD_sreg {} rfl (by simp only [allocObjs, go_sem]; rfl) fun K KP hK hP => ?_
 simp only [go_sem, ↓reduceIte]
 apply hK; clear hK hP
 refine awD_sdefer {} (pre := [_]) rfl rfl rfl rfl rfl fun K KP hK hP => ?_
 simp only [go_sem, ↓reduceIte]
 apply hK; clear hK hP
 refine ⟨_, _, by simp only [calleeA, go_sem, ↓reduceIte, Nat.reduceEqDiff]; rfl, ?_⟩
 refine awD_rest fun ds => ?_
 refine aw_sreg { ac := [5] } rfl rfl fun K KP hK hP => ?_
 simp only [go_sem, ↓reduceIte]
 refine ⟨_, hf, ?_, ?_, .inl rfl, .inl rfl⟩
 case refine_2 => rintro v σ' nx' ⟨hv, _⟩; cases hv
 rintro v σ' nx' ⟨-, rfl, rfl⟩
 try simp only [go_sem, ↓reduceIte]
 apply hK; clear hK hP
 rw [← hlen]
 refine aw_sreg {} rfl rfl fun K KP hK hP => ?_
 simp only [go_sem, ↓reduceIte]
 apply hK; clear hK hP
 refine aw_ret ?_
 simp only [go_sem, ↓reduceIte, athen_ret] <;> (
  refine leaves_two (caught1_none _ _ _ _) ?_
  simp only [go_sem, ↓reduceIte, Nat.reduceEqDiff])
theorem caught_pan {g : FuncId} {first caps : List AV} {σ σ2 : Sto} {nx n : Nat} (hlen : σ2.length = σ.length)
  (hf : ∀ z, ∃ tail, ACall CX g (first ++ caps) (σ ++ [z]) (nx + 1) (fun o σ' nx' => o = .pan beyondA ∧ σ' = σ2 ++ ([z] ++ tail) ∧ nx' = nx + 1 + n)) :
  ACall CX 66 [.fn (.func g) first caps] σ nx (fun o σ' nx' => o = .ret (.bool true) ∧ σ' = σ2 ∧ nx' = nx + 1 + n + 1) := by
 obtain ⟨tail, hf⟩ := hf (nx, .cells 4 [.bool false])
 have hs : sget (σ2 ++ ((nx, AObj.cells 4 [.bool false]) :: tail)) σ2.length nx = some (.cells 4 [.bool false]) := by simp [sget]
 have hset : ∀ x : Nat × AObj, (σ2 ++ ((nx, AObj.cells 4 [.bool false]) :: tail)).set σ2.length x = σ2 ++ (x :: tail) := fun x => by simp [List.set_append_right]
 refine acall_cut ?_
 refine acall_mkD 6 [.cell 2 4] Tryz.func66 rfl (by decide) rfl rfl rfl ?_
 refine awD_sreg {} rfl (by simp only [allocObjs, go_sem]; rfl) fun K KP hK hP => ?_
 simp only [go_sem, ↓reduceIte]
 apply hK; clear hK hP
 refine awD_sdefer {} (pre := [_]) rfl rfl rfl rfl rfl fun K KP hK hP => ?_
 simp only [go_sem, ↓reduceIte]
 apply hK; clear hK hP
 refine ⟨_, _, by simp only [calleeA, go_sem, ↓reduceIte, Nat.reduceEqDiff]; rfl, ?_⟩
 refine awD_rest fun ds => ?_
 refine aw_sregE { ac := [5] } rfl rfl fun K KP hK hP => ?_
 simp only [go_sem, ↓reduceIte]
 refine ⟨_, hf, ?_, ?_, .inl rfl, .inl rfl⟩
 ·rintro v σ' nx' ⟨hv, _⟩; cases hv
 rintro v σ' nx' ⟨hv, rfl, rfl⟩
 cases hv
 try simp only [go_sem, ↓reduceIte]
 refine hP _ _ _ fun env henv => ?_
 have h2 := henv 2 (by decide)
 rw [← hlen] at h2 ⊢
 simp only [go_sem, ↓reduceIte, Nat.reduceEqDiff] at h2 ⊢
 refine ⟨_, caught1_some hs, ?_⟩
 rintro u' σ' nx1 ⟨rfl, rfl, x, rfl⟩
 rw [hset]
 have hs' : sget (σ2 ++ ((nx, AObj.cells 4 [.bool true]) :: tail) ++ [x]) σ2.length nx = some (.cells 4 [.bool true]) := sget_append (by simp [sget])
 refine ⟨.bool true, ?_, rfl, by simp, rfl⟩
 simp only [go_sem, ↓reduceIte, Nat.reduceEqDiff, h2, hs']
theorem caught_ok {g : FuncId} {pre args post f} (hq : QOK CX g ⟨pre, args, post, .tup [], .iface 142 (.d .un), f⟩) (hk : allKeep post = true) :
  COK CX 66 ⟨g, ⟨pre, args, post, .tup [], .iface 142 (.d .un), f⟩, [], .d .bool, 1, 0, 1, 0, fun _ => true, fun _ => false, fun _ o => panB o⟩ := by
 refine And.intro hq (And.intro hk (And.intro ?_ ?_))
 ·intro x first caps σ nx h
  cases h
 intro x y r ρ first caps σ σ2 nx _ hr hlen hc
 cases y with
 | ret a =>
  cases hr
  exact caught_ret hlen fun z => hc [z] rfl
 | pan b =>
  cases hr
  exact caught_pan hlen fun z => hc [z] rfl
end Go.Ab

set_option maxRecDepth 100000
namespace Go.Ab
open Go Go.RowKit Go.Proofs
noncomputable def G_isF1 (x0 : Int) : Option (Bool) := (
 some (decide (x0 < 0)))
def A_isF1 : An := .leaf
def H_isF1 : Nat → RH := fun _ => {}
noncomputable def S_isF1 : Sig := .n [(.d (.int .i64))] (.d .bool) (fun x => G_isF1 x.1)
theorem S_isF1_ok : SigOK CX 94 S_isF1 := sigN_of (l := []) trivial (hint := H_isF1) (an := A_isF1) (fun x => by kernel_rfl)
noncomputable def G_idxNeg (x0 : List Int) (x1 : Unit) : Option (Int) := (
 Option.bind (α := Step ((Unit) × (Unit)) (Int))
 (loopM (L := ((List Int) × Unit × Int × Int × Unit) × (Unit)) (R := Step ((Unit) × (Unit)) (Int)) (fun d1 => (
 let v0_2 := d1.1.1
 let v7_3 := d1.1.2.2.1
 let v8_4 := d1.1.2.2.2.1
 cond (decide (v8_4 < v7_3)) (cond (ixOK v8_4 v0_2.length) (Option.bind (α := Bool) (G_isF1 (v0_2.getD v8_4.toNat (0 : Int))) fun r5 => (
 cond r5 (some (Step.done (Step.done v8_4))) (some (Step.next ((v0_2, (), v7_3, IntKind.wrap .i64 (v8_4 + 1), ()), ()))))) none) (some (Step.done (Step.next ((), ())))))) ((x0, (), (x0.length : Int), 0, ()), ())) fun qd6 => match qd6 with
 | .next d6 => (
 some (-1))
 | .done r => some r)
def A_idxNeg : An := .seq (.leaf) (.join true { env := [], objs := [] } (.seq (.leaf) (.block (.loop { env := [(0, (.d (.slice (.int .i64)))), (1, (.c (.fn (.func 94) [] []))), (7, (.d (.int .i64))), (8, (.d (.int .i64)))], objs := [] } (.leaf)))) (.leaf))
def H_idxNeg : Nat → RH := fun _ => {}
noncomputable def S_idxNeg : Sig := .n [(.d (.slice (.int .i64))), (.c (.fn (.func 94) [] []))] (.d (.int .i64)) (fun x => G_idxNeg x.1 x.2.1)
theorem S_idxNeg_ok : SigOK CX 133 S_idxNeg := sigN_of (l := [(94, S_isF1)]) ⟨S_isF1_ok, trivial⟩ (hint := H_idxNeg) (an := A_idxNeg) (fun x => by kernel_rfl)
noncomputable def G_cntNeg (x0 : List Int) (x1 : Unit) : Option (Bool) := (
 Option.bind (α := Int) (G_idxNeg x0 ()) fun r1 => (
 some (decide (r1 ≥ 0))))
def A_cntNeg : An := .leaf
def H_cntNeg : Nat → RH := fun _ => {}
noncomputable def S_cntNeg : Sig := .n [(.d (.slice (.int .i64))), (.c (.fn (.func 94) [] []))] (.d .bool) (fun x => G_cntNeg x.1 x.2.1)
theorem S_cntNeg_ok : SigOK CX 93 S_cntNeg := sigN_of (l := [(133, S_idxNeg)]) ⟨S_idxNeg_ok, trivial⟩ (hint := H_cntNeg) (an := A_cntNeg) (fun x => by kernel_rfl)
noncomputable def G_isF2 (x0 : (List (Int × List (Int × Fm))) × Unit) (x2 : (List Int) × Unit) (o0 : Int × (List (Int × Fm)) × Unit) : Option ((OutD Unit Unit) × ((Int × (List (Int × Fm)) × Unit) × Unit)) := (
 loopM (L := (Unit × ((List Int) × Unit) × (List (Int × List (Int × Fm))) × Int × Int × Unit) × ((Int × (List (Int × Fm)) × Unit) × Unit)) (R := (OutD Unit Unit) × ((Int × (List (Int × Fm)) × Unit) × Unit)) (fun d1 => (
 let c2 := d1.2.1.1
 let c3 := d1.2.1.2.1
 let v5_4 := d1.1.2.2.1
 let v6_5 := d1.1.2.2.2.1
 let v7_6 := d1.1.2.2.2.2.1
 cond (decide (v7_6 < v6_5)) (cond (ixOK v7_6 v5_4.length) (cond (ixOK v7_6 d1.1.2.1.1.length) (Option.bind (α := Out (Int × List (Int × Fm))) (G_plus (c2, c3) (v5_4.getD v7_6.toNat ((0 : Int), ([] : List (Int × Fm)))) (d1.1.2.1.1.getD v7_6.toNat (0 : Int))) fun or7 => match or7 with
 | .ret r7 => (
 some (Step.next (((), (d1.1.2.1.1, ()), v5_4, v6_5, IntKind.wrap .i64 (v7_6 + 1), ()), ((r7.1, r7.2, ()), ()))))
 | .pan => (some (Step.done (OutD.pan (), ((c2, c3, ()), ()))))) none) none) (some (Step.done (OutD.ret (), ((c2, c3, ()), ())))))) (((), (x2.1, ()), x0.1, (x0.1.length : Int), 0, ()), ((o0.1, o0.2.1, ()), ())))
def A_isF2 : An := .seq (.leaf) (.block (.loop { env := [(1, (.ref 0 0)), (2, (.rptr [(.d (.slice (.int .i64)))])), (5, (.d (.slice (.pr (.int .i64) (.slice (.pr (.int .i64) .form)))))), (6, (.d (.int .i64))), (7, (.d (.int .i64)))], objs := [(true, .cells 66 [(.d (.int .i64)), (.d (.slice (.pr (.int .i64) .form)))])] } (.leaf)))
def H_isF2 : Nat → RH := fun r => match r with
 | 3 => { H := { pl := [14, 17] }, tl := [6] }
 | _ => {}
noncomputable def Q_isF2 : QSig := { pre := [(false, .cells 66 [(.d (.int .i64)), (.d (.slice (.pr (.int .i64) .form)))])], args := [(.rptr [(.d (.slice (.pr (.int .i64) (.slice (.pr (.int .i64) .form)))))]), (.ref 0 0), (.rptr [(.d (.slice (.int .i64)))])], post := [(true, .cells 66 [(.d (.int .i64)), (.d (.slice (.pr (.int .i64) .form)))])], res := (.tup []), pv := (.iface 142 (.d .un)), f := fun x => G_isF2 x.1.1 x.1.2.2.1 x.2.1 }
noncomputable def S_isF2 : Sig := .q Q_isF2
theorem S_isF2_ok : SigOK CX 95 S_isF2 := sigQ_of (l := [(96, S_plus)]) ⟨S_plus_ok, trivial⟩ (hint := H_isF2) (an := A_isF2) (by kernel_rfl) (fun x => by kernel_rfl)
noncomputable def S_caught_isF2 : Sig := .c ⟨95, Q_isF2, [], .d .bool, 1, 0, 1, 0, fun _ => true, fun _ => false, fun _ o => panB o⟩
theorem S_caught_isF2_ok : SigOK CX 66 S_caught_isF2 := caught_ok (g := 95) S_isF2_ok (by kernel_rfl)
noncomputable def G_isFactors (x0 : List (Int × List (Int × Fm))) (x1 : List Int) : Option (Bool) := (
 Option.bind (α := Bool) (cond (!(!decide ((x1.length : Int) = (x0.length : Int)))) (G_cntNeg x1 ()) (some false)) fun r1 => (
 cond (cond (!decide ((x1.length : Int) = (x0.length : Int))) true r1) (some false) (Option.bind (α := ((OutD Unit Unit) × ((Int × (List (Int × Fm)) × Unit) × Unit))) (G_isF2 (x0, ()) (x1, ()) (0, ([] : List (Int × Fm)), ())) fun r2 => match r2.1 with
 | .ret qr2 => (
 some (cond (cond true (decide ((r2.2.1.2.1.length : Int) = 0)) false) (decide (r2.2.1.1 > 0)) false))
 | .pan qr2 => (
 some (cond (cond false (decide ((r2.2.1.2.1.length : Int) = 0)) false) (decide (r2.2.1.1 > 0)) false)))))
def A_isFactors : An := .leaf
def H_isFactors : Nat → RH := fun r => match r with
 | 4 => { H := { ac := [17] } }
 | _ => {}
noncomputable def S_isFactors : Sig := .n [(.d (.slice (.pr (.int .i64) (.slice (.pr (.int .i64) .form))))), (.d (.slice (.int .i64)))] (.d .bool) (fun x => G_isFactors x.1 x.2.1)
theorem S_isFactors_ok : SigOK CX 50 S_isFactors := sigN_of (l := [(93, S_cntNeg), (66, S_caught_isF2)]) ⟨S_cntNeg_ok, S_caught_isF2_ok, trivial⟩ (hint := H_isFactors) (an := A_isFactors) (fun x => by kernel_rfl)
noncomputable def G_isFactorsE (x0 : List (Int × List (Int × Fm))) (x1 : List Int) : Option (Bool × Int × Unit) := (
 Option.bind (α := Int) (G_asked x0) fun r1 => (
 cond (!decide (r1 = 0)) (some (false, r1, ())) (Option.bind (α := Bool) (G_isFactors x0 x1) fun r2 => (
 some (r2, 0, ())))))
def A_isFactorsE : An := .leaf
def H_isFactorsE : Nat → RH := fun _ => {}
noncomputable def S_isFactorsE : Sig := .n [(.d (.slice (.pr (.int .i64) (.slice (.pr (.int .i64) .form))))), (.d (.slice (.int .i64)))] (.tup [(.d .bool), (.d (.int .i64))]) (fun x => G_isFactorsE x.1 x.2.1)
theorem S_isFactorsE_ok : SigOK CX 12 S_isFactorsE := sigN_of (l := [(49, S_asked), (50, S_isFactors)]) ⟨S_asked_ok, S_isFactors_ok, trivial⟩ (hint := H_isFactorsE) (an := A_isFactorsE) (fun x => by kernel_rfl)
noncomputable def G_lcut (x0 : Fm) (x1 : Int) (x2 : Int) : Option (Int × List (Int × Fm)) := (
 some (x2, [(x1, (Fm.eta x0))]))
def A_lcut : An := .leaf
def H_lcut : Nat → RH := fun _ => {}
noncomputable def S_lcut : Sig := .n [(.d .form), (.d (.int .i64)), (.d (.int .i64))] (.d (.pr (.int .i64) (.slice (.pr (.int .i64) .form)))) (fun x => G_lcut x.1 x.2.1 x.2.2.1)
theorem S_lcut_ok : SigOK CX 103 S_lcut := sigN_of (l := []) trivial (hint := H_lcut) (an := A_lcut) (fun x => by kernel_rfl)
noncomputable def G_cloneSum_ne (x0 : List (Int × List (Int × Fm))) : Option ((Unit) × ((List (Int × List (Int × Fm))) × Unit)) := (
 cond (!x0.isEmpty) (cond (decide ((([] : List (Int × List (Int × Fm))).length + x0.length) * 32 ≤ 140737488355328)) (some ((), (([] : List (Int × List (Int × Fm))) ++ x0, ()))) none) none)
def A_cloneSum_ne : An := .leaf
def H_cloneSum_ne : Nat → RH := fun r => match r with
 | 3 => { H := { mb := [5], ty := [(5, (.pr (.int .i64) (.slice (.pr (.int .i64) .form)))), (7, (.pr (.int .i64) (.slice (.pr (.int .i64) .form))))] } }
 | _ => {}
noncomputable def S_cloneSum_ne : Sig := .o { pre := [], args := [(.d (.slice (.pr (.int .i64) (.slice (.pr (.int .i64) .form)))))], post := [(false, .tg (.pr (.int .i64) (.slice (.pr (.int .i64) .form))) 66)], res := (.gs 0 (.pr (.int .i64) (.slice (.pr (.int .i64) .form)))), f := fun x => G_cloneSum_ne x.1.1 }
theorem S_cloneSum_ne_ok : SigOK CX 102 S_cloneSum_ne := sigO_of (l := []) trivial (hint := H_cloneSum_ne) (an := A_cloneSum_ne) (by kernel_rfl) (fun x => by kernel_rfl)
noncomputable def G_cloneSum_nil  : Option ((Unit) × ((List (Int × List (Int × Fm))) × Unit)) := (
 some ((), (([] : List (Int × List (Int × Fm))), ())))
def A_cloneSum_nil : An := .leaf
def H_cloneSum_nil : Nat → RH := fun _ => {}
noncomputable def S_cloneSum_nil : Sig := .o { pre := [], args := [(.c (.base (.slice none 0 0)))], post := [(false, .tg (.pr (.int .i64) (.slice (.pr (.int .i64) .form))) 66)], res := (.gs 0 (.pr (.int .i64) (.slice (.pr (.int .i64) .form)))), f := fun x => G_cloneSum_nil }
theorem S_cloneSum_nil_ok : SigOK CX 102 S_cloneSum_nil := sigO_of (l := []) trivial (hint := H_cloneSum_nil) (an := A_cloneSum_nil) (by kernel_rfl) (fun x => by kernel_rfl)
noncomputable def G_cloneSum_emp  : Option ((Unit) × ((List (Int × List (Int × Fm))) × Unit)) := (
 cond (decide ((([] : List (Int × List (Int × Fm))).length + ([] : List (Int × List (Int × Fm))).length) * 32 ≤ 140737488355328)) (some ((), (([] : List (Int × List (Int × Fm))) ++ ([] : List (Int × List (Int × Fm))), ()))) none)
def A_cloneSum_emp : An := .leaf
def H_cloneSum_emp : Nat → RH := fun r => match r with
 | 3 => { H := { mb := [5], ty := [(5, (.pr (.int .i64) (.slice (.pr (.int .i64) .form)))), (7, (.pr (.int .i64) (.slice (.pr (.int .i64) .form))))] } }
 | _ => {}
noncomputable def S_cloneSum_emp (a : Addr) (cap : Nat) : Sig := .o { pre := [], args := [(.c (.base (.slice (some a) 0 cap)))], post := [(false, .tg (.pr (.int .i64) (.slice (.pr (.int .i64) .form))) 66)], res := (.gs 0 (.pr (.int .i64) (.slice (.pr (.int .i64) .form)))), f := fun x => G_cloneSum_emp }
theorem S_cloneSum_emp_ok (a : Addr) (cap : Nat) : SigOK CX 102 (S_cloneSum_emp a cap) := sigO_of (l := []) trivial (hint := H_cloneSum_emp) (an := A_cloneSum_emp) (by kernel_rfl) (fun x => by kernel_rfl)
noncomputable def S_cloneSum : Sig := .o { pre := [], args := [(.d (.slice (.pr (.int .i64) (.slice (.pr (.int .i64) .form)))))], post := [(false, .tg (.pr (.int .i64) (.slice (.pr (.int .i64) .form))) 66)], res := (.gs 0 (.pr (.int .i64) (.slice (.pr (.int .i64) .form)))), f := fun x => cloneF 32 x.1.1 }
theorem S_cloneSum_ok : SigOK CX 102 S_cloneSum := by
 refine ⟨by kernel_rfl, fun x r hr B kn m w vs hI hlay hargs => ?_⟩
 obtain ⟨⟨(l : List (Int × List (Int × Fm))), u1⟩, u2⟩ := x
 have hr : cloneF 32 l = some r := hr
 have hargs : RelL kn m [.tvec (.pr (.int .i64) (.slice (.pr (.int .i64) .form))) l] vs := hargs
 obtain ⟨v, vs1, rfl, hv, hvs⟩ := RelL.uncons hargs
 have : vs1 = [] := List.eq_nil_of_length_eq_zero hvs.1.symm
 subst this
 cases l with
 | cons a l => exact S_cloneSum_ne_ok.2 (((a :: l), ()), ()) r (show G_cloneSum_ne (a :: l) = some r by simpa [cloneF, G_cloneSum_ne] using hr) B kn m w _ hI hlay hargs
 | nil =>
  cases hr
  have hv := rel_tvec.1 hv
  have one : ∀ u : Value, RelL kn m [.base u] [u] := fun u => .cons (.base u) (.nil _ _)
  generalize hrows : List.map (E.row (.pr (.int .i64) (.slice (.pr (.int .i64) .form)))) ([] : List (Int × List (Int × Fm))) = rows at hv
  cases hv with
  | vecNil _ a cap => exact (S_cloneSum_emp_ok a cap).2 (((), ()), ()) _ rfl B kn m w _ hI hlay (one _)
  | vecNone => exact S_cloneSum_nil_ok.2 (((), ()), ()) _ rfl B kn m w _ hI hlay (one _)
  | vec _ _ b o cap vals =>
   subst hrows
   exact (S_cloneSum_emp_ok ⟨b, o, none⟩ cap).2 (((), ()), ()) _ rfl B kn m w _ hI hlay (one _)
noncomputable def G_showsO (k : Nat) (x1 : Fm) (x2 : Int) (o0 : List (Int × List (Int × Fm))) : Option ((Bool) × (Unit)) := match k with
| 0 => none
| k + 1 => (
 Option.bind (α := Step ((Unit) × ((List (Int × List (Int × Fm))) × Unit)) ((Bool) × (Unit)))
 (Option.bind (α := Bool) (G_isp (Fm.eta x1) ([102, 97, 99, 116, 111, 114, 115]) (-1)) fun r1 => (
 cond r1 (cond (decide ((0 : Int) ≤ (o0.length : Int) ∧ ((o0.length : Int) : Int) ≤ (o0.length : Int) ∧ ((o0.length : Int) : Int) * 8 ≤ 281474976710656)) (Option.bind (α := Step ((Unit × Unit × Unit) × ((List (Int × List (Int × Fm))) × (List Int) × Unit)) (Step ((Unit) × ((List (Int × List (Int × Fm))) × Unit)) ((Bool) × (Unit))))
 (cond (slOK 1 (x1.l.length : Int) x1.l.length) (loopM (L := (Unit × Unit × Int × (List Fm) × Int × Int × Unit) × ((List (Int × List (Int × Fm))) × (List Int) × Unit)) (R := Step ((Unit × Unit × Unit) × ((List (Int × List (Int × Fm))) × (List Int) × Unit)) (Step ((Unit) × ((List (Int × List (Int × Fm))) × Unit)) ((Bool) × (Unit)))) (fun d2 => (
 let l3 := d2.2.1
 let l4 := d2.2.2.1
 let v8_5 := d2.1.2.2.1
 let v21_6 := d2.1.2.2.2.1
 let v22_7 := d2.1.2.2.2.2.1
 let v23_8 := d2.1.2.2.2.2.2.1
 cond (decide (v23_8 < v22_7)) (cond (ixOK v23_8 v21_6.length) (cond ((ixOK 0 ((v21_6.getD v23_8.toNat (Fm.mk 0 0 [] [])).l).length) || !(!(cond (!decide ((v21_6.getD v23_8.toNat (Fm.mk 0 0 [] [])).k = 3)) true (!decide ((((v21_6.getD v23_8.toNat (Fm.mk 0 0 [] [])).l).length : Int) = 2))))) (cond ((ixOK 1 ((v21_6.getD v23_8.toNat (Fm.mk 0 0 [] [])).l).length) || !(!(cond (cond (!decide ((v21_6.getD v23_8.toNat (Fm.mk 0 0 [] [])).k = 3)) true (!decide ((((v21_6.getD v23_8.toNat (Fm.mk 0 0 [] [])).l).length : Int) = 2))) true (!decide ((((v21_6.getD v23_8.toNat (Fm.mk 0 0 [] [])).l).getD (0 : Int).toNat (Fm.mk 0 0 [] [])).k = 0))))) (cond ((ixOK 0 ((v21_6.getD v23_8.toNat (Fm.mk 0 0 [] [])).l).length) || !(!(cond (cond (cond (!decide ((v21_6.getD v23_8.toNat (Fm.mk 0 0 [] [])).k = 3)) true (!decide ((((v21_6.getD v23_8.toNat (Fm.mk 0 0 [] [])).l).length : Int) = 2))) true (!decide ((((v21_6.getD v23_8.toNat (Fm.mk 0 0 [] [])).l).getD (0 : Int).toNat (Fm.mk 0 0 [] [])).k = 0))) true (!decide ((((v21_6.getD v23_8.toNat (Fm.mk 0 0 [] [])).l).getD (1 : Int).toNat (Fm.mk 0 0 [] [])).k = 0))))) (cond ((ixOK 0 ((v21_6.getD v23_8.toNat (Fm.mk 0 0 [] [])).l).length) || !(!(cond (cond (cond (cond (!decide ((v21_6.getD v23_8.toNat (Fm.mk 0 0 [] [])).k = 3)) true (!decide ((((v21_6.getD v23_8.toNat (Fm.mk 0 0 [] [])).l).length : Int) = 2))) true (!decide ((((v21_6.getD v23_8.toNat (Fm.mk 0 0 [] [])).l).getD (0 : Int).toNat (Fm.mk 0 0 [] [])).k = 0))) true (!decide ((((v21_6.getD v23_8.toNat (Fm.mk 0 0 [] [])).l).getD (1 : Int).toNat (Fm.mk 0 0 [] [])).k = 0))) true (decide ((((v21_6.getD v23_8.toNat (Fm.mk 0 0 [] [])).l).getD (0 : Int).toNat (Fm.mk 0 0 [] [])).n ≤ v8_5))))) (cond ((ixOK 1 ((v21_6.getD v23_8.toNat (Fm.mk 0 0 [] [])).l).length) || !(!(cond (cond (cond (cond (cond (!decide ((v21_6.getD v23_8.toNat (Fm.mk 0 0 [] [])).k = 3)) true (!decide ((((v21_6.getD v23_8.toNat (Fm.mk 0 0 [] [])).l).length : Int) = 2))) true (!decide ((((v21_6.getD v23_8.toNat (Fm.mk 0 0 [] [])).l).getD (0 : Int).toNat (Fm.mk 0 0 [] [])).k = 0))) true (!decide ((((v21_6.getD v23_8.toNat (Fm.mk 0 0 [] [])).l).getD (1 : Int).toNat (Fm.mk 0 0 [] [])).k = 0))) true (decide ((((v21_6.getD v23_8.toNat (Fm.mk 0 0 [] [])).l).getD (0 : Int).toNat (Fm.mk 0 0 [] [])).n ≤ v8_5))) true (decide ((((v21_6.getD v23_8.toNat (Fm.mk 0 0 [] [])).l).getD (0 : Int).toNat (Fm.mk 0 0 [] [])).n ≥ (l3.length : Int)))))) (cond (cond (cond (cond (cond (cond (cond (!decide ((v21_6.getD v23_8.toNat (Fm.mk 0 0 [] [])).k = 3)) true (!decide ((((v21_6.getD v23_8.toNat (Fm.mk 0 0 [] [])).l).length : Int) = 2))) true (!decide ((((v21_6.getD v23_8.toNat (Fm.mk 0 0 [] [])).l).getD (0 : Int).toNat (Fm.mk 0 0 [] [])).k = 0))) true (!decide ((((v21_6.getD v23_8.toNat (Fm.mk 0 0 [] [])).l).getD (1 : Int).toNat (Fm.mk 0 0 [] [])).k = 0))) true (decide ((((v21_6.getD v23_8.toNat (Fm.mk 0 0 [] [])).l).getD (0 : Int).toNat (Fm.mk 0 0 [] [])).n ≤ v8_5))) true (decide ((((v21_6.getD v23_8.toNat (Fm.mk 0 0 [] [])).l).getD (0 : Int).toNat (Fm.mk 0 0 [] [])).n ≥ (l3.length : Int)))) true (decide ((((v21_6.getD v23_8.toNat (Fm.mk 0 0 [] [])).l).getD (1 : Int).toNat (Fm.mk 0 0 [] [])).n < 1))) (some (Step.done (Step.done (Step.done (false, ()))))) (cond (ixOK 0 ((v21_6.getD v23_8.toNat (Fm.mk 0 0 [] [])).l).length) (cond (ixOK 1 ((v21_6.getD v23_8.toNat (Fm.mk 0 0 [] [])).l).length) (cond (ixOK ((((v21_6.getD v23_8.toNat (Fm.mk 0 0 [] [])).l).getD (0 : Int).toNat (Fm.mk 0 0 [] [])).n) l4.length) (cond (decide (((((v21_6.getD v23_8.toNat (Fm.mk 0 0 [] [])).l).getD (0 : Int).toNat (Fm.mk 0 0 [] [])).n).toNat < l4.length)) (some (Step.next (((), (), (((v21_6.getD v23_8.toNat (Fm.mk 0 0 [] [])).l).getD (0 : Int).toNat (Fm.mk 0 0 [] [])).n, v21_6, v22_7, IntKind.wrap .i64 (v23_8 + 1), ()), (l3, l4.set (((((v21_6.getD v23_8.toNat (Fm.mk 0 0 [] [])).l).getD (0 : Int).toNat (Fm.mk 0 0 [] [])).n).toNat) ((((v21_6.getD v23_8.toNat (Fm.mk 0 0 [] [])).l).getD (1 : Int).toNat (Fm.mk 0 0 [] [])).n), ())))) none) none) none) none)) none) none) none) none) none) none) (some (Step.done (Step.next (((), (), ()), (l3, l4, ()))))))) (((), (), (-1), (x1.l.drop (1 : Int).toNat).take ((x1.l.length : Int).toNat - (1 : Int).toNat), (((x1.l.drop (1 : Int).toNat).take ((x1.l.length : Int).toNat - (1 : Int).toNat)).length : Int), 0, ()), (o0, List.replicate (o0.length : Int).toNat 0, ()))) none) fun qd9 => match qd9 with
 | .next d9 => (
 let l10 := d9.2.1
 let l11 := d9.2.2.1
 Option.bind (α := Bool) (G_isFactors l10 l11) fun r12 => (
 some (Step.done (r12, ()))))
 | .done r => some r) none) (Option.bind (α := Bool) (G_isp (Fm.eta x1) ([99, 117, 116]) 4) fun r13 => (
 cond r13 (cond (ixOK 1 x1.l.length) (cond (ixOK 2 x1.l.length) (Option.bind (α := Bool) (cond (!(!decide ((x1.l.getD (2 : Int).toNat (Fm.mk 0 0 [] [])).k = 0))) (G_within (IntKind.wrap .i64 ((x1.l.getD (2 : Int).toNat (Fm.mk 0 0 [] [])).n + 1))) (some false)) fun r14 => (
 cond (cond (cond (!decide ((x1.l.getD (2 : Int).toNat (Fm.mk 0 0 [] [])).k = 0)) true (!r14)) true (decide (x2 ≥ 40))) (some (Step.done (false, ()))) (Option.bind (α := (Unit) × ((List (Int × List (Int × Fm))) × Unit)) (cloneF 32 o0) fun r15 => (
 Option.bind (α := Int × List (Int × Fm)) (G_lcut (Fm.eta (x1.l.getD (1 : Int).toNat (Fm.mk 0 0 [] []))) 1 (IntKind.wrap .i64 (0 - (x1.l.getD (2 : Int).toNat (Fm.mk 0 0 [] [])).n))) fun r16 => (
 cond (decide ((r15.2.1.length + ([r16]).length) * 32 ≤ 140737488355328)) (cond (ixOK 3 x1.l.length) (Option.bind (α := (Bool) × (Unit)) (G_showsO k (Fm.eta (x1.l.getD (3 : Int).toNat (Fm.mk 0 0 [] []))) (IntKind.wrap .i64 (x2 + 1)) (r15.2.1 ++ ([r16]))) fun r17 => (
 cond r17.1 (Option.bind (α := (Unit) × ((List (Int × List (Int × Fm))) × Unit)) (cloneF 32 o0) fun r19 => (
 Option.bind (α := Int × List (Int × Fm)) (cond true (G_lcut (Fm.eta (x1.l.getD (1 : Int).toNat (Fm.mk 0 0 [] []))) (-1) (IntKind.wrap .i64 ((x1.l.getD (2 : Int).toNat (Fm.mk 0 0 [] [])).n + 1))) (some ((0 : Int), ([] : List (Int × Fm))))) fun r20 => (
 cond (decide ((r19.2.1.length + ([r20]).length) * 32 ≤ 140737488355328)) (cond ((ixOK 4 x1.l.length) || !true) (Option.bind (α := (Bool) × (Unit)) (G_showsO k (Fm.eta (x1.l.getD (4 : Int).toNat (Fm.mk 0 0 [] []))) (IntKind.wrap .i64 (x2 + 1)) (r19.2.1 ++ ([r20]))) fun r22 => (
 some (Step.done (cond true r22.1 false, ())))) none) none))) (Option.bind (α := Int × List (Int × Fm)) (cond false (G_lcut (Fm.eta (x1.l.getD (1 : Int).toNat (Fm.mk 0 0 [] []))) (-1) (IntKind.wrap .i64 ((x1.l.getD (2 : Int).toNat (Fm.mk 0 0 [] [])).n + 1))) (some ((0 : Int), ([] : List (Int × Fm))))) fun r23 => (
 cond ((ixOK 4 x1.l.length) || !false) (some (Step.done (cond false false false, ()))) none)))) none) none))))) none) none) (some (Step.next ((), (o0, ())))))))) fun qd24 => match qd24 with
 | .next d24 => (
 let l25 := d24.2.1
 some (false, ()))
 | .done r => some r)
def A_showsO : An := .seq (.leaf) (.join true { env := [], objs := [(true, .tg (.pr (.int .i64) (.slice (.pr (.int .i64) .form))) 66)] } (.block (.seq (.leaf) (.cond (.seq (.leaf) (.seq (.leaf) (.join true { env := [(0, (.gs 0 (.pr (.int .i64) (.slice (.pr (.int .i64) .form))))), (7, (.gs 1 (.int .i64)))], objs := [(true, .tg (.pr (.int .i64) (.slice (.pr (.int .i64) .form))) 66), (false, .tg (.int .i64) 3)] } (.seq (.leaf) (.block (.loop { env := [(0, (.gs 0 (.pr (.int .i64) (.slice (.pr (.int .i64) .form))))), (7, (.gs 1 (.int .i64))), (8, (.d (.int .i64))), (21, (.d (.slice .form))), (22, (.d (.int .i64))), (23, (.d (.int .i64)))], objs := [(true, .tg (.pr (.int .i64) (.slice (.pr (.int .i64) .form))) 66), (false, .tg (.int .i64) 3)] } (.leaf)))) (.frz [0, 1] (.leaf))))) (.seq (.leaf) (.cond (.seq (.leaf) (.seq (.leaf) (.frz [0, 1, 2] (.leaf)))) (.leaf)))))) (.leaf))
def H_showsO : Nat → RH := fun r => match r with
 | 2 => { H := { ty := [(18, (.int .i64))] } }
 | 14 => { H := { pl := [100, 102, 104, 106] } }
 | 17 => { H := { ac := [122, 136, 139, 153], pl := [123, 125, 131, 133, 140, 142, 148, 150], ty := [(129, (.pr (.int .i64) (.slice (.pr (.int .i64) .form)))), (146, (.pr (.int .i64) (.slice (.pr (.int .i64) .form))))] } }
 | _ => {}
noncomputable def S_showsO (k : Nat) : Sig := .o { pre := [(false, .tg (.pr (.int .i64) (.slice (.pr (.int .i64) .form))) 66)], args := [(.gs 0 (.pr (.int .i64) (.slice (.pr (.int .i64) .form)))), (.d .form), (.d (.int .i64))], post := [], res := (.d .bool), f := fun x => G_showsO k x.1.2.1 x.1.2.2.1 x.2.1 }
theorem S_showsO_ok : ∀ k, SigOK CX 57 (S_showsO k)
| 0 => ⟨by kernel_rfl, fun x r h => by cases h⟩
| k + 1 => by
 have ih := S_showsO_ok k
 exact sigO_of (l := [(100, S_isp), (50, S_isFactors), (101, S_within), (102, S_cloneSum), (103, S_lcut), (57, (S_showsO k))]) ⟨S_isp_ok, S_isFactors_ok, S_within_ok, S_cloneSum_ok, S_lcut_ok, ih, trivial⟩ (hint := H_showsO) (an := A_showsO) (by kernel_rfl) (fun x => by kernel_rfl)
noncomputable def L_showsO (x1 : Fm) (x2 : Int) (o0 : List (Int × List (Int × Fm))) : Option ((Bool) × (Unit)) := limF fun k => G_showsO k x1 x2 o0
noncomputable def S_showsO_l : Sig := .o { pre := [(false, .tg (.pr (.int .i64) (.slice (.pr (.int .i64) .form))) 66)], args := [(.gs 0 (.pr (.int .i64) (.slice (.pr (.int .i64) .form)))), (.d .form), (.d (.int .i64))], post := [], res := (.d .bool), f := fun x => L_showsO x.1.2.1 x.1.2.2.1 x.2.1 }
theorem S_showsO_l_ok : SigOK CX 57 S_showsO_l := SigOK.limO S_showsO_ok fun x r h => limF_ex h
noncomputable def G_shows (x0 : List (Int × List (Int × Fm))) (x1 : Fm) (x2 : Int) : Option (Bool) := (
 Option.bind (α := Step ((Unit) × (Unit)) (Bool))
 (Option.bind (α := Bool) (G_isp (Fm.eta x1) ([102, 97, 99, 116, 111, 114, 115]) (-1)) fun r1 => (
 cond r1 (cond (decide ((0 : Int) ≤ (x0.length : Int) ∧ ((x0.length : Int) : Int) ≤ (x0.length : Int) ∧ ((x0.length : Int) : Int) * 8 ≤ 281474976710656)) (Option.bind (α := Step (((List (Int × List (Int × Fm))) × Unit × Unit) × ((List Int) × Unit)) (Step ((Unit) × (Unit)) (Bool)))
 (cond (slOK 1 (x1.l.length : Int) x1.l.length) (loopM (L := ((List (Int × List (Int × Fm))) × Unit × Int × (List Fm) × Int × Int × Unit) × ((List Int) × Unit)) (R := Step (((List (Int × List (Int × Fm))) × Unit × Unit) × ((List Int) × Unit)) (Step ((Unit) × (Unit)) (Bool))) (fun d2 => (
 let l3 := d2.2.1
 let v0_4 := d2.1.1
 let v8_5 := d2.1.2.2.1
 let v21_6 := d2.1.2.2.2.1
 let v22_7 := d2.1.2.2.2.2.1
 let v23_8 := d2.1.2.2.2.2.2.1
 cond (decide (v23_8 < v22_7)) (cond (ixOK v23_8 v21_6.length) (cond ((ixOK 0 ((v21_6.getD v23_8.toNat (Fm.mk 0 0 [] [])).l).length) || !(!(cond (!decide ((v21_6.getD v23_8.toNat (Fm.mk 0 0 [] [])).k = 3)) true (!decide ((((v21_6.getD v23_8.toNat (Fm.mk 0 0 [] [])).l).length : Int) = 2))))) (cond ((ixOK 1 ((v21_6.getD v23_8.toNat (Fm.mk 0 0 [] [])).l).length) || !(!(cond (cond (!decide ((v21_6.getD v23_8.toNat (Fm.mk 0 0 [] [])).k = 3)) true (!decide ((((v21_6.getD v23_8.toNat (Fm.mk 0 0 [] [])).l).length : Int) = 2))) true (!decide ((((v21_6.getD v23_8.toNat (Fm.mk 0 0 [] [])).l).getD (0 : Int).toNat (Fm.mk 0 0 [] [])).k = 0))))) (cond ((ixOK 0 ((v21_6.getD v23_8.toNat (Fm.mk 0 0 [] [])).l).length) || !(!(cond (cond (cond (!decide ((v21_6.getD v23_8.toNat (Fm.mk 0 0 [] [])).k = 3)) true (!decide ((((v21_6.getD v23_8.toNat (Fm.mk 0 0 [] [])).l).length : Int) = 2))) true (!decide ((((v21_6.getD v23_8.toNat (Fm.mk 0 0 [] [])).l).getD (0 : Int).toNat (Fm.mk 0 0 [] [])).k = 0))) true (!decide ((((v21_6.getD v23_8.toNat (Fm.mk 0 0 [] [])).l).getD (1 : Int).toNat (Fm.mk 0 0 [] [])).k = 0))))) (cond ((ixOK 0 ((v21_6.getD v23_8.toNat (Fm.mk 0 0 [] [])).l).length) || !(!(cond (cond (cond (cond (!decide ((v21_6.getD v23_8.toNat (Fm.mk 0 0 [] [])).k = 3)) true (!decide ((((v21_6.getD v23_8.toNat (Fm.mk 0 0 [] [])).l).length : Int) = 2))) true (!decide ((((v21_6.getD v23_8.toNat (Fm.mk 0 0 [] [])).l).getD (0 : Int).toNat (Fm.mk 0 0 [] [])).k = 0))) true (!decide ((((v21_6.getD v23_8.toNat (Fm.mk 0 0 [] [])).l).getD (1 : Int).toNat (Fm.mk 0 0 [] [])).k = 0))) true (decide ((((v21_6.getD v23_8.toNat (Fm.mk 0 0 [] [])).l).getD (0 : Int).toNat (Fm.mk 0 0 [] [])).n ≤ v8_5))))) (cond ((ixOK 1 ((v21_6.getD v23_8.toNat (Fm.mk 0 0 [] [])).l).length) || !(!(cond (cond (cond (cond (cond (!decide ((v21_6.getD v23_8.toNat (Fm.mk 0 0 [] [])).k = 3)) true (!decide ((((v21_6.getD v23_8.toNat (Fm.mk 0 0 [] [])).l).length : Int) = 2))) true (!decide ((((v21_6.getD v23_8.toNat (Fm.mk 0 0 [] [])).l).getD (0 : Int).toNat (Fm.mk 0 0 [] [])).k = 0))) true (!decide ((((v21_6.getD v23_8.toNat (Fm.mk 0 0 [] [])).l).getD (1 : Int).toNat (Fm.mk 0 0 [] [])).k = 0))) true (decide ((((v21_6.getD v23_8.toNat (Fm.mk 0 0 [] [])).l).getD (0 : Int).toNat (Fm.mk 0 0 [] [])).n ≤ v8_5))) true (decide ((((v21_6.getD v23_8.toNat (Fm.mk 0 0 [] [])).l).getD (0 : Int).toNat (Fm.mk 0 0 [] [])).n ≥ (v0_4.length : Int)))))) (cond (cond (cond (cond (cond (cond (cond (!decide ((v21_6.getD v23_8.toNat (Fm.mk 0 0 [] [])).k = 3)) true (!decide ((((v21_6.getD v23_8.toNat (Fm.mk 0 0 [] [])).l).length : Int) = 2))) true (!decide ((((v21_6.getD v23_8.toNat (Fm.mk 0 0 [] [])).l).getD (0 : Int).toNat (Fm.mk 0 0 [] [])).k = 0))) true (!decide ((((v21_6.getD v23_8.toNat (Fm.mk 0 0 [] [])).l).getD (1 : Int).toNat (Fm.mk 0 0 [] [])).k = 0))) true (decide ((((v21_6.getD v23_8.toNat (Fm.mk 0 0 [] [])).l).getD (0 : Int).toNat (Fm.mk 0 0 [] [])).n ≤ v8_5))) true (decide ((((v21_6.getD v23_8.toNat (Fm.mk 0 0 [] [])).l).getD (0 : Int).toNat (Fm.mk 0 0 [] [])).n ≥ (v0_4.length : Int)))) true (decide ((((v21_6.getD v23_8.toNat (Fm.mk 0 0 [] [])).l).getD (1 : Int).toNat (Fm.mk 0 0 [] [])).n < 1))) (some (Step.done (Step.done (Step.done false)))) (cond (ixOK 0 ((v21_6.getD v23_8.toNat (Fm.mk 0 0 [] [])).l).length) (cond (ixOK 1 ((v21_6.getD v23_8.toNat (Fm.mk 0 0 [] [])).l).length) (cond (ixOK ((((v21_6.getD v23_8.toNat (Fm.mk 0 0 [] [])).l).getD (0 : Int).toNat (Fm.mk 0 0 [] [])).n) l3.length) (cond (decide (((((v21_6.getD v23_8.toNat (Fm.mk 0 0 [] [])).l).getD (0 : Int).toNat (Fm.mk 0 0 [] [])).n).toNat < l3.length)) (some (Step.next ((v0_4, (), (((v21_6.getD v23_8.toNat (Fm.mk 0 0 [] [])).l).getD (0 : Int).toNat (Fm.mk 0 0 [] [])).n, v21_6, v22_7, IntKind.wrap .i64 (v23_8 + 1), ()), (l3.set (((((v21_6.getD v23_8.toNat (Fm.mk 0 0 [] [])).l).getD (0 : Int).toNat (Fm.mk 0 0 [] [])).n).toNat) ((((v21_6.getD v23_8.toNat (Fm.mk 0 0 [] [])).l).getD (1 : Int).toNat (Fm.mk 0 0 [] [])).n), ())))) none) none) none) none)) none) none) none) none) none) none) (some (Step.done (Step.next ((v0_4, (), ()), (l3, ()))))))) ((x0, (), (-1), (x1.l.drop (1 : Int).toNat).take ((x1.l.length : Int).toNat - (1 : Int).toNat), (((x1.l.drop (1 : Int).toNat).take ((x1.l.length : Int).toNat - (1 : Int).toNat)).length : Int), 0, ()), (List.replicate (x0.length : Int).toNat 0, ()))) none) fun qd9 => match qd9 with
 | .next d9 => (
 let l10 := d9.2.1
 let v0_11 := d9.1.1
 Option.bind (α := Bool) (G_isFactors v0_11 l10) fun r12 => (
 some (Step.done r12)))
 | .done r => some r) none) (Option.bind (α := Bool) (G_isp (Fm.eta x1) ([99, 117, 116]) 4) fun r13 => (
 cond r13 (cond (ixOK 1 x1.l.length) (cond (ixOK 2 x1.l.length) (Option.bind (α := Bool) (cond (!(!decide ((x1.l.getD (2 : Int).toNat (Fm.mk 0 0 [] [])).k = 0))) (G_within (IntKind.wrap .i64 ((x1.l.getD (2 : Int).toNat (Fm.mk 0 0 [] [])).n + 1))) (some false)) fun r14 => (
 cond (cond (cond (!decide ((x1.l.getD (2 : Int).toNat (Fm.mk 0 0 [] [])).k = 0)) true (!r14)) true (decide (x2 ≥ 40))) (some (Step.done false)) (Option.bind (α := (Unit) × ((List (Int × List (Int × Fm))) × Unit)) (cloneF 32 x0) fun r15 => (
 Option.bind (α := Int × List (Int × Fm)) (G_lcut (Fm.eta (x1.l.getD (1 : Int).toNat (Fm.mk 0 0 [] []))) 1 (IntKind.wrap .i64 (0 - (x1.l.getD (2 : Int).toNat (Fm.mk 0 0 [] [])).n))) fun r16 => (
 cond (decide ((r15.2.1.length + ([r16]).length) * 32 ≤ 140737488355328)) (cond (ixOK 3 x1.l.length) (Option.bind (α := (Bool) × (Unit)) (L_showsO (Fm.eta (x1.l.getD (3 : Int).toNat (Fm.mk 0 0 [] []))) (IntKind.wrap .i64 (x2 + 1)) (r15.2.1 ++ ([r16]))) fun r17 => (
 cond r17.1 (Option.bind (α := (Unit) × ((List (Int × List (Int × Fm))) × Unit)) (cloneF 32 x0) fun r19 => (
 Option.bind (α := Int × List (Int × Fm)) (cond true (G_lcut (Fm.eta (x1.l.getD (1 : Int).toNat (Fm.mk 0 0 [] []))) (-1) (IntKind.wrap .i64 ((x1.l.getD (2 : Int).toNat (Fm.mk 0 0 [] [])).n + 1))) (some ((0 : Int), ([] : List (Int × Fm))))) fun r20 => (
 cond (decide ((r19.2.1.length + ([r20]).length) * 32 ≤ 140737488355328)) (cond ((ixOK 4 x1.l.length) || !true) (Option.bind (α := (Bool) × (Unit)) (L_showsO (Fm.eta (x1.l.getD (4 : Int).toNat (Fm.mk 0 0 [] []))) (IntKind.wrap .i64 (x2 + 1)) (r19.2.1 ++ ([r20]))) fun r22 => (
 some (Step.done (cond true r22.1 false)))) none) none))) (Option.bind (α := Int × List (Int × Fm)) (cond false (G_lcut (Fm.eta (x1.l.getD (1 : Int).toNat (Fm.mk 0 0 [] []))) (-1) (IntKind.wrap .i64 ((x1.l.getD (2 : Int).toNat (Fm.mk 0 0 [] [])).n + 1))) (some ((0 : Int), ([] : List (Int × Fm))))) fun r23 => (
 cond ((ixOK 4 x1.l.length) || !false) (some (Step.done (cond false false false))) none)))) none) none))))) none) none) (some (Step.next ((), ()))))))) fun qd24 => match qd24 with
 | .next d24 => (
 some false)
 | .done r => some r)
def A_shows : An := .seq (.leaf) (.join true { env := [], objs := [] } (.block (.seq (.leaf) (.cond (.seq (.leaf) (.seq (.leaf) (.join true { env := [(0, (.d (.slice (.pr (.int .i64) (.slice (.pr (.int .i64) .form)))))), (7, (.gs 0 (.int .i64)))], objs := [(false, .tg (.int .i64) 3)] } (.seq (.leaf) (.block (.loop { env := [(0, (.d (.slice (.pr (.int .i64) (.slice (.pr (.int .i64) .form)))))), (7, (.gs 0 (.int .i64))), (8, (.d (.int .i64))), (21, (.d (.slice .form))), (22, (.d (.int .i64))), (23, (.d (.int .i64)))], objs := [(false, .tg (.int .i64) 3)] } (.leaf)))) (.frz [0] (.leaf))))) (.seq (.leaf) (.cond (.seq (.leaf) (.seq (.leaf) (.frz [0, 1] (.leaf)))) (.leaf)))))) (.leaf))
def H_shows : Nat → RH := fun r => match r with
 | 2 => { H := { ty := [(18, (.int .i64))] } }
 | 14 => { H := { pl := [100, 102, 104, 106] } }
 | 17 => { H := { ac := [122, 136, 139, 153], pl := [123, 125, 131, 133, 140, 142, 148, 150], ty := [(129, (.pr (.int .i64) (.slice (.pr (.int .i64) .form)))), (146, (.pr (.int .i64) (.slice (.pr (.int .i64) .form))))] } }
 | _ => {}
noncomputable def S_shows : Sig := .n [(.d (.slice (.pr (.int .i64) (.slice (.pr (.int .i64) .form))))), (.d .form), (.d (.int .i64))] (.d .bool) (fun x => G_shows x.1 x.2.1 x.2.2.1)
theorem S_shows_ok : SigOK CX 57 S_shows := sigN_of (l := [(100, S_isp), (50, S_isFactors), (101, S_within), (102, S_cloneSum), (103, S_lcut), (57, S_showsO_l)]) ⟨S_isp_ok, S_isFactors_ok, S_within_ok, S_cloneSum_ok, S_lcut_ok, S_showsO_l_ok, trivial⟩ (hint := H_shows) (an := A_shows) (fun x => by kernel_rfl)
noncomputable def G_isTree (x0 : List (Int × List (Int × Fm))) (x1 : Fm) : Option (Bool × Int × Unit) := (
 Option.bind (α := Int) (G_asked x0) fun r1 => (
 cond (!decide (r1 = 0)) (some (false, r1, ())) (Option.bind (α := Bool) (G_rvalid (Fm.eta x1)) fun r2 => (
 cond (!r2) (some (false, 1, ())) (Option.bind (α := Bool) (G_shows x0 (Fm.eta x1) 0) fun r3 => (
 some (r3, 0, ())))))))
def A_isTree : An := .leaf
def H_isTree : Nat → RH := fun _ => {}
noncomputable def S_isTree : Sig := .n [(.d (.slice (.pr (.int .i64) (.slice (.pr (.int .i64) .form))))), (.d .form)] (.tup [(.d .bool), (.d (.int .i64))]) (fun x => G_isTree x.1 x.2.1)
theorem S_isTree_ok : SigOK CX 18 S_isTree := sigN_of (l := [(49, S_asked), (34, S_rvalid), (57, S_shows)]) ⟨S_asked_ok, S_rvalid_ok, S_shows_ok, trivial⟩ (hint := H_isTree) (an := A_isTree) (fun x => by kernel_rfl)
noncomputable def G_of1 (x0 : Int × Int × (List UInt8) × (List Fm) × Unit) (o0 : Int × (List (Int × Fm)) × Unit) : Option ((OutD Unit Unit) × ((Int × (List (Int × Fm)) × Unit) × Unit)) := (
 Option.bind (α := Out (Int × List (Int × Fm))) (L_lof (Fm.mk x0.1 x0.2.1 x0.2.2.1 x0.2.2.2.1)) fun or1 => match or1 with
 | .ret r1 => (
 some (OutD.ret (), ((r1.1, r1.2, ()), ())))
 | .pan => (some (OutD.pan (), ((o0.1, o0.2.1, ()), ()))))
def A_of1 : An := .leaf
def H_of1 : Nat → RH := fun _ => {}
noncomputable def Q_of1 : QSig := { pre := [(false, .cells 66 [(.d (.int .i64)), (.d (.slice (.pr (.int .i64) .form)))])], args := [(.rptr [(.d (.int .i64)), (.d (.int .i64)), (.d .str), (.d (.slice .form))]), (.ref 0 0)], post := [(true, .cells 66 [(.d (.int .i64)), (.d (.slice (.pr (.int .i64) .form)))])], res := (.tup []), pv := (.iface 142 (.d .un)), f := fun x => G_of1 x.1.1 x.2.1 }
noncomputable def S_of1 : Sig := .q Q_of1
theorem S_of1_ok : SigOK CX 88 S_of1 := sigQ_of (l := [(89, S_lof_l)]) ⟨S_lof_l_ok, trivial⟩ (hint := H_of1) (an := A_of1) (by kernel_rfl) (fun x => by kernel_rfl)
noncomputable def S_caught_of1 : Sig := .c ⟨88, Q_of1, [], .d .bool, 1, 0, 1, 0, fun _ => true, fun _ => false, fun _ o => panB o⟩
theorem S_caught_of1_ok : SigOK CX 66 S_caught_of1 := caught_ok (g := 88) S_of1_ok (by kernel_rfl)
noncomputable def G_lOf (x0 : Fm) : Option ((Int × List (Int × Fm)) × Int × Unit) := (
 Option.bind (α := Bool) (G_rvalid (Fm.eta x0)) fun r1 => (
 cond (!r1) (some ((0, ([] : List (Int × Fm))), 1, ())) (Option.bind (α := ((OutD Unit Unit) × ((Int × (List (Int × Fm)) × Unit) × Unit))) (G_of1 (x0.k, x0.n, x0.t, x0.l, ()) (0, ([] : List (Int × Fm)), ())) fun r2 => match r2.1 with
 | .ret qr2 => (
 some ((r2.2.1.1, r2.2.1.2.1), 0, ()))
 | .pan qr2 => (
 some ((0, ([] : List (Int × Fm))), 5, ())))))
def A_lOf : An := .leaf
def H_lOf : Nat → RH := fun r => match r with
 | 4 => { H := { ac := [10] } }
 | _ => {}
noncomputable def S_lOf : Sig := .n [(.d .form)] (.tup [(.d (.pr (.int .i64) (.slice (.pr (.int .i64) .form)))), (.d (.int .i64))]) (fun x => G_lOf x.1)
theorem S_lOf_ok : SigOK CX 47 S_lOf := sigN_of (l := [(34, S_rvalid), (66, S_caught_of1)]) ⟨S_rvalid_ok, S_caught_of1_ok, trivial⟩ (hint := H_lOf) (an := A_lOf) (fun x => by kernel_rfl)
noncomputable def G_sane34  : Option (Bool) := (
 Option.bind (α := Fm) (G_refNum 3) fun r1 => (
 Option.bind (α := (Int × List (Int × Fm)) × Int × Unit) (G_lOf (Fm.eta r1)) fun r2 => (
 some (cond (cond (decide (r2.2.1 = 0)) (decide (r2.1.1 = 3)) false) (decide ((r2.1.2.length : Int) = 0)) false))))
def A_sane34 : An := .leaf
def H_sane34 : Nat → RH := fun _ => {}
noncomputable def S_sane34 : Sig := .n [] (.d .bool) (fun x => G_sane34 )
theorem S_sane34_ok : SigOK CX 11 S_sane34 := sigN_of (l := [(48, S_refNum), (47, S_lOf)]) ⟨S_refNum_ok, S_lOf_ok, trivial⟩ (hint := H_sane34) (an := A_sane34) (fun x => by kernel_rfl)
noncomputable def G_law (x0 : List (Int × List (Int × Fm))) (x1 : List Int) (x2 : Fm) : Option (Bool) := (
 Option.bind (α := Bool) (G_light34 x0) fun r1 => (
 Option.bind (α := Int) (cond (!(!r1)) (L_refSize (Fm.eta x2)) (some (0 : Int))) fun r2 => (
 cond (cond (!r1) true (decide (r2 > 300))) (Option.bind (α := Bool) (G_sane34) fun r3 => (
 some r3)) (Option.bind (α := List (Int × List (Int × Fm))) (G_lawRows x0) fun r4 => (
 Option.bind (α := Bool × Int × Unit) (G_isFactorsE r4 x1) fun r5 => (
 Option.bind (α := Bool × Int × Unit) (G_refIsFactors x0 x1) fun r6 => (
 Option.bind (α := List (Int × List (Int × Fm))) (G_lawRows x0) fun r7 => (
 Option.bind (α := List Fm) (G_lNames r7) fun r8 => (
 Option.bind (α := List Fm) (G_refNames2 x0) fun r9 => (
 Option.bind (α := Bool) (G_refEqualAll r8 r9) fun r10 => (
 cond (!r10) (some false) (Option.bind (α := List (Int × List (Int × Fm))) (G_lawRows x0) fun r11 => (
 Option.bind (α := Bool × Int × Unit) (G_isTree r11 (Fm.eta x2)) fun r12 => (
 Option.bind (α := Bool × Int × Unit) (G_refIsTree x0 (Fm.eta x2)) fun r13 => (
 Option.bind (α := Bool) (cond (cond (cond (cond (r5.1 == r6.1) (decide (r5.2.1 = r6.2.1)) false) (r12.1 == r13.1) false) (decide (r12.2.1 = r13.2.1)) false) (G_sane34) (some false)) fun r14 => (
 some (cond (cond (cond (cond (r5.1 == r6.1) (decide (r5.2.1 = r6.2.1)) false) (r12.1 == r13.1) false) (decide (r12.2.1 = r13.2.1)) false) r14 false)))))))))))))))))
def A_law : An := .leaf
def H_law : Nat → RH := fun r => match r with
 | 7 => { H := { pl := [47] } }
 | _ => {}
noncomputable def S_law : Sig := .n [(.d (.slice (.pr (.int .i64) (.slice (.pr (.int .i64) .form))))), (.d (.slice (.int .i64))), (.d .form)] (.d .bool) (fun x => G_law x.1 x.2.1 x.2.2.1)
theorem S_law_ok : SigOK CX 3 S_law := sigN_of (l := [(9, S_light34), (10, S_refSize_l), (11, S_sane34), (13, S_lawRows), (12, S_isFactorsE), (14, S_refIsFactors), (16, S_lNames), (17, S_refNames2), (15, S_refEqualAll), (18, S_isTree), (19, S_refIsTree)]) ⟨S_light34_ok, S_refSize_l_ok, S_sane34_ok, S_lawRows_ok, S_isFactorsE_ok, S_refIsFactors_ok, S_lNames_ok, S_refNames2_ok, S_refEqualAll_ok, S_isTree_ok, S_refIsTree_ok, trivial⟩ (hint := H_law) (an := A_law) (fun x => by kernel_rfl)
end Go.Ab

set_option maxRecDepth 100000
namespace Go.Ab
open Go Go.RowKit Go.Proofs
theorem cmpL_end {l m : List Fm} {i : Nat} (h : i = min l.length m.length) : cmpL (l.drop i) (m.drop i) = if l.length < m.length then -1 else if m.length < l.length then 1 else 0 := by
 by_cases hlm : l.length ≤ m.length
 ·rw [Nat.min_eq_left hlm] at h
  subst h
  simp only [List.drop_length, cmpL]
  by_cases hd : m.drop l.length = []
  ·have := List.drop_eq_nil_iff.1 hd
   rw [if_pos hd, if_neg (by omega), if_neg (by omega)]
  ·have : ¬ m.length ≤ l.length := fun h => hd (List.drop_eq_nil_iff.2 h)
   rw [if_neg hd, if_pos (by omega)]
 ·have h1 : m.length < l.length := by omega
  rw [Nat.min_eq_right (by omega)] at h
  subst h
  simp only [List.drop_length]
  rw [List.drop_eq_getElem_cons h1, if_neg (by omega), if_pos h1]
  simp [cmpL]
theorem sgn_cmpI (a b : Int) : G_sign (decide (a < b)) (decide (a > b)) = some (cmpI a b) := by
 rw [sign_val]; unfold cmpI; simp only [decide_eq_true_eq, gt_iff_lt]
theorem sgn_cmpS (a b : List UInt8) : G_sign (Op.bytesLess a b) (!(Op.bytesLess a b || decide (a = b))) = some (cmpS a b) := by
 rw [sign_val]; unfold cmpS
 by_cases h : Op.bytesLess a b = true
 ·simp [h]
 ·by_cases h' : a = b
  ·subst h'; simp [bytesLess_irrefl]
  ·simp [h, h']
theorem refCompare_step (k : Nat) (hF : ∀ f g : Fm, f.big ≤ 4611686018427387000 → Up (k < f.big) (G_refCompare k f g) (cmpF f g)) (f g : Fm) (hb : f.big ≤ 4611686018427387000) : Up (k + 1 < f.big) (G_refCompare (k + 1) f g) (cmpF f g) := by
 obtain ⟨a, n, t, l⟩ := f
 obtain ⟨a', n', t', l'⟩ := g
 have hk := big_kids (.mk a n t l)
 have hl := length_le_big l
 simp only [Fm.l] at hk
 rw [cmpF_mk]
 unfold G_refCompare
 simp only [sgn_cmpI, sgn_cmpS]
 simp only [Fm.k, Fm.n, Fm.t, Fm.l, sgn_cmpI, sgn_cmpS, Option.bind_some]
 by_cases h : a = a'
 ·subst h
  simp only [decide_true, Bool.not_true, cond_false, if_true]
  by_cases h0 : a = 0
  ·subst h0; simp only [decide_true, cond_true, if_true]; exact .of rfl
  ·simp only [h0, decide_false, cond_false, if_false]
   by_cases h1 : a = 1
   ·subst h1; simp only [decide_true, cond_true, Option.bind_some, true_or, if_true]; exact .of rfl
   ·simp only [h1, decide_false, cond_false, Option.bind_some, false_or]
    by_cases h2 : a = 2
    ·subst h2; simp only [decide_true, cond_true, if_true]; exact .of rfl
    ·simp only [h2, decide_false, cond_false, if_false]
     by_cases h3 : a = 3
     ·subst h3
      simp only [decide_true, cond_true, if_true]
      refine Up.bind (v := Step.done (cmpL l l')) ?_ (.of rfl)
      refine loop_ix (fun i => (((3, n, t, l, ()), (3, n', t', l', ()), (i : Int), ()), ())) (fun i => (Step.done (cmpL (l.drop i) (l'.drop i)) : Step ((Unit) × (Unit)) (Int))) (min l.length l'.length) (fun i hi => ?_) ?_
      ·have h1 : i < l.length := by omega
       have h2 : i < l'.length := by omega
       have e1 : decide ((i : Int) < (l.length : Int)) = true := by simp [h1]
       have e3 : decide ((i : Int) < (l'.length : Int)) = true := by simp [h2]
       have e2 : ixOK (i : Int) l.length = true := ixOK_iff.2 (by omega)
       have e4 : ixOK (i : Int) l'.length = true := ixOK_iff.2 (by omega)
       simp only [e1, e2, e3, e4, cond_true, cond_false, Int.toNat_natCast, getD_in h1, getD_in h2, Fm.eta_eq, wrapN (show i < 4611686018427387904 by omega), cmpL_drop h1 h2]
       have hm := big_mem (List.getElem_mem h1)
       rcases hF l[i] l'[i] (by omega) with h | ⟨h, hn⟩
       ·rw [h]
        by_cases hc : cmpF l[i] l'[i] = 0
        ·refine .inl ⟨by simp [hc], by simp [hc]⟩
        ·refine .inr (.inl ⟨.done (.done (cmpF l[i] l'[i])), by simp [hc], .of (by simp [hc])⟩)
       ·rw [h]
        exact .inr (.inr ⟨rfl, by omega⟩)
      ·have hx : ¬ (min l.length l'.length < l.length ∧ min l.length l'.length < l'.length) := by omega
       refine ⟨.next (((3, n, t, l, ()), (3, n', t', l', ()), ()), ()), ?_, .of ?_⟩
       ·have : (cond (decide (((min l.length l'.length : Nat) : Int) < (l.length : Int))) (decide (((min l.length l'.length : Nat) : Int) < (l'.length : Int))) false) = false := by
         by_cases q : ((min l.length l'.length : Nat) : Int) < (l.length : Int)
         ·have : ¬ ((min l.length l'.length : Nat) : Int) < (l'.length : Int) := by omega
          simp only [q, this, decide_true, decide_false, cond_true]
         ·simp only [q, decide_false, cond_false]
        simp only [this, cond_false]
       ·rw [cmpL_end rfl]
        simp only [sgn_cmpI, Option.bind_some]
        unfold cmpI
        simp only [Int.ofNat_lt]
     ·simp only [h3, decide_false, cond_false, if_false]; exact .of rfl
 ·simp only [h, decide_false, Bool.not_false, cond_true, if_false]; exact .of rfl
theorem refCompare_up : ∀ k, ∀ f g : Fm, f.big ≤ 4611686018427387000 → Up (k < f.big) (G_refCompare k f g) (cmpF f g)
 | 0 => fun f g hb => .inr ⟨by unfold G_refCompare; rfl, by have := big_pos f; omega⟩
 | k + 1 => refCompare_step k (refCompare_up k)
theorem refCompare_val {f g : Fm} (hb : f.big ≤ 4611686018427387000) : L_refCompare f g = some (cmpF f g) := limF_up (b := f.big) fun k => refCompare_up k f g hb
end Go.Ab
