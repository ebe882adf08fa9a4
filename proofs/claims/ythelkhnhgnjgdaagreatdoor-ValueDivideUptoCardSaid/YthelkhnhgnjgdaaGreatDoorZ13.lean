/-
  ValueDivide: the card. For every argument of bulk at most 1048576, as the card says.
-/
import Derived.Test.YthelkhnhgnjgdaaGreatDoorZ12
import Derived.Deep.DeepWitnessRowRef
/-
  VALUES: operations on numbers.
-/
set_option linter.unusedVariables false
set_option maxRecDepth 100000
namespace Go.Ab
open Go Go.RowKit Go.Proofs
noncomputable def G_vfail (x0 : Int) : Option (OutD Unit (Int × Unit)) := (
 some (OutD.pan (x0, ())))
def A_vfail : An := .leaf
def H_vfail : Nat → RH := fun _ => {}
noncomputable def S_vfail : Sig := .d [(.d (.int .i64))] (.tup []) (.iface 40 (.d (.pr (.int .i64) .un))) (fun x => G_vfail x.1)
theorem S_vfail_ok : SigOK CX 40 S_vfail := sigD_of (l := []) trivial (hint := H_vfail) (an := A_vfail) (fun x => by kernel_rfl)
noncomputable def G_vwant (x0 : Bool) : Option (OutD Unit (Int × Unit)) := (
 cond (!x0) (Option.bind (α := OutD Unit (Int × Unit)) (G_vfail 1) fun or1 => match or1 with
 | .ret r1 => (
 some (OutD.ret ()))
 | .pan r1 => (some (OutD.pan (r1.1, ())))) (some (OutD.ret ())))
def A_vwant : An := .leaf
def H_vwant : Nat → RH := fun _ => {}
noncomputable def S_vwant : Sig := .d [(.d .bool)] (.tup []) (.iface 40 (.d (.pr (.int .i64) .un))) (fun x => G_vwant x.1)
theorem S_vwant_ok : SigOK CX 22 S_vwant := sigD_of (l := [(40, S_vfail)]) ⟨S_vfail_ok, trivial⟩ (hint := H_vwant) (an := A_vwant) (fun x => by kernel_rfl)
noncomputable def G_vnum (x0 : Int) : Option (OutD Fm (Int × Unit)) := (
 Option.bind (α := Step ((Int × Unit × Unit) × ((Int × Int × (List UInt8) × Unit × Unit) × Unit)) (OutD Fm (Int × Unit)))
 (cond (cond (decide (x0 < (-1152921504606846976))) true (decide (x0 > 1152921504606846976))) (Option.bind (α := OutD Unit (Int × Unit)) (G_vfail 5) fun or1 => match or1 with
 | .ret r1 => (
 some (Step.next ((x0, (), ()), ((0, 0, [], (), ()), ()))))
 | .pan r1 => (some (Step.done (OutD.pan (r1.1, ()))))) (some (Step.next ((x0, (), ()), ((0, 0, [], (), ()), ()))))) fun qd2 => match qd2 with
 | .next d2 => (
 let v0_3 := d2.1.1
 Option.bind (α := Fm) (G_mnum v0_3) fun r4 => (
 some (OutD.ret (Fm.eta r4))))
 | .done r => some r)
def A_vnum : An := .seq (.leaf) (.join true { env := [(0, (.d (.int .i64))), (2, (.ref 0 0))], objs := [(false, .cells 25 [(.d (.int .i64)), (.d (.int .i64)), (.d .str), (.c (.base (.slice none 0 0)))])] } (.leaf) (.leaf))
def H_vnum : Nat → RH := fun _ => {}
noncomputable def S_vnum : Sig := .d [(.d (.int .i64))] (.d .form) (.iface 40 (.d (.pr (.int .i64) .un))) (fun x => G_vnum x.1)
theorem S_vnum_ok : SigOK CX 21 S_vnum := sigD_of (l := [(40, S_vfail), (41, S_mnum)]) ⟨S_vfail_ok, S_mnum_ok, trivial⟩ (hint := H_vnum) (an := A_vnum) (fun x => by kernel_rfl)
noncomputable def G_vints (x0 : List Fm) (x1 : Int) : Option (OutD (List Int) (Int × Unit)) := (
 Option.bind (α := OutD Unit (Int × Unit)) (G_vwant (decide ((x0.length : Int) = x1))) fun or1 => match or1 with
 | .ret r1 => (
 Option.bind (α := Step ((Unit × Unit) × ((List Int) × Unit)) (OutD (List Int) (Int × Unit)))
 (loopM (L := (Unit × (List Fm) × Int × Int × Unit) × ((List Int) × Unit)) (R := Step ((Unit × Unit) × ((List Int) × Unit)) (OutD (List Int) (Int × Unit))) (fun d2 => (
 let l3 := d2.2.1
 let v13_4 := d2.1.2.1
 let v14_5 := d2.1.2.2.1
 let v15_6 := d2.1.2.2.2.1
 cond (decide (v15_6 < v14_5)) (cond (ixOK v15_6 v13_4.length) (Option.bind (α := OutD Unit (Int × Unit)) (G_vwant (decide ((v13_4.getD v15_6.toNat (Fm.mk 0 0 [] [])).k = 0))) fun or7 => match or7 with
 | .ret r7 => (
 cond (decide ((l3.length + ([(v13_4.getD v15_6.toNat (Fm.mk 0 0 [] [])).n]).length) * 8 ≤ 140737488355328)) (some (Step.next (((), v13_4, v14_5, IntKind.wrap .i64 (v15_6 + 1), ()), (l3 ++ ([(v13_4.getD v15_6.toNat (Fm.mk 0 0 [] [])).n]), ())))) none)
 | .pan r7 => (some (Step.done (Step.done (OutD.pan (r7.1, ())))))) none) (some (Step.done (Step.next (((), ()), (l3, ()))))))) (((), x0, (x0.length : Int), 0, ()), (([] : List Int), ()))) fun qd8 => match qd8 with
 | .next d8 => (
 let l9 := d8.2.1
 some (OutD.ret l9))
 | .done r => some r)
 | .pan r1 => (some (OutD.pan (r1.1, ()))))
def A_vints : An := .seq (.leaf) (.seq (.leaf) (.seq (.leaf) (.join true { env := [(5, (.gs 0 (.int .i64)))], objs := [(false, .tg (.int .i64) 3)] } (.seq (.leaf) (.block (.loop { env := [(5, (.gs 0 (.int .i64))), (13, (.d (.slice .form))), (14, (.d (.int .i64))), (15, (.d (.int .i64)))], objs := [(false, .tg (.int .i64) 3)] } (.leaf)))) (.leaf))))
def H_vints : Nat → RH := fun r => match r with
  | 7 => { H := { ty := [(27, (.int .i64))] } }
  | _ => {}
noncomputable def S_vints : Sig := .d [(.d (.slice .form)), (.d (.int .i64))] (.d (.slice (.int .i64))) (.iface 40 (.d (.pr (.int .i64) .un))) (fun x => G_vints x.1 x.2.1)
theorem S_vints_ok : SigOK CX 19 S_vints := sigD_of (l := [(22, S_vwant)]) ⟨S_vwant_ok, trivial⟩ (hint := H_vints) (an := A_vints) (fun x => by kernel_rfl)
noncomputable def G_vabs (x0 : Int) : Option (Int) := (
 some (if IntKind.wrap .i64 (0 - x0) > x0 then IntKind.wrap .i64 (0 - x0) else x0))
def A_vabs : An := .leaf
def H_vabs : Nat → RH := fun _ => {}
noncomputable def S_vabs : Sig := .n [(.d (.int .i64))] (.d (.int .i64)) (fun x => G_vabs x.1)
theorem S_vabs_ok : SigOK CX 64 S_vabs := sigN_of (l := []) trivial (hint := H_vabs) (an := A_vabs) (fun x => by kernel_rfl)
noncomputable def G_vdivide (x0 : Int) (x1 : Int) : Option (OutD (Int × Int × Unit) (Int × Unit)) := (
 Option.bind (α := Step ((Int × Int × Unit) × (Unit)) (OutD (Int × Int × Unit) (Int × Unit)))
 (cond (decide (x1 = 0)) (Option.bind (α := OutD Unit (Int × Unit)) (G_vfail 13) fun or1 => match or1 with
 | .ret r1 => (
 some (Step.next ((x0, x1, ()), ())))
 | .pan r1 => (some (Step.done (OutD.pan (r1.1, ()))))) (some (Step.next ((x0, x1, ()), ())))) fun qd2 => match qd2 with
 | .next d2 => (
 let v0_3 := d2.1.1
 let v1_4 := d2.1.2.1
 cond (!decide (v1_4 = 0)) (Option.bind (α := (Int × Int × Int × Unit) × (Unit))
 (cond (decide (Int.tmod v0_3 v1_4 < 0)) (Option.bind (α := Int) (G_vabs v1_4) fun r5 => (
 some ((v0_3, v1_4, IntKind.wrap .i64 (Int.tmod v0_3 v1_4 + r5), ()), ()))) (some ((v0_3, v1_4, Int.tmod v0_3 v1_4, ()), ()))) fun d6 => (
 let v0_7 := d6.1.1
 let v1_8 := d6.1.2.1
 let v6_9 := d6.1.2.2.1
 cond (!decide (v1_8 = 0)) (some (OutD.ret (IntKind.wrap .i64 (Int.tdiv (IntKind.wrap .i64 (v0_7 - v6_9)) v1_8), v6_9, ()))) none)) none)
 | .done r => some r)
def A_vdivide : An := .seq (.leaf) (.join true { env := [(0, (.d (.int .i64))), (1, (.d (.int .i64)))], objs := [] } (.leaf) (.seq (.leaf) (.join false { env := [(0, (.d (.int .i64))), (1, (.d (.int .i64))), (6, (.d (.int .i64)))], objs := [] } (.leaf) (.leaf))))
def H_vdivide : Nat → RH := fun _ => {}
noncomputable def S_vdivide : Sig := .d [(.d (.int .i64)), (.d (.int .i64))] (.tup [(.d (.int .i64)), (.d (.int .i64))]) (.iface 40 (.d (.pr (.int .i64) .un))) (fun x => G_vdivide x.1 x.2.1)
theorem S_vdivide_ok : SigOK CX 39 S_vdivide := sigD_of (l := [(40, S_vfail), (64, S_vabs)]) ⟨S_vfail_ok, S_vabs_ok, trivial⟩ (hint := H_vdivide) (an := A_vdivide) (fun x => by kernel_rfl)
noncomputable def G_vnumbers (x0 : List UInt8) (x1 : Int) (x2 : Int) : Option (OutD Fm (Int × Unit)) := (
 cond (decide (x0 = [43])) (Option.bind (α := OutD Fm (Int × Unit)) (G_vnum (IntKind.wrap .i64 (x1 + x2))) fun or1 => match or1 with
 | .ret r1 => (
 some (OutD.ret (Fm.eta r1)))
 | .pan r1 => (some (OutD.pan (r1.1, ())))) (cond (decide (x0 = [45])) (Option.bind (α := OutD Fm (Int × Unit)) (G_vnum (IntKind.wrap .i64 (x1 - x2))) fun or2 => match or2 with
 | .ret r2 => (
 some (OutD.ret (Fm.eta r2)))
 | .pan r2 => (some (OutD.pan (r2.1, ())))) (cond (decide (x0 = [42])) (none) (cond (decide (x0 = [100, 105, 118])) (Option.bind (α := OutD (Int × Int × Unit) (Int × Unit)) (G_vdivide x1 x2) fun or3 => match or3 with
 | .ret r3 => (
 Option.bind (α := OutD Fm (Int × Unit)) (G_vnum r3.1) fun or4 => match or4 with
 | .ret r4 => (
 some (OutD.ret (Fm.eta r4)))
 | .pan r4 => (some (OutD.pan (r4.1, ()))))
 | .pan r3 => (some (OutD.pan (r3.1, ())))) (cond (decide (x0 = [109, 111, 100])) (Option.bind (α := OutD (Int × Int × Unit) (Int × Unit)) (G_vdivide x1 x2) fun or5 => match or5 with
 | .ret r5 => (
 Option.bind (α := OutD Fm (Int × Unit)) (G_vnum r5.2.1) fun or6 => match or6 with
 | .ret r6 => (
 some (OutD.ret (Fm.eta r6)))
 | .pan r6 => (some (OutD.pan (r6.1, ()))))
 | .pan r5 => (some (OutD.pan (r5.1, ())))) (cond (decide (x0 = [60])) (Option.bind (α := Fm) (G_mtruth (decide (x1 < x2))) fun r7 => (
 some (OutD.ret (Fm.eta r7)))) (Option.bind (α := Fm) (G_mtruth (decide (x1 ≤ x2))) fun r8 => (
 some (OutD.ret (Fm.eta r8))))))))))
def A_vnumbers : An := .leaf
def H_vnumbers : Nat → RH := fun _ => {}
noncomputable def S_vnumbers : Sig := .d [(.d .str), (.d (.int .i64)), (.d (.int .i64))] (.d .form) (.iface 40 (.d (.pr (.int .i64) .un))) (fun x => G_vnumbers x.1 x.2.1 x.2.2.1)
theorem S_vnumbers_ok : SigOK CX 20 S_vnumbers := sigD_of (l := [(21, S_vnum), (39, S_vdivide), (23, S_mtruth)]) ⟨S_vnum_ok, S_vdivide_ok, S_mtruth_ok, trivial⟩ (hint := H_vnumbers) (an := A_vnumbers) (fun x => by kernel_rfl)
noncomputable def G_vop (x0 : List UInt8) (x1 : List Fm) : Option (OutD Fm (Int × Unit)) := (
 Option.bind (α := Step (((List UInt8) × (List Fm) × Unit × Unit) × ((Int × Int × (List UInt8) × Unit × Unit) × Unit)) (OutD Fm (Int × Unit)))
 (Option.bind (α := ((List UInt8) × (List Fm) × Unit × (List UInt8) × Bool × Unit) × ((Int × Int × (List UInt8) × Unit × Unit) × Unit))
 (cond (decide (x0 = [43])) (some ((x0, x1, (), x0, decide (x0 = [43]), ()), ((0, 0, [], (), ()), ()))) (cond (decide (x0 = [45])) (some ((x0, x1, (), x0, decide (x0 = [45]), ()), ((0, 0, [], (), ()), ()))) (cond (decide (x0 = [42])) (some ((x0, x1, (), x0, decide (x0 = [42]), ()), ((0, 0, [], (), ()), ()))) (cond (decide (x0 = [100, 105, 118])) (some ((x0, x1, (), x0, decide (x0 = [100, 105, 118]), ()), ((0, 0, [], (), ()), ()))) (cond (decide (x0 = [109, 111, 100])) (some ((x0, x1, (), x0, decide (x0 = [109, 111, 100]), ()), ((0, 0, [], (), ()), ()))) (cond (decide (x0 = [60])) (some ((x0, x1, (), x0, decide (x0 = [60]), ()), ((0, 0, [], (), ()), ()))) (some ((x0, x1, (), x0, decide (x0 = [60, 61]), ()), ((0, 0, [], (), ()), ()))))))))) fun d1 => (
 let v0_2 := d1.1.1
 let v1_3 := d1.1.2.1
 let v12_4 := d1.1.2.2.2.1
 let v13_5 := d1.1.2.2.2.2.1
 cond v13_5 (Option.bind (α := OutD (List Int) (Int × Unit)) (G_vints v1_3 2) fun or6 => match or6 with
 | .ret r6 => (
 cond (ixOK 0 r6.length) (cond (ixOK 1 r6.length) (Option.bind (α := OutD Fm (Int × Unit)) (G_vnumbers v0_2 (r6.getD (0 : Int).toNat (0 : Int)) (r6.getD (1 : Int).toNat (0 : Int))) fun or7 => match or7 with
 | .ret r7 => (
 some (Step.done (OutD.ret (Fm.eta r7))))
 | .pan r7 => (some (Step.done (OutD.pan (r7.1, ()))))) none) none)
 | .pan r6 => (some (Step.done (OutD.pan (r6.1, ()))))) (cond (decide (v12_4 = [110, 101, 103])) (Option.bind (α := OutD (List Int) (Int × Unit)) (G_vints v1_3 1) fun or8 => match or8 with
 | .ret r8 => (
 cond (ixOK 0 r8.length) (Option.bind (α := OutD Fm (Int × Unit)) (G_vnum (IntKind.wrap .i64 (0 - (r8.getD (0 : Int).toNat (0 : Int))))) fun or9 => match or9 with
 | .ret r9 => (
 some (Step.done (OutD.ret (Fm.eta r9))))
 | .pan r9 => (some (Step.done (OutD.pan (r9.1, ()))))) none)
 | .pan r8 => (some (Step.done (OutD.pan (r8.1, ()))))) (cond (decide (v12_4 = [61])) (Option.bind (α := OutD Unit (Int × Unit)) (G_vwant (decide ((v1_3.length : Int) = 2))) fun or10 => match or10 with
 | .ret r10 => (
 cond (ixOK 0 v1_3.length) (cond (ixOK 1 v1_3.length) (none) none) none)
 | .pan r10 => (some (Step.done (OutD.pan (r10.1, ()))))) (cond (decide (v12_4 = [110, 111, 116])) (Option.bind (α := OutD Unit (Int × Unit)) (G_vwant (decide ((v1_3.length : Int) = 1))) fun or11 => match or11 with
 | .ret r11 => (
 cond (ixOK 0 v1_3.length) (none) none)
 | .pan r11 => (some (Step.done (OutD.pan (r11.1, ()))))) (Option.bind (α := ((List UInt8) × (List Fm) × Unit × (List UInt8) × Bool × Unit) × ((Int × Int × (List UInt8) × Unit × Unit) × Unit))
 (cond (decide (v12_4 = [97, 110, 100])) (some ((v0_2, v1_3, (), v12_4, decide (v12_4 = [97, 110, 100]), ()), ((d1.2.1.1, d1.2.1.2.1, d1.2.1.2.2.1, (), ()), ()))) (some ((v0_2, v1_3, (), v12_4, decide (v12_4 = [111, 114]), ()), ((d1.2.1.1, d1.2.1.2.1, d1.2.1.2.2.1, (), ()), ())))) fun d12 => (
 let v0_13 := d12.1.1
 let v1_14 := d12.1.2.1
 let v12_15 := d12.1.2.2.2.1
 let v65_16 := d12.1.2.2.2.2.1
 cond v65_16 (Option.bind (α := (Unit × Bool × Unit) × ((Int × Int × (List UInt8) × Unit × Unit) × Unit))
 (loopM (L := ((List UInt8) × Unit × Bool × (List Fm) × Int × Int × Unit) × ((Int × Int × (List UInt8) × Unit × Unit) × Unit)) (R := (Unit × Bool × Unit) × ((Int × Int × (List UInt8) × Unit × Unit) × Unit)) (fun d17 => (
 let v0_18 := d17.1.1
 let v6_19 := d17.1.2.2.1
 let v70_20 := d17.1.2.2.2.1
 let v71_21 := d17.1.2.2.2.2.1
 let v72_22 := d17.1.2.2.2.2.2.1
 cond (decide (v72_22 < v71_21)) (cond (ixOK v72_22 v70_20.length) (none) none) (some (Step.done (((), v6_19, ()), ((d17.2.1.1, d17.2.1.2.1, d17.2.1.2.2.1, (), ()), ())))))) ((v0_13, (), decide (v0_13 = [97, 110, 100]), v1_14, (v1_14.length : Int), 0, ()), ((d12.2.1.1, d12.2.1.2.1, d12.2.1.2.2.1, (), ()), ()))) fun d23 => (
 let v6_24 := d23.1.2.1
 Option.bind (α := Fm) (G_mtruth v6_24) fun r25 => (
 some (Step.done (OutD.ret (Fm.eta r25)))))) (Option.bind (α := ((List UInt8) × (List Fm) × Unit × (List UInt8) × Bool × Unit) × ((Int × Int × (List UInt8) × Unit × Unit) × Unit))
 (cond (decide (v12_15 = [61, 62])) (some ((v0_13, v1_14, (), v12_15, decide (v12_15 = [61, 62]), ()), ((d12.2.1.1, d12.2.1.2.1, d12.2.1.2.2.1, (), ()), ()))) (some ((v0_13, v1_14, (), v12_15, decide (v12_15 = [105, 102, 102]), ()), ((d12.2.1.1, d12.2.1.2.1, d12.2.1.2.2.1, (), ()), ())))) fun d26 => (
 let v0_27 := d26.1.1
 let v1_28 := d26.1.2.1
 let v12_29 := d26.1.2.2.2.1
 let v86_30 := d26.1.2.2.2.2.1
 cond v86_30 (Option.bind (α := OutD Unit (Int × Unit)) (G_vwant (decide ((v1_28.length : Int) = 2))) fun or31 => match or31 with
 | .ret r31 => (
 cond (ixOK 0 v1_28.length) (none) none)
 | .pan r31 => (some (Step.done (OutD.pan (r31.1, ()))))) (Option.bind (α := ((List UInt8) × (List Fm) × Unit × Bool × Unit) × ((Int × Int × (List UInt8) × Unit × Unit) × Unit))
 (cond (decide (v12_29 = [98, 97, 110, 100])) (some ((v0_27, v1_28, (), decide (v12_29 = [98, 97, 110, 100]), ()), ((d26.2.1.1, d26.2.1.2.1, d26.2.1.2.2.1, (), ()), ()))) (cond (decide (v12_29 = [98, 111, 114])) (some ((v0_27, v1_28, (), decide (v12_29 = [98, 111, 114]), ()), ((d26.2.1.1, d26.2.1.2.1, d26.2.1.2.2.1, (), ()), ()))) (cond (decide (v12_29 = [98, 120, 111, 114])) (some ((v0_27, v1_28, (), decide (v12_29 = [98, 120, 111, 114]), ()), ((d26.2.1.1, d26.2.1.2.1, d26.2.1.2.2.1, (), ()), ()))) (cond (decide (v12_29 = [98, 97, 100, 100])) (some ((v0_27, v1_28, (), decide (v12_29 = [98, 97, 100, 100]), ()), ((d26.2.1.1, d26.2.1.2.1, d26.2.1.2.2.1, (), ()), ()))) (some ((v0_27, v1_28, (), decide (v12_29 = [98, 110, 117, 109]), ()), ((d26.2.1.1, d26.2.1.2.1, d26.2.1.2.2.1, (), ()), ()))))))) fun d32 => (
 let v0_33 := d32.1.1
 let v1_34 := d32.1.2.1
 let v120_35 := d32.1.2.2.2.1
 cond v120_35 (none) (some (Step.next ((v0_33, v1_34, (), ()), ((d32.2.1.1, d32.2.1.2.1, d32.2.1.2.2.1, (), ()), ()))))))))))))))) fun qd36 => match qd36 with
 | .next d36 => (
 let v0_37 := d36.1.1
 let v1_38 := d36.1.2.1
 none)
 | .done r => some r)
def A_vop : An := .seq (.leaf) (.join true { env := [(0, (.d .str)), (1, (.d (.slice .form))), (4, (.ref 0 0))], objs := [(false, .cells 25 [(.d (.int .i64)), (.d (.int .i64)), (.d .str), (.c (.base (.slice none 0 0)))])] } (.seq (.leaf) (.block (.join false { env := [(0, (.d .str)), (1, (.d (.slice .form))), (4, (.ref 0 0)), (12, (.d .str)), (13, (.d .bool))], objs := [(false, .cells 25 [(.d (.int .i64)), (.d (.int .i64)), (.d .str), (.c (.base (.slice none 0 0)))])] } (.leaf) (.cond (.leaf) (.seq (.leaf) (.cond (.leaf) (.seq (.leaf) (.cond (.leaf) (.seq (.leaf) (.cond (.leaf) (.join false { env := [(0, (.d .str)), (1, (.d (.slice .form))), (4, (.ref 0 0)), (12, (.d .str)), (65, (.d .bool))], objs := [(false, .cells 25 [(.d (.int .i64)), (.d (.int .i64)), (.d .str), (.c (.base (.slice none 0 0)))])] } (.leaf) (.cond (.seq (.leaf) (.join false { env := [(4, (.ref 0 0)), (6, (.d .bool))], objs := [(false, .cells 25 [(.d (.int .i64)), (.d (.int .i64)), (.d .str), (.c (.base (.slice none 0 0)))])] } (.seq (.leaf) (.block (.loop { env := [(0, (.d .str)), (4, (.ref 0 0)), (6, (.d .bool)), (70, (.d (.slice .form))), (71, (.d (.int .i64))), (72, (.d (.int .i64)))], objs := [(false, .cells 25 [(.d (.int .i64)), (.d (.int .i64)), (.d .str), (.c (.base (.slice none 0 0)))])] } (.leaf)))) (.leaf))) (.join false { env := [(0, (.d .str)), (1, (.d (.slice .form))), (4, (.ref 0 0)), (12, (.d .str)), (86, (.d .bool))], objs := [(false, .cells 25 [(.d (.int .i64)), (.d (.int .i64)), (.d .str), (.c (.base (.slice none 0 0)))])] } (.leaf) (.cond (.leaf) (.join false { env := [(0, (.d .str)), (1, (.d (.slice .form))), (4, (.ref 0 0)), (120, (.d .bool))], objs := [(false, .cells 25 [(.d (.int .i64)), (.d (.int .i64)), (.d .str), (.c (.base (.slice none 0 0)))])] } (.leaf) (.leaf)))))))))))))))) (.leaf))
def H_vop : Nat → RH := fun r => match r with
  | 10 => { H := { pl := [26, 29] }, tl := [7] }
  | 15 => { H := { pl := [47, 50] } }
  | 33 => { H := { pl := [95] } }
  | _ => {}
noncomputable def S_vop : Sig := .d [(.d .str), (.d (.slice .form))] (.d .form) (.iface 40 (.d (.pr (.int .i64) .un))) (fun x => G_vop x.1 x.2.1)
theorem S_vop_ok : SigOK CX 13 S_vop := sigD_of (l := [(19, S_vints), (20, S_vnumbers), (21, S_vnum), (22, S_vwant), (23, S_mtruth)]) ⟨S_vints_ok, S_vnumbers_ok, S_vnum_ok, S_vwant_ok, S_mtruth_ok, trivial⟩ (hint := H_vop) (an := A_vop) (fun x => by kernel_rfl)
noncomputable def G_vop1 (x0 : Fm) : Option (Bool) := (
 Option.bind (α := Bool) (G_vIs (Fm.eta x0)) fun r1 => (
 some (!r1)))
def A_vop1 : An := .leaf
def H_vop1 : Nat → RH := fun _ => {}
noncomputable def S_vop1 : Sig := .n [(.d .form)] (.d .bool) (fun x => G_vop1 x.1)
theorem S_vop1_ok : SigOK CX 9 S_vop1 := sigN_of (l := [(10, S_vIs)]) ⟨S_vIs_ok, trivial⟩ (hint := H_vop1) (an := A_vop1) (fun x => by kernel_rfl)
noncomputable def G_idxNot (x0 : List Fm) (x1 : Unit) : Option (Int) := (
 Option.bind (α := Step ((Unit) × (Unit)) (Int))
 (loopM (L := ((List Fm) × Unit × Int × Int × Unit) × (Unit)) (R := Step ((Unit) × (Unit)) (Int)) (fun d1 => (
 let v0_2 := d1.1.1
 let v7_3 := d1.1.2.2.1
 let v8_4 := d1.1.2.2.2.1
 cond (decide (v8_4 < v7_3)) (cond (ixOK v8_4 v0_2.length) (Option.bind (α := Bool) (G_vop1 (Fm.eta (v0_2.getD v8_4.toNat (Fm.mk 0 0 [] [])))) fun r5 => (
 cond r5 (some (Step.done (Step.done v8_4))) (some (Step.next ((v0_2, (), v7_3, IntKind.wrap .i64 (v8_4 + 1), ()), ()))))) none) (some (Step.done (Step.next ((), ())))))) ((x0, (), (x0.length : Int), 0, ()), ())) fun qd6 => match qd6 with
 | .next d6 => (
 some (-1))
 | .done r => some r)
def A_idxNot : An := .seq (.leaf) (.join true { env := [], objs := [] } (.seq (.leaf) (.block (.loop { env := [(0, (.d (.slice .form))), (1, (.c (.fn (.func 9) [] []))), (7, (.d (.int .i64))), (8, (.d (.int .i64)))], objs := [] } (.leaf)))) (.leaf))
def H_idxNot : Nat → RH := fun _ => {}
noncomputable def S_idxNot : Sig := .n [(.d (.slice .form)), (.c (.fn (.func 9) [] []))] (.d (.int .i64)) (fun x => G_idxNot x.1 x.2.1)
theorem S_idxNot_ok : SigOK CX 14 S_idxNot := sigN_of (l := [(9, S_vop1)]) ⟨S_vop1_ok, trivial⟩ (hint := H_idxNot) (an := A_idxNot) (fun x => by kernel_rfl)
noncomputable def G_cntNot (x0 : List Fm) (x1 : Unit) : Option (Bool) := (
 Option.bind (α := Int) (G_idxNot x0 ()) fun r1 => (
 some (decide (r1 ≥ 0))))
def A_cntNot : An := .leaf
def H_cntNot : Nat → RH := fun _ => {}
noncomputable def S_cntNot : Sig := .n [(.d (.slice .form)), (.c (.fn (.func 9) [] []))] (.d .bool) (fun x => G_cntNot x.1 x.2.1)
theorem S_cntNot_ok : SigOK CX 8 S_cntNot := sigN_of (l := [(14, S_idxNot)]) ⟨S_idxNot_ok, trivial⟩ (hint := H_cntNot) (an := A_cntNot) (fun x => by kernel_rfl)
noncomputable def G_vop2 (x0 : (List UInt8) × Unit) (x1 : (List Fm) × Unit) : Option ((OutD Fm (Int × Unit)) × (Unit)) := (
 Option.bind (α := OutD Fm (Int × Unit)) (G_vop x0.1 x1.1) fun or1 => match or1 with
 | .ret r1 => (
 some (OutD.ret (Fm.eta r1), ()))
 | .pan r1 => (some (OutD.pan (r1.1, ()), ())))
def A_vop2 : An := .leaf
def H_vop2 : Nat → RH := fun _ => {}
noncomputable def Q_vop2 : QSig := { pre := [], args := [(.rptr [(.d .str)]), (.rptr [(.d (.slice .form))])], post := [], res := (.d .form), pv := (.iface 40 (.d (.pr (.int .i64) .un))), f := fun x => G_vop2 x.1.1 x.1.2.1 }
noncomputable def S_vop2 : Sig := .q Q_vop2
theorem S_vop2_ok : SigOK CX 12 S_vop2 := sigQ_of (l := [(13, S_vop)]) ⟨S_vop_ok, trivial⟩ (hint := H_vop2) (an := A_vop2) (by kernel_rfl) (fun x => by kernel_rfl)
noncomputable def S_caught_vop2 : Sig := .c ⟨12, Q_vop2, [], (.tup [(.d .form), (.d (.int .i64))]), 2, 0, 1, 0, fun _ => true, fun _ => noV, fun _ o => vcB o⟩
theorem S_caught_vop2_ok : SigOK CX 11 S_caught_vop2 := vcaught_ok (g := 12) S_vop2_ok (by kernel_rfl)
noncomputable def G_vOp (x0 : List UInt8) (x1 : List Fm) : Option (Fm × Int × Unit) := (
 Option.bind (α := Bool) (G_cntNot x1 ()) fun r1 => (
 cond r1 (some ((Fm.mk 0 0 ([]) ([] : List Fm)), 1, ())) (Option.bind (α := ((OutD Fm (Int × Unit)) × (Unit))) (G_vop2 (x0, ()) (x1, ())) fun r2 => match r2.1 with
 | .ret qr2 => (
 Option.bind (vcF qr2) fun ar2 => (some ((Fm.eta ar2.1), ar2.2.1, ())))
 | .pan qr2 => (
 Option.bind (vpF qr2) fun ar2 => (some ((Fm.eta ar2.1), ar2.2.1, ()))))))
def A_vOp : An := .leaf
def H_vOp : Nat → RH := fun r => match r with
  | 3 => { H := { ac := [10] } }
  | _ => {}
noncomputable def S_vOp : Sig := .n [(.d .str), (.d (.slice .form))] (.tup [(.d .form), (.d (.int .i64))]) (fun x => G_vOp x.1 x.2.1)
theorem S_vOp_ok : SigOK CX 7 S_vOp := sigN_of (l := [(8, S_cntNot), (11, S_caught_vop2)]) ⟨S_cntNot_ok, S_caught_vop2_ok, trivial⟩ (hint := H_vOp) (an := A_vOp) (fun x => by kernel_rfl)
noncomputable def G_lawop (x0 : List UInt8) (x1 : List Fm) : Option (Fm × Bool × Unit) := (
 Option.bind (α := Fm × Int × Unit) (G_vOp x0 x1) fun r1 => (
 some ((Fm.eta r1.1), decide (r1.2.1 = 0), ())))
def A_lawop : An := .leaf
def H_lawop : Nat → RH := fun _ => {}
noncomputable def S_lawop : Sig := .n [(.d .str), (.d (.slice .form))] (.tup [(.d .form), (.d .bool)]) (fun x => G_lawop x.1 x.2.1)
theorem S_lawop_ok : SigOK CX 5 S_lawop := sigN_of (l := [(7, S_vOp)]) ⟨S_vOp_ok, trivial⟩ (hint := H_lawop) (an := A_lawop) (fun x => by kernel_rfl)
noncomputable def G_sane12  : Option (Bool) := (
 Option.bind (α := Fm) (G_refNum 1) fun r1 => (
 Option.bind (α := Fm) (G_refNum 2) fun r2 => (
 Option.bind (α := Fm × Int × Unit) (G_vOp ([43]) ([(Fm.eta r1), (Fm.eta r2)])) fun r3 => (
 some (cond (decide (r3.2.1 = 0)) (decide (r3.1.n = 3)) false)))))
def A_sane12 : An := .leaf
def H_sane12 : Nat → RH := fun _ => {}
noncomputable def S_sane12 : Sig := .n [] (.d .bool) (fun x => G_sane12 )
theorem S_sane12_ok : SigOK CX 4 S_sane12 := sigN_of (l := [(6, S_refNum), (7, S_vOp)]) ⟨S_refNum_ok, S_vOp_ok, trivial⟩ (hint := H_sane12) (an := A_sane12) (fun x => by kernel_rfl)
noncomputable def G_law (x0 : Int) (x1 : Int) : Option (Bool) := (
 cond (cond (cond (cond (cond (decide (x0 < (-1152921504606846976))) true (decide (x0 > 1152921504606846976))) true (decide (x1 < (-1152921504606846976)))) true (decide (x1 > 1152921504606846976))) true (decide (x1 = 0))) (Option.bind (α := Bool) (G_sane12) fun r1 => (
 some r1)) (Option.bind (α := Fm) (G_refNum x0) fun r2 => (
 Option.bind (α := Fm) (G_refNum x1) fun r3 => (
 Option.bind (α := Fm × Bool × Unit) (G_lawop ([100, 105, 118]) ([(Fm.eta r2), (Fm.eta r3)])) fun r4 => (
 Option.bind (α := Fm) (G_refNum x0) fun r5 => (
 Option.bind (α := Fm) (G_refNum x1) fun r6 => (
 Option.bind (α := Fm × Bool × Unit) (G_lawop ([109, 111, 100]) ([(Fm.eta r5), (Fm.eta r6)])) fun r7 => (
 cond (cond (cond (!r7.2.1) true (decide (r7.1.n < 0))) true (cond (decide (r7.1.n ≥ x1)) (decide (r7.1.n ≥ IntKind.wrap .i64 (0 - x1))) false)) (some false) (Option.bind (α := Bool) (cond (cond (!r4.2.1) true (decide (IntKind.wrap .i64 (IntKind.wrap .i64 (r4.1.n * x1) + r7.1.n) = x0))) (G_sane12) (some false)) fun r8 => (
 some (cond (cond (!r4.2.1) true (decide (IntKind.wrap .i64 (IntKind.wrap .i64 (r4.1.n * x1) + r7.1.n) = x0))) r8 false)))))))))))
def A_law : An := .leaf
def H_law : Nat → RH := fun _ => {}
noncomputable def S_law : Sig := .n [(.d (.int .i64)), (.d (.int .i64))] (.d .bool) (fun x => G_law x.1 x.2.1)
theorem S_law_ok : SigOK CX 3 S_law := sigN_of (l := [(4, S_sane12), (6, S_refNum), (5, S_lawop)]) ⟨S_sane12_ok, S_refNum_ok, S_lawop_ok, trivial⟩ (hint := H_law) (an := A_law) (fun x => by kernel_rfl)
end Go.Ab

/-
  NUMBERS DIVIDED: the plain law.
-/
set_option linter.unusedVariables false
set_option linter.unusedSimpArgs false
set_option maxRecDepth 100000
namespace Go.Ab
open Go Go.RowKit Go.Proofs
theorem div_spec {a b : Int} (hb : b ≠ 0) (r : Int) (hr : r = if a.tmod b < 0 then a.tmod b + max b (-b) else a.tmod b) : 0 ≤ r ∧ r < max b (-b) ∧ ∃ q, a - r = b * q ∧ (a - r).tdiv b = q := by
  have h1 : b * a.tdiv b + a.tmod b = a := Int.mul_tdiv_add_tmod a b
  have h2 : a.tmod b < max b (-b) ∧ - max b (-b) < a.tmod b := by
    have h3 := Int.natAbs_tmod a b
    have h4 : a.natAbs % b.natAbs < b.natAbs := Nat.mod_lt _ (by omega)
    omega
  by_cases hn : a.tmod b < 0
  · rw [if_pos hn] at hr
    refine ⟨by omega, by omega, ?_⟩
    by_cases hp : 0 < b
    · have e : a - r = b * (a.tdiv b - 1) := by rw [Int.mul_sub, Int.mul_one]; omega
      exact ⟨_, e, by rw [e, Int.mul_tdiv_cancel_left _ hb]⟩
    · have e : a - r = b * (a.tdiv b + 1) := by rw [Int.mul_add, Int.mul_one]; omega
      exact ⟨_, e, by rw [e, Int.mul_tdiv_cancel_left _ hb]⟩
  · rw [if_neg hn] at hr
    refine ⟨by omega, by omega, a.tdiv b, by omega, ?_⟩
    have e : a - r = b * a.tdiv b := by omega
    rw [e, Int.mul_tdiv_cancel_left _ hb]
theorem quo_bound {a b r q M : Int} (hM : 0 ≤ M) (h1 : -M ≤ a) (h2 : a ≤ M) (hr : 0 ≤ r) (hr2 : r < max b (-b)) (h : a - r = b * q) : -M ≤ q ∧ q ≤ M := by
  constructor
  · apply Int.not_lt.1
    intro hq
    by_cases hp : 0 < b
    · have : b * (q + 1) ≤ b * (-M) := Int.mul_le_mul_of_nonneg_left (by omega) (by omega)
      rw [Int.mul_add, Int.mul_one] at this
      have h3 : 1 * M ≤ b * M := Int.mul_le_mul_of_nonneg_right (by omega) hM
      rw [Int.mul_neg] at this
      omega
    · have : (-b) * q ≤ (-b) * (-M - 1) := Int.mul_le_mul_of_nonneg_left (by omega) (by omega)
      rw [Int.neg_mul] at this
      have h3 : 1 * (-M - 1) ≥ (-b) * (-M - 1) := by
        have : 1 * (M + 1) ≤ (-b) * (M + 1) := Int.mul_le_mul_of_nonneg_right (by omega) (by omega)
        have e : (-b) * (-M - 1) = - ((-b) * (M + 1)) := by rw [← Int.mul_neg]; congr 1; omega
        omega
      omega
  · apply Int.not_lt.1
    intro hq
    by_cases hp : 0 < b
    · have : b * (M + 1) ≤ b * q := Int.mul_le_mul_of_nonneg_left (by omega) (by omega)
      have h3 : 1 * (M + 1) ≤ b * (M + 1) := Int.mul_le_mul_of_nonneg_right (by omega) (by omega)
      omega
    · have : (-b) * M ≤ (-b) * (q - 1) := Int.mul_le_mul_of_nonneg_left (by omega) (by omega)
      rw [Int.mul_sub, Int.mul_one, Int.neg_mul b q] at this
      have h3 : 1 * M ≤ (-b) * M := Int.mul_le_mul_of_nonneg_right (by omega) hM
      omega
theorem bind_eq {A B : Type} {o : Option A} {F : A → Option B} {v : A} {u : B} (h : o = some v) (k : F v = some u) : Option.bind o F = some u := by rw [h]; exact k
theorem cond_of {α : Type} {b : Bool} {x y v : α} (h : b = true) (hx : x = v) : cond b x y = v := by subst h; exact hx
theorem cond_not {α : Type} {b : Bool} {x y v : α} (h : b = false) (hy : y = v) : cond b x y = v := by subst h; exact hy
/-- A form that is a number. -/
def nF (n : Int) : Fm := Fm.mk 0 n [] []
def inM (n : Int) : Prop := -1152921504606846976 ≤ n ∧ n ≤ 1152921504606846976
theorem size_step (n : Int) (k : Nat) : G_size (k + 1) (nF n) = some 1 := by
  show Option.bind (Option.bind (G_kids (Fm.eta (nF n))) _) _ = _
  refine bind_eq (v := ((1, ()), ())) (bind_eq (v := []) (by rw [Fm.eta_eq]; rfl) (loopM_done rfl)) rfl
theorem size_num (n : Int) : L_size (nF n) = some 1 := limF_eq ⟨1, size_step n 0⟩ fun k r h => by
  cases k with
  | zero => cases h
  | succ k => rw [size_step] at h; cases h; rfl
theorem leaf_num {n : Int} (h : inM n) : G_leaf (nF n) = some true := by
  unfold G_leaf
  have h1 : decide (n ≥ -1152921504606846976) = true := decide_eq_true h.1
  have h2 : decide (n ≤ 1152921504606846976) = true := decide_eq_true h.2
  refine bind_eq (v := .done true) (cond_of rfl ?_) rfl
  show some (Step.done (cond (cond (cond (decide (([] : List UInt8) = [])) (decide ((([] : List Fm).length : Int) = 0)) false) (decide (n ≥ -1152921504606846976)) false) (decide (n ≤ 1152921504606846976)) false)) = _
  rw [h1, h2]; rfl
theorem valid_step {n : Int} (h : inM n) (k : Nat) : G_valid (k + 1) (nF n) 100 (20000, ()) = some (true, ((19999, ()), ())) := by
  have e : IntKind.wrap .i64 (20000 - 1) = 19999 := by rw [w64 (by decide) (by decide)]; rfl
  unfold G_valid
  simp only [e]
  refine bind_eq (v := true) (cond_of (by decide) (by rw [Fm.eta_eq]; exact leaf_num h)) ?_
  refine cond_not (by decide) ?_
  exact bind_eq (v := .next ((), ((19999, ()), ()))) (loopM_done rfl) rfl
theorem valid_num {n : Int} (h : inM n) : G_rvalid (nF n) = some true := by
  unfold G_rvalid
  refine bind_eq (v := (true, ((19999, ()), ()))) ?_ rfl
  rw [Fm.eta_eq]
  exact limF_eq ⟨1, valid_step h 0⟩ fun k r hr => by
    cases k with
    | zero => cases hr
    | succ k => rw [valid_step h] at hr; cases hr; rfl
theorem okV_num {n : Int} (h : inM n) : okV (nF n) := ⟨⟨1, size_num n, by decide⟩, valid_num h⟩
theorem is_num {n : Int} (h : inM n) : G_vop1 (nF n) = some false := by
  unfold G_vop1 G_vIs
  refine bind_eq (v := true) ?_ rfl
  rw [Fm.eta_eq]
  refine bind_eq (v := true) (by rw [Fm.eta_eq]; exact valid_num h) (bind_eq (v := true) (cond_of rfl (by rw [Fm.eta_eq]; rfl)) rfl)
theorem cnt_two {a b : Int} (ha : inM a) (hb : inM b) : G_cntNot [nF a, nF b] () = some false := by
  unfold G_cntNot
  refine bind_eq (v := -1) ?_ rfl
  unfold G_idxNot
  refine bind_eq (v := .next ((), ())) ?_ rfl
  have w1 : IntKind.wrap .i64 (0 + 1) = 1 := by rw [w64 (by decide) (by decide)]; rfl
  have w2 : IntKind.wrap .i64 (1 + 1) = 2 := by rw [w64 (by decide) (by decide)]; rfl
  rw [loopM_next (l' := (([nF a, nF b], (), 2, 1, ()), ())) (by
    refine cond_of rfl (cond_of rfl (bind_eq (v := false) (by rw [Fm.eta_eq]; exact is_num ha) (cond_not rfl ?_)))
    simp only [w1]; rfl)]
  rw [loopM_next (l' := (([nF a, nF b], (), 2, 2, ()), ())) (by
    refine cond_of rfl (cond_of rfl (bind_eq (v := false) (by rw [Fm.eta_eq]; exact is_num hb) (cond_not rfl ?_)))
    simp only [w2])]
  exact loopM_done rfl
theorem ints_two (a b : Int) : G_vints [nF a, nF b] 2 = some (.ret [a, b]) := by
  unfold G_vints
  refine bind_eq (v := .ret ()) rfl ?_
  refine bind_eq (v := .next (((), ()), ([a, b], ()))) ?_ rfl
  have w1 : IntKind.wrap .i64 (0 + 1) = 1 := by rw [w64 (by decide) (by decide)]; rfl
  have w2 : IntKind.wrap .i64 (1 + 1) = 2 := by rw [w64 (by decide) (by decide)]; rfl
  rw [loopM_next (l' := (((), [nF a, nF b], 2, 1, ()), ([a], ()))) (by
    refine cond_of rfl (cond_of rfl (bind_eq (v := .ret ()) rfl ?_))
    show cond (decide ((([] : List Int).length + ([a] : List Int).length) * 8 ≤ 140737488355328)) (some (Step.next (((), [nF a, nF b], 2, IntKind.wrap .i64 (0 + 1), ()), (([] ++ [a] : List Int), ())))) none = _
    rw [w1]; rfl)]
  rw [loopM_next (l' := (((), [nF a, nF b], 2, 2, ()), ([a, b], ()))) (by
    refine cond_of rfl (cond_of rfl (bind_eq (v := .ret ()) rfl ?_))
    show cond (decide ((([a] : List Int).length + ([b] : List Int).length) * 8 ≤ 140737488355328)) (some (Step.next (((), [nF a, nF b], 2, IntKind.wrap .i64 (1 + 1), ()), (([a] ++ [b] : List Int), ())))) none = _
    rw [w2]; rfl)]
  exact loopM_done rfl
theorem num_val {n : Int} (h : inM n) : G_vnum n = some (.ret (nF n)) := by
  unfold G_vnum
  have h1 : decide (n < -1152921504606846976) = false := by apply decide_eq_false; have := h.1; omega
  have h2 : decide (n > 1152921504606846976) = false := by apply decide_eq_false; have := h.2; omega
  refine bind_eq (v := .next ((n, (), ()), ((0, 0, [], (), ()), ()))) (cond_not (by rw [h1, h2]; rfl) rfl) rfl
/-- What is left. -/
def remS (a b : Int) : Int := if a.tmod b < 0 then a.tmod b + max b (-b) else a.tmod b
def quoS (a b : Int) : Int := (a - remS a b).tdiv b
theorem div_facts {a b : Int} (ha : inM a) (hb : inM b) (h0 : b ≠ 0) : inM (quoS a b) ∧ inM (remS a b) ∧ 0 ≤ remS a b ∧ remS a b < max b (-b) ∧ quoS a b * b + remS a b = a := by
  obtain ⟨h1, h2, q, h3, h4⟩ := div_spec h0 (remS a b) rfl
  have hq : quoS a b = q := h4
  have hbd := quo_bound (M := 1152921504606846976) (by decide) ha.1 ha.2 h1 h2 h3
  have := hb.1; have := hb.2
  refine ⟨by rw [hq]; exact hbd, ⟨by omega, by omega⟩, h1, h2, ?_⟩
  rw [hq, Int.mul_comm]; omega
theorem divide_val {a b : Int} (ha : inM a) (hb : inM b) (h0 : b ≠ 0) : G_vdivide a b = some (.ret (quoS a b, remS a b, ())) := by
  obtain ⟨hq, hr, f1, f2, f3⟩ := div_facts ha hb h0
  have := ha.1; have := ha.2; have := hb.1; have := hb.2; have := hr.1; have := hr.2; have := hq.1; have := hq.2
  have hz : decide (b = 0) = false := decide_eq_false h0
  have hz' : (!decide (b = 0)) = true := by rw [hz]; rfl
  unfold G_vdivide
  refine bind_eq (v := .next ((a, b, ()), ())) (cond_not hz rfl) ?_
  refine cond_of hz' (bind_eq (v := ((a, b, remS a b, ()), ())) ?_ (cond_of hz' ?_))
  · have hmod := Int.natAbs_tmod a b
    have hlt : a.natAbs % b.natAbs < b.natAbs := Nat.mod_lt _ (by omega)
    unfold remS
    by_cases hn : a.tmod b < 0
    · refine cond_of (decide_eq_true hn) (bind_eq (v := max b (-b)) ?_ ?_)
      · unfold G_vabs
        show some (if IntKind.wrap .i64 (0 - b) > b then IntKind.wrap .i64 (0 - b) else b) = some (max b (-b))
        rw [w64 (n := 0 - b) (by omega) (by omega)]
        congr 1
        split <;> omega
      · rw [if_pos hn, w64 (n := a.tmod b + max b (-b)) (by omega) (by omega)]
    · exact cond_not (decide_eq_false hn) (by rw [if_neg hn])
  · show some (OutD.ret (IntKind.wrap .i64 (Int.tdiv (IntKind.wrap .i64 (a - remS a b)) b), remS a b, ())) = _
    rw [w64 (n := a - remS a b) (by omega) (by omega), w64 (n := (a - remS a b).tdiv b) (by show -9223372036854775808 ≤ quoS a b; omega) (by show quoS a b ≤ 9223372036854775807; omega)]
    rfl
theorem op_of {h : List UInt8} {a b c : Int} (hc : inM c) (h1 : h = [43] ∨ h = [100, 105, 118] ∨ h = [109, 111, 100]) (hn : G_vnumbers h a b = some (.ret (nF c))) (ha : inM a) (hb : inM b) : G_vOp h [nF a, nF b] = some (nF c, 0, ()) := by
  have hop : G_vop h [nF a, nF b] = some (.ret (nF c)) := by
    unfold G_vop
    refine bind_eq (v := .done (.ret (nF c))) (bind_eq (v := ((h, [nF a, nF b], (), h, true, ()), ((0, 0, [], (), ()), ()))) ?_ (cond_of rfl ?_)) rfl
    · rcases h1 with rfl | rfl | rfl <;> rfl
    · refine bind_eq (v := .ret [a, b]) (ints_two a b) ?_
      dsimp only
      refine cond_of rfl (cond_of rfl ?_)
      show Option.bind (G_vnumbers h a b) _ = _
      exact bind_eq (v := .ret (nF c)) hn rfl
  unfold G_vOp
  refine bind_eq (v := false) (cnt_two ha hb) (cond_not rfl ?_)
  refine bind_eq (v := (.ret (nF c), ())) ?_ ?_
  · unfold G_vop2
    exact bind_eq (v := .ret (nF c)) hop rfl
  · refine bind_eq (v := (nF c, 0, ())) ?_ rfl
    unfold vcF
    rw [if_pos (okV_num hc)]
theorem sane12_val : G_sane12 = some true := by
  unfold G_sane12
  refine bind_eq (v := nF 1) rfl (bind_eq (v := nF 2) rfl (bind_eq (v := (nF 3, 0, ())) ?_ rfl))
  refine op_of (h := [43]) (a := 1) (b := 2) (c := 3) ⟨by decide, by decide⟩ (.inl rfl) ?_ ⟨by decide, by decide⟩ ⟨by decide, by decide⟩
  unfold G_vnumbers
  refine cond_of rfl (bind_eq (v := .ret (nF 3)) ?_ rfl)
  rw [w64 (by decide) (by decide)]
  exact num_val ⟨by decide, by decide⟩
theorem divide_law (a b : Int) (hi : -9223372036854775808 ≤ b) (hi2 : b ≤ 9223372036854775807) : G_law a b = some true := by
  unfold G_law
  by_cases hg : (inM a ∧ inM b) ∧ b ≠ 0
  · obtain ⟨⟨ha, hb⟩, h0⟩ := hg
    obtain ⟨hq, hr, f1, f2, f3⟩ := div_facts ha hb h0
    have a1 := ha.1; have a2 := ha.2; have b1 := hb.1; have b2 := hb.2
    have g1 : decide (a < -1152921504606846976) = false := decide_eq_false (by omega)
    have g2 : decide (a > 1152921504606846976) = false := decide_eq_false (by omega)
    have g3 : decide (b < -1152921504606846976) = false := decide_eq_false (by omega)
    have g4 : decide (b > 1152921504606846976) = false := decide_eq_false (by omega)
    have g5 : decide (b = 0) = false := decide_eq_false h0
    have o1 : G_lawop [100, 105, 118] [nF a, nF b] = some (nF (quoS a b), true, ()) := by
      unfold G_lawop
      refine bind_eq (v := (nF (quoS a b), 0, ())) (op_of hq (.inr (.inl rfl)) ?_ ha hb) rfl
      unfold G_vnumbers
      refine cond_not rfl (cond_not rfl (cond_not rfl (cond_of rfl (bind_eq (v := .ret (quoS a b, remS a b, ())) (divide_val ha hb h0) ?_))))
      exact bind_eq (v := .ret (nF (quoS a b))) (num_val hq) rfl
    have o2 : G_lawop [109, 111, 100] [nF a, nF b] = some (nF (remS a b), true, ()) := by
      unfold G_lawop
      refine bind_eq (v := (nF (remS a b), 0, ())) (op_of hr (.inr (.inr rfl)) ?_ ha hb) rfl
      unfold G_vnumbers
      refine cond_not rfl (cond_not rfl (cond_not rfl (cond_not rfl (cond_of rfl (bind_eq (v := .ret (quoS a b, remS a b, ())) (divide_val ha hb h0) ?_)))))
      exact bind_eq (v := .ret (nF (remS a b))) (num_val hr) rfl
    refine cond_not (by rw [g1, g2, g3, g4, g5]; rfl) ?_
    refine bind_eq (v := nF a) rfl (bind_eq (v := nF b) rfl (bind_eq o1 (bind_eq (v := nF a) rfl (bind_eq (v := nF b) rfl (bind_eq o2 ?_)))))
    have r1 := hr.1; have r2 := hr.2
    have k1 : decide (remS a b < 0) = false := decide_eq_false (by omega)
    have k2 : cond (decide (remS a b ≥ b)) (decide (remS a b ≥ IntKind.wrap .i64 (0 - b))) false = false := by
      rw [w64 (show -9223372036854775808 ≤ 0 - b by omega) (by omega)]
      by_cases hh : remS a b ≥ b
      · rw [decide_eq_true hh]
        exact decide_eq_false (by omega)
      · rw [decide_eq_false hh]; rfl
    have k3 : decide (IntKind.wrap .i64 (IntKind.wrap .i64 (quoS a b * b) + remS a b) = a) = true := by
      apply decide_eq_true
      rw [w64 (n := quoS a b * b) (by omega) (by omega), f3, w64 (by omega) (by omega)]
    refine cond_not ?_ ?_
    · show cond (cond (!true) true (decide (remS a b < 0))) true (cond (decide (remS a b ≥ b)) (decide (remS a b ≥ IntKind.wrap .i64 (0 - b))) false) = false
      rw [k1, k2]; rfl
    · refine bind_eq (v := true) ?_ ?_
      · exact cond_of k3 sane12_val
      · show some (cond (decide (IntKind.wrap .i64 (IntKind.wrap .i64 (quoS a b * b) + remS a b) = a)) true false) = _
        rw [k3]; rfl
  · refine cond_of ?_ (bind_eq sane12_val rfl)
    by_cases c1 : a < -1152921504606846976
    · rw [decide_eq_true c1]; rfl
    · by_cases c2 : a > 1152921504606846976
      · rw [decide_eq_false c1, decide_eq_true c2]; rfl
      · by_cases c3 : b < -1152921504606846976
        · rw [decide_eq_false c1, decide_eq_false c2, decide_eq_true c3]; rfl
        · by_cases c4 : b > 1152921504606846976
          · rw [decide_eq_false c1, decide_eq_false c2, decide_eq_false c3, decide_eq_true c4]; rfl
          · have c5 : b = 0 := Classical.byContradiction fun h => hg ⟨⟨⟨by omega, by omega⟩, ⟨by omega, by omega⟩⟩, h⟩
            rw [decide_eq_false c1, decide_eq_false c2, decide_eq_false c3, decide_eq_false c4, decide_eq_true c5]; rfl
theorem divide_call {a b : Int} (hi : -9223372036854775808 ≤ b) (hi2 : b ≤ 9223372036854775807) : PCall CX 3 [.int .i64 a, .int .i64 b] (· = .ret (.bool true)) :=
  S_law_ok (a, b, ()) true (divide_law a b hi hi2)
end Go.Ab

set_option linter.unusedVariables false
set_option linter.unusedSimpArgs false
set_option maxRecDepth 100000
namespace Go.Proofs.YthelkhnhgnjgdaaGreatDoor.valueDivide
open Go Go.ChangeShapes Go.WideShapes Go.ChangeAt Go.RowKit Go.Ab

theorem own : ownKnob Tryz.prog.godebug = none := by kernel_rfl
def flat {H : Type} : Nat → DataW H → List Value
  | 0, _ => []
  | n + 1, d => match d with
    | .lit (.int k x) => [.int k x]
    | .agg l => l.flatMap (flat n)
    | _ => []
noncomputable def lay (W : World) (name : String) (d : DataW Unit) : World :=
  match Tryz.prog.globalNamed name with
  | some g => match d with
    | .ptr (.agg [.slice rs [], .nil, .lit (.int .i64 x)]) => { W with heap := ((W.heap.push (.cells (rs.flatMap (flat 4)).toArray 145 (0, 0))).push (.cells #[.slice (some ⟨W.heap.size, 0, none⟩) rs.length rs.length, .slice none 0 0, .int .i64 x] 142 (0, 0))).modify g fun
      | .cells _ t fz => .cells #[.pointer (some ⟨W.heap.size + 1, 0, none⟩)] t fz
      | o => o }
    | d => { W with heap := W.heap.modify g fun
      | .cells _ t fz => .cells (flat 4 d).toArray t fz
      | o => o }
  | none => W
noncomputable def laidWorld (os : Os) : World :=
  lay (lay (lay (lay (World.holding Tryz.prog os ⟨#[], #[], []⟩) "unicode/utf8.acceptRanges" Rows.laid_unicode_utf8_acceptRanges) "unicode.White_Space" Rows.laid_unicode_White_Space) "strings.asciiSpace" Rows.laid_strings_asciiSpace) "unicode/utf8.first" Rows.laid_unicode_utf8_first
theorem laid_met (os : Os) : laidMet Tryz.prog Rows.valueDivideUptoRow.laid ((laidWorld os).forCall (fun _ _ => 0) ⟨#[], #[(.int .i64 0), (.int .i64 0)], []⟩).memory :=
  laidMet_of_run' 8 (by kernel_rfl) (by kernel_rfl)
theorem reads (os : Os) {H : Type} (enc : TypeId × Value → H) : ∃ places, DataW.whole enc Tryz.prog ((laidWorld os).forCall (fun _ _ => 0) ⟨#[], #[(.int .i64 0), (.int .i64 0)], []⟩).memory Tryz.f3.params.toList Rows.valueDivideSpec.vars false (#[(.int .i64 0), (.int .i64 0)] : Array Value).toList 8 = some ([(.lit (.int .i64 0)), (.lit (.int .i64 0))], [], places) :=
  ⟨[], by kernel_rfl⟩
theorem spec_fn (H : Type) (ds : List (DataW H)) (h : ds.length = Tryz.f3.params.toList.length) : Rows.valueDivideSpec.fn H ds = { results := [.lit (.bool true)], args := ds } := by
  rw [Tryz.params3] at h
  rcases ds with _ | ⟨d0, _ | ⟨d1, _ | ⟨e, ds⟩⟩⟩
  all_goals first | (simp at h; done) | rfl
theorem contract (H : Type) (enc : TypeId × Value → H) (W : World) (base : Nat) (args : Array Value) (ds gs : List (DataW H)) (before : List MemPlace)
    (hval : ∀ (j : Nat) t v, Tryz.f3.params[j]? = some t → args[j]? = some v → Value.okWide Tryz.prog W .any base t v)
    (hW : DataW.Whole enc Tryz.prog Tryz.f3.params.toList Rows.valueDivideSpec.vars false W args.toList ds gs before) (hb : Rows.uptoSmall H (ds ++ gs) = true) :
    Calls Tryz.prog 3 args W fun e W' => ∃ v, e = .returned v ∧ Rows.valueDivideSpec.post enc Tryz.prog Tryz.f3 false true false false W args v W' :=
  contract_of (es := [(.int .i64), (.int .i64)]) (n := 12) (tb := 4) rfl spec_fn (by kernel_rfl) (by kernel_rfl) (by kernel_rfl) (by kernel_rfl) (by kernel_rfl) (by kernel_rfl) (fun x hb hw => by
      obtain ⟨(a : Int), (b : Int), u⟩ := x
      have w2 : (-9223372036854775808 ≤ a ∧ a ≤ 9223372036854775807) ∧ (-9223372036854775808 ≤ b ∧ b ≤ 9223372036854775807) ∧ True := hw
      exact divide_call w2.2.1.1 w2.2.1.2) H enc W base args ds gs before hval hW hb

theorem lifted (os : Os) (started : os.Started) (H : Type) (enc : TypeId × Value → H) (F : Stop.Interp) :
    ReturnsInHanded {} Tryz.checked os 3 .any ((Rows.OpenSpec.upto Rows.valueDivideSpec).preRow enc Tryz.prog Tryz.f3 Rows.valueDivideUptoRow.domain false Rows.valueDivideUptoRow.laid) (((Rows.OpenSpec.upto Rows.valueDivideSpec).at F).post enc Tryz.prog Tryz.f3 false true false false) := by
  obtain ⟨places, hx⟩ := reads os enc
  refine returnsInHanded_of_row (C := Tryz.checked) (s := Rows.OpenSpec.upto Rows.valueDivideSpec) own started (by kernel_rfl) Tryz.func3
    (witness_row_atRef (enc := enc) (C := Tryz.checked) false (laidWorld os) #[(.int .i64 0), (.int .i64 0)] rfl (by kernel_rfl) (by kernel_rfl) (by kernel_rfl)
      (OpenSpec.preRow_of_cond 8 hx (by kernel_rfl) (fun k hk => by cases hk; kernel_rfl) (by kernel_rfl) (laid_met os))) ?_
  intro W base args ds gs before hval hW g1 g2 g3 hL g4 g5
  exact contract H enc W base args ds gs before hval hW (g2 _ rfl)

theorem band {a b : Bool} (h : a = true) (h' : b = true) : (a && b) = true := by rw [h, h']; rfl
theorem fact1 : (Rows.valueDivideUptoRow.inPlace == Tryz.pinned.checked.prog.inPlace 3) = true := by kernel_rfl
theorem fact2 : (Rows.valueDivideUptoRow.unfollowed == Tryz.pinned.checked.prog.unfollowed 3) = true := by kernel_rfl
theorem fact3 : (Rows.valueDivideUptoRow.recurses == Tryz.pinned.checked.prog.recurses 3) = true := by kernel_rfl
theorem fact4 : (Rows.valueDivideUptoRow.named == Tryz.pinned.checked.prog.varsNamed 3) = true := by kernel_rfl
theorem fact5 : Tryz.pinned.checked.prog.mayEnter = true := by kernel_rfl
theorem fact6 : Tryz.pinned.checked.prog.stopsHeard = true := by kernel_rfl
theorem closed : joinedFacts Tryz.pinned.checked.prog 3 Tryz.f3 (Rows.OpenSpec.upto Rows.valueDivideSpec).bare Rows.valueDivideUptoRow = true := by
  unfold joinedFacts
  repeat' with_reducible refine band ?_ ?_
  all_goals first | with_reducible exact fact1 | with_reducible exact fact2 | with_reducible exact fact3 | with_reducible exact fact4 | with_reducible exact fact5 | with_reducible exact fact6 | kernel_rfl
theorem said : Rows.ValueDivideUptoSaid :=
  OpenClaim.holds_of_cond 3 Tryz.f3 rfl rfl rfl rfl rfl rfl rfl ⟨rfl, rfl, rfl, rfl, rfl⟩ rfl rfl rfl rfl rfl (by as_aux_lemma => kernel_rfl) Tryz.func3 closed
    (of_decide_eq_true (by kernel_rfl)) (by unfold Func.isWrapper; first | (rw [if_pos (by decide +kernel)]; kernel_rfl) | (rw [if_neg (by decide +kernel)]; exact ⟨rfl, rfl⟩))
    (fun os started H enc _ F => by rw [OpenClaim.pre_eq_preRow]; exact lifted os started H enc F)
theorem plain (f : FuncId) (fn : Func) (hf : Tryz.pinned.checked.prog.funcNamed "plinth/plinthlaw12.ValueDivide" = some f) (hfn : Tryz.pinned.checked.prog.funcs[f]? = some fn) :
    true = Tryz.pinned.checked.prog.looks [] ∧ ∀ (j : Nat) t, fn.params[j]? = some t → Tryz.pinned.checked.prog.wantsStandIn t = false := by
  obtain rfl : f = 3 := Option.some.inj ((show Tryz.prog.funcNamed "plinth/plinthlaw12.ValueDivide" = some 3 by kernel_rfl).symm.trans hf) |>.symm
  obtain rfl : fn = Tryz.f3 := (Option.some.inj (Tryz.func3.symm.trans hfn)).symm
  refine ⟨by kernel_rfl, fun j t ht => ?_⟩
  rw [Tryz.params3] at ht
  have hm := Array.mem_of_getElem? ht
  simp only [List.mem_toArray, List.mem_cons, List.mem_nil_iff, or_false] at hm
  have w0 : Tryz.prog.wantsStandIn 3 = false := by kernel_rfl
  rcases hm with h | h <;> rw [h] <;> first | exact w0
theorem proved : Rows.ValueDivideUptoCardSaid :=
  Claim7.holds_tied_plain_at .later _ _ _ _ _ said (fun _ h => by cases h) (by kernel_rfl) (fun _ h => by cases h) valueDivideUpto_row_tie rfl ⟨rfl, rfl⟩ (by kernel_rfl) rfl plain (by kernel_rfl)
#print axioms proved
end Go.Proofs.YthelkhnhgnjgdaaGreatDoor.valueDivide
