/-
  READING: one piece of a text.
-/
import Derived.Test.YtdagildojaagiaaGreatDoorZ13
import Derived.Test.YtdagildojaagiaaGreatDoorZ14
import Derived.Test.YtdagildojaagiaaGreatDoorZ12
set_option linter.unusedVariables false
set_option linter.unusedSimpArgs false
set_option maxRecDepth 100000
namespace Go.Ab
open Go Go.RowKit Go.Proofs
noncomputable def G_refSize (k : Nat) (x0 : Fm) : Option (Int) := match k with
| 0 => none
| k + 1 => (
 Option.bind (α := (Int × Unit) × (Unit))
 (loopM (L := ((Int × Int × (List UInt8) × (List Fm) × Unit) × Int × Int × Unit) × (Unit)) (R := (Int × Unit) × (Unit)) (fun d1 => (
 let v3_2 := d1.1.2.1
 let v4_3 := d1.1.2.2.1
 cond (cond (decide (d1.1.1.1 = 3)) (decide (v4_3 < (d1.1.1.2.2.2.1.length : Int))) false) (cond (ixOK v4_3 d1.1.1.2.2.2.1.length) (Option.bind (α := Int) (G_refSize k (Fm.eta (d1.1.1.2.2.2.1.getD v4_3.toNat (Fm.mk 0 0 [] [])))) fun r4 => (
 some (Step.next (((d1.1.1.1, d1.1.1.2.1, d1.1.1.2.2.1, d1.1.1.2.2.2.1, ()), IntKind.wrap .i64 (v3_2 + r4), IntKind.wrap .i64 (v4_3 + 1), ()), ())))) none) (some (Step.done ((v3_2, ()), ()))))) (((x0.k, x0.n, x0.t, x0.l, ()), 1, 0, ()), ())) fun d5 => (
 let v3_6 := d5.1.1
 some v3_6))
def A_refSize : An := .seq (.leaf) (.seq (.leaf) (.join false { env := [(3, (.d (.int .i64)))], objs := [] } (.seq (.leaf) (.block (.loop { env := [(1, (.rptr [(.d (.int .i64)), (.d (.int .i64)), (.d .str), (.d (.slice .form))])), (3, (.d (.int .i64))), (4, (.d (.int .i64)))], objs := [] } (.leaf)))) (.leaf)))
def H_refSize : Nat → RH := fun _ => {}
noncomputable def S_refSize (k : Nat) : Sig := .n [(.d .form)] (.d (.int .i64)) (fun x => G_refSize k x.1)
theorem S_refSize_rec : ∀ k, SigOK CX 10 (S_refSize k)
| 0 => fun x r h => by cases h
| k + 1 => by
 have ih := S_refSize_rec k
 exact sigN_of (l := [(10, (S_refSize k))]) ⟨ih, trivial⟩ (hint := H_refSize) (an := A_refSize) (fun x => by kernel_rfl)
theorem S_refSize_ok : ∀ k, SigOK CX 10 (S_refSize k) := fun k => S_refSize_rec k
noncomputable def L_refSize (x0 : Fm) : Option (Int) := limF fun k => G_refSize k x0
noncomputable def S_refSize_l : Sig := .n [(.d .form)] (.d (.int .i64)) (fun x => L_refSize x.1)
theorem S_refSize_l_ok : SigOK CX 10 S_refSize_l := SigOK.limN S_refSize_ok fun x r h => limF_ex h
noncomputable def G_leaf (x0 : Fm) : Option (Bool) := (
 Option.bind (α := Step ((Unit) × (Unit)) (Bool))
 (cond (decide (x0.k = 0)) (some (Step.done (cond (cond (cond (decide (x0.t = [])) (decide ((x0.l.length : Int) = 0)) false) (decide (x0.n ≥ (-1152921504606846976))) false) (decide (x0.n ≤ 1152921504606846976)) false))) (cond (decide (x0.k = 1)) (Option.bind (α := Bool) (cond (cond (!decide (x0.t = [])) (decide ((x0.t.length : Int) ≤ 30)) false) (numericF (x0.t)) (some false)) fun r1 => (
 Option.bind (α := ((Int × Int × (List UInt8) × (List Fm) × Unit) × Bool × Unit) × (Unit))
 (loopM (L := ((Int × Int × (List UInt8) × (List Fm) × Unit) × Bool × Int × Unit) × (Unit)) (R := ((Int × Int × (List UInt8) × (List Fm) × Unit) × Bool × Unit) × (Unit)) (fun d2 => (
 let v3_3 := d2.1.2.1
 let v4_4 := d2.1.2.2.1
 cond (cond (decide (v4_4 < (d2.1.1.2.2.1.length : Int))) v3_3 false) (cond (ixOK v4_4 d2.1.1.2.2.1.length) (Option.bind (α := Bool) (outsideF (byteAt d2.1.1.2.2.1 v4_4)) fun r5 => (
 some (Step.next (((d2.1.1.1, d2.1.1.2.1, d2.1.1.2.2.1, d2.1.1.2.2.2.1, ()), !r5, IntKind.wrap .i64 (v4_4 + 1), ()), ())))) none) (some (Step.done (((d2.1.1.1, d2.1.1.2.1, d2.1.1.2.2.1, d2.1.1.2.2.2.1, ()), v3_3, ()), ()))))) (((x0.k, x0.n, x0.t, x0.l, ()), cond (cond (!decide (x0.t = [])) (decide ((x0.t.length : Int) ≤ 30)) false) (!r1) false, 0, ()), ())) fun d6 => (
 let v3_7 := d6.1.2.1
 some (Step.done (cond (cond v3_7 (decide (d6.1.1.2.1 = 0)) false) (decide ((d6.1.1.2.2.2.1.length : Int) = 0)) false))))) (cond (decide (x0.k = 2)) (Option.bind (α := Bool) (cond (decide ((x0.t.length : Int) ≤ 2000)) (some (badT (x0.t))) (some false)) fun r8 => (
 some (Step.done (cond (cond (cond (decide ((x0.t.length : Int) ≤ 2000)) (!r8) false) (decide (x0.n = 0)) false) (decide ((x0.l.length : Int) = 0)) false)))) (cond (decide (x0.k = 3)) (some (Step.done (cond (decide (x0.t = [])) (decide (x0.n = 0)) false))) (some (Step.next ((), ()))))))) fun qd9 => match qd9 with
 | .next d9 => (
 some false)
 | .done r => some r)
def A_leaf : An := .seq (.leaf) (.join true { env := [], objs := [] } (.seq (.leaf) (.block (.seq (.leaf) (.cond (.leaf) (.seq (.leaf) (.cond (.seq (.leaf) (.join false { env := [(1, (.rptr [(.d (.int .i64)), (.d (.int .i64)), (.d .str), (.d (.slice .form))])), (3, (.d .bool))], objs := [] } (.seq (.leaf) (.block (.loop { env := [(1, (.rptr [(.d (.int .i64)), (.d (.int .i64)), (.d .str), (.d (.slice .form))])), (3, (.d .bool)), (4, (.d (.int .i64)))], objs := [] } (.leaf)))) (.leaf))) (.leaf))))))) (.leaf))
def H_leaf : Nat → RH := fun _ => {}
noncomputable def S_leaf : Sig := .n [(.d .form)] (.d .bool) (fun x => G_leaf x.1)
theorem S_leaf_ok : SigOK CX 123 S_leaf := sigN_of (l := [(140, S_numeric), (139, S_outside), (155, S_containsBad)]) ⟨S_numeric_ok, S_outside_ok, S_containsBad_ok, trivial⟩ (hint := H_leaf) (an := A_leaf) (fun x => by kernel_rfl)
noncomputable def G_valid (k : Nat) (x0 : Fm) (x2 : Int) (o0 : Int × Unit) : Option ((Bool) × ((Int × Unit) × Unit)) := match k with
| 0 => none
| k + 1 => (
 Option.bind (α := Bool) (cond (!(cond (decide (IntKind.wrap .i64 (o0.1 - 1) < 0)) true (decide (x2 = 0)))) (G_leaf (Fm.eta x0)) (some false)) fun r1 => (
 cond (cond (cond (decide (IntKind.wrap .i64 (o0.1 - 1) < 0)) true (decide (x2 = 0))) true (!r1)) (some (false, ((IntKind.wrap .i64 (o0.1 - 1), ()), ()))) (Option.bind (α := Step ((Unit) × ((Int × Unit) × Unit)) ((Bool) × ((Int × Unit) × Unit)))
 (loopM (L := (Unit × Int × (List Fm) × Int × Int × Unit) × ((Int × Unit) × Unit)) (R := Step ((Unit) × ((Int × Unit) × Unit)) ((Bool) × ((Int × Unit) × Unit))) (fun d2 => (
 let c3 := d2.2.1.1
 let v2_4 := d2.1.2.1
 let v28_5 := d2.1.2.2.1
 let v29_6 := d2.1.2.2.2.1
 let v30_7 := d2.1.2.2.2.2.1
 cond (decide (v30_7 < v29_6)) (cond (ixOK v30_7 v28_5.length) (Option.bind (α := (Bool) × ((Int × Unit) × Unit)) (G_valid k (Fm.eta (v28_5.getD v30_7.toNat (Fm.mk 0 0 [] []))) (IntKind.wrap .i64 (v2_4 - 1)) (c3, ())) fun r8 => (
 cond (!r8.1) (some (Step.done (Step.done (false, ((r8.2.1.1, ()), ()))))) (some (Step.next (((), v2_4, v28_5, v29_6, IntKind.wrap .i64 (v30_7 + 1), ()), ((r8.2.1.1, ()), ())))))) none) (some (Step.done (Step.next ((), ((c3, ()), ()))))))) (((), x2, x0.l, (x0.l.length : Int), 0, ()), ((IntKind.wrap .i64 (o0.1 - 1), ()), ()))) fun qd9 => match qd9 with
 | .next d9 => (
 let c10 := d9.2.1.1
 some (true, ((c10, ()), ())))
 | .done r => some r)))
def A_valid : An := .seq (.leaf) (.seq (.leaf) (.seq (.leaf) (.join true { env := [], objs := [(true, .cells 3 [(.d (.int .i64))])] } (.seq (.leaf) (.block (.loop { env := [(1, (.ref 0 0)), (2, (.d (.int .i64))), (28, (.d (.slice .form))), (29, (.d (.int .i64))), (30, (.d (.int .i64)))], objs := [(true, .cells 3 [(.d (.int .i64))])] } (.leaf)))) (.leaf))))
def H_valid : Nat → RH := fun r => match r with
 | 7 => { H := { ac := [38] } }
 | _ => {}
noncomputable def S_valid (k : Nat) : Sig := .o { pre := [(false, .cells 3 [(.d (.int .i64))])], args := [(.d .form), (.ref 0 0), (.d (.int .i64))], post := [(true, .cells 3 [(.d (.int .i64))])], res := (.d .bool), f := fun x => G_valid k x.1.1 x.1.2.2.1 x.2.1 }
theorem S_valid_ok : ∀ k, SigOK CX 78 (S_valid k)
| 0 => ⟨by kernel_rfl, fun x r h => by cases h⟩
| k + 1 => by
 have ih := S_valid_ok k
 exact sigO_of (l := [(123, S_leaf), (78, (S_valid k))]) ⟨S_leaf_ok, ih, trivial⟩ (hint := H_valid) (an := A_valid) (by kernel_rfl) (fun x => by kernel_rfl)
noncomputable def L_valid (x0 : Fm) (x2 : Int) (o0 : Int × Unit) : Option ((Bool) × ((Int × Unit) × Unit)) := limF fun k => G_valid k x0 x2 o0
noncomputable def S_valid_l : Sig := .o { pre := [(false, .cells 3 [(.d (.int .i64))])], args := [(.d .form), (.ref 0 0), (.d (.int .i64))], post := [(true, .cells 3 [(.d (.int .i64))])], res := (.d .bool), f := fun x => L_valid x.1.1 x.1.2.2.1 x.2.1 }
theorem S_valid_l_ok : SigOK CX 78 S_valid_l := SigOK.limO S_valid_ok fun x r h => limF_ex h
noncomputable def G_rvalid (x0 : Fm) : Option (Bool) := (
 Option.bind (α := (Bool) × ((Int × Unit) × Unit)) (L_valid (Fm.eta x0) 100 (20000, ())) fun r1 => (
 some r1.1))
def A_rvalid : An := .leaf
def H_rvalid : Nat → RH := fun r => match r with
 | 2 => { H := { ac := [5] } }
 | _ => {}
noncomputable def S_rvalid : Sig := .n [(.d .form)] (.d .bool) (fun x => G_rvalid x.1)
theorem S_rvalid_ok : SigOK CX 34 S_rvalid := sigN_of (l := [(78, S_valid_l)]) ⟨S_valid_l_ok, trivial⟩ (hint := H_rvalid) (an := A_rvalid) (fun x => by kernel_rfl)
noncomputable def G_visible (x0 : Int) : Option (Bool) := (
 some (cond (cond (cond (cond (cond (decide (x0 ≥ 33)) (decide (x0 ≤ 126)) false) (!decide (x0 = 40)) false) (!decide (x0 = 41)) false) (!decide (x0 = 34)) false) (!decide (x0 = 59)) false))
noncomputable def G_digits (x0 : List UInt8) : Option (Bool) := (
 Option.bind (α := ((List UInt8) × Unit) × (Unit))
 (cond ((ixOK 0 x0.length) || !(decide ((x0.length : Int) > 1))) (cond (cond (decide ((x0.length : Int) > 1)) (decide (byteAt x0 0 = 45)) false) (cond (slOK 1 (x0.length : Int) x0.length) (some (((x0.drop (1 : Int).toNat).take ((x0.length : Int).toNat - (1 : Int).toNat), ()), ())) none) (some ((x0, ()), ()))) none) fun d1 => (
 let v0_2 := d1.1.1
 Option.bind (α := Step (((List UInt8) × Unit) × (Unit)) (Bool))
 (loopM (L := ((List UInt8) × Int × Unit) × (Unit)) (R := Step (((List UInt8) × Unit) × (Unit)) (Bool)) (fun d3 => (
 let v0_4 := d3.1.1
 let v3_5 := d3.1.2.1
 cond (decide (v3_5 < (v0_4.length : Int))) (cond (ixOK v3_5 v0_4.length) (cond ((ixOK v3_5 v0_4.length) || !(!(decide (byteAt v0_4 v3_5 < 48)))) (cond (cond (decide (byteAt v0_4 v3_5 < 48)) true (decide (byteAt v0_4 v3_5 > 57))) (some (Step.done (Step.done false))) (some (Step.next ((v0_4, IntKind.wrap .i64 (v3_5 + 1), ()), ())))) none) none) (some (Step.done (Step.next ((v0_4, ()), ())))))) ((v0_2, 0, ()), ())) fun qd6 => match qd6 with
 | .next d6 => (
 let v0_7 := d6.1.1
 some (!decide (v0_7 = [])))
 | .done r => some r))
noncomputable def G_isWord (x0 : List UInt8) : Option (Bool) := (
 Option.bind (α := Step (((List UInt8) × Unit) × (Unit)) (Bool))
 (loopM (L := ((List UInt8) × Int × Unit) × (Unit)) (R := Step (((List UInt8) × Unit) × (Unit)) (Bool)) (fun d1 => (
 let v0_2 := d1.1.1
 let v3_3 := d1.1.2.1
 cond (decide (v3_3 < (v0_2.length : Int))) (cond (ixOK v3_3 v0_2.length) (Option.bind (α := Bool) (G_visible (byteAt v0_2 v3_3)) fun r4 => (
 cond (!r4) (some (Step.done (Step.done false))) (some (Step.next ((v0_2, IntKind.wrap .i64 (v3_3 + 1), ()), ()))))) none) (some (Step.done (Step.next ((v0_2, ()), ())))))) ((x0, 0, ()), ())) fun qd5 => match qd5 with
 | .next d5 => (
 let v0_6 := d5.1.1
 Option.bind (α := Bool) (cond (cond (decide ((v0_6.length : Int) ≥ 1)) (decide ((v0_6.length : Int) ≤ 30)) false) (G_digits v0_6) (some false)) fun r7 => (
 some (cond (cond (decide ((v0_6.length : Int) ≥ 1)) (decide ((v0_6.length : Int) ≤ 30)) false) (!r7) false)))
 | .done r => some r)
noncomputable def G_isText (x0 : List UInt8) : Option (Bool) := (
 Option.bind (α := Step (((List UInt8) × Unit) × (Unit)) (Bool))
 (loopM (L := ((List UInt8) × Int × Unit) × (Unit)) (R := Step (((List UInt8) × Unit) × (Unit)) (Bool)) (fun d1 => (
 let v0_2 := d1.1.1
 let v3_3 := d1.1.2.1
 cond (decide (v3_3 < (v0_2.length : Int))) (cond (ixOK v3_3 v0_2.length) (cond ((ixOK v3_3 v0_2.length) || !(!decide (byteAt v0_2 v3_3 = 10))) (cond ((ixOK v3_3 v0_2.length) || !((!decide (byteAt v0_2 v3_3 = 10)) && !(decide (byteAt v0_2 v3_3 < 32)))) (cond (cond (!decide (byteAt v0_2 v3_3 = 10)) (cond (decide (byteAt v0_2 v3_3 < 32)) true (decide (byteAt v0_2 v3_3 > 126))) false) (some (Step.done (Step.done false))) (some (Step.next ((v0_2, IntKind.wrap .i64 (v3_3 + 1), ()), ())))) none) none) none) (some (Step.done (Step.next ((v0_2, ()), ())))))) ((x0, 0, ()), ())) fun qd4 => match qd4 with
 | .next d4 => (
 let v0_5 := d4.1.1
 some (decide ((v0_5.length : Int) ≤ 2000)))
 | .done r => some r)
noncomputable def G_fields (k : Nat) (x0 : Fm) : Option (Bool) := match k with
| 0 => none
| k + 1 => (
 cond (cond (cond (cond (!decide (x0.k = 0)) (!decide (x0.n = 0)) false) true (cond (!decide (x0.k = 3)) (decide ((x0.l.length : Int) > 0)) false)) true (cond (cond (!decide (x0.k = 1)) (!decide (x0.k = 2)) false) (!decide (x0.t = [])) false)) (some false) (Option.bind (α := Step ((Unit) × (Unit)) (Bool))
 (cond (decide (x0.k = 0)) (some (Step.done (cond (decide (x0.n ≥ (-1152921504606846976))) (decide (x0.n ≤ 1152921504606846976)) false))) (cond (decide (x0.k = 1)) (Option.bind (α := Bool) (G_isWord x0.t) fun r1 => (
 some (Step.done r1))) (cond (decide (x0.k = 2)) (Option.bind (α := Bool) (G_isText x0.t) fun r2 => (
 some (Step.done r2))) (cond (decide (x0.k = 3)) (Option.bind (α := Step ((Unit) × (Unit)) (Step ((Unit) × (Unit)) (Bool)))
 (loopM (L := ((Int × Int × (List UInt8) × (List Fm) × Unit) × Int × Unit) × (Unit)) (R := Step ((Unit) × (Unit)) (Step ((Unit) × (Unit)) (Bool))) (fun d3 => (
 let v3_4 := d3.1.2.1
 cond (decide (v3_4 < (d3.1.1.2.2.2.1.length : Int))) (cond (ixOK v3_4 d3.1.1.2.2.2.1.length) (Option.bind (α := Bool) (G_fields k (Fm.eta (d3.1.1.2.2.2.1.getD v3_4.toNat (Fm.mk 0 0 [] [])))) fun r5 => (
 cond (!r5) (some (Step.done (Step.done (Step.done false)))) (some (Step.next (((d3.1.1.1, d3.1.1.2.1, d3.1.1.2.2.1, d3.1.1.2.2.2.1, ()), IntKind.wrap .i64 (v3_4 + 1), ()), ()))))) none) (some (Step.done (Step.next ((), ())))))) (((x0.k, x0.n, x0.t, x0.l, ()), 0, ()), ())) fun qd6 => match qd6 with
 | .next d6 => (
 some (Step.done true))
 | .done r => some r) (some (Step.next ((), ()))))))) fun qd7 => match qd7 with
 | .next d7 => (
 some false)
 | .done r => some r))
noncomputable def L_fields (x0 : Fm) : Option (Bool) := limF fun k => G_fields k x0
noncomputable def G_refDepth (k : Nat) (x0 : Fm) : Option (Int) := match k with
| 0 => none
| k + 1 => (
 Option.bind (α := (Int × Unit) × (Unit))
 (loopM (L := ((Int × Int × (List UInt8) × (List Fm) × Unit) × Int × Int × Unit) × (Unit)) (R := (Int × Unit) × (Unit)) (fun d1 => (
 let v3_2 := d1.1.2.1
 let v4_3 := d1.1.2.2.1
 cond (cond (decide (d1.1.1.1 = 3)) (decide (v4_3 < (d1.1.1.2.2.2.1.length : Int))) false) (cond (ixOK v4_3 d1.1.1.2.2.2.1.length) (Option.bind (α := Int) (G_refDepth k (Fm.eta (d1.1.1.2.2.2.1.getD v4_3.toNat (Fm.mk 0 0 [] [])))) fun r4 => (
 some (Step.next (((d1.1.1.1, d1.1.1.2.1, d1.1.1.2.2.1, d1.1.1.2.2.2.1, ()), (if r4 > v3_2 then r4 else v3_2), IntKind.wrap .i64 (v4_3 + 1), ()), ())))) none) (some (Step.done ((v3_2, ()), ()))))) (((x0.k, x0.n, x0.t, x0.l, ()), 0, 0, ()), ())) fun d5 => (
 let v3_6 := d5.1.1
 some (IntKind.wrap .i64 (v3_6 + 1))))
def A_refDepth : An := .seq (.leaf) (.seq (.leaf) (.join false { env := [(3, (.d (.int .i64)))], objs := [] } (.seq (.leaf) (.block (.loop { env := [(1, (.rptr [(.d (.int .i64)), (.d (.int .i64)), (.d .str), (.d (.slice .form))])), (3, (.d (.int .i64))), (4, (.d (.int .i64)))], objs := [] } (.leaf)))) (.leaf)))
def H_refDepth : Nat → RH := fun _ => {}
noncomputable def S_refDepth (k : Nat) : Sig := .n [(.d .form)] (.d (.int .i64)) (fun x => G_refDepth k x.1)
theorem S_refDepth_rec : ∀ k, SigOK CX 38 (S_refDepth k)
| 0 => fun x r h => by cases h
| k + 1 => by
 have ih := S_refDepth_rec k
 exact sigN_of (l := [(38, (S_refDepth k))]) ⟨ih, trivial⟩ (hint := H_refDepth) (an := A_refDepth) (fun x => by kernel_rfl)
theorem S_refDepth_ok : ∀ k, SigOK CX 38 (S_refDepth k) := fun k => S_refDepth_rec k
noncomputable def L_refDepth (x0 : Fm) : Option (Int) := limF fun k => G_refDepth k x0
noncomputable def S_refDepth_l : Sig := .n [(.d .form)] (.d (.int .i64)) (fun x => L_refDepth x.1)
theorem S_refDepth_l_ok : SigOK CX 38 S_refDepth_l := SigOK.limN S_refDepth_ok fun x r h => limF_ex h
noncomputable def G_small1 (x0 : Fm) : Option (Bool) := (
 Option.bind (α := Int) (L_refSize (Fm.eta x0)) fun r1 => (
 Option.bind (α := Int) (cond (decide (r1 ≤ 20000)) (L_refDepth (Fm.eta x0)) (some (0 : Int))) fun r2 => (
 some (cond (decide (r1 ≤ 20000)) (decide (r2 ≤ 100)) false))))
def A_small1 : An := .leaf
def H_small1 : Nat → RH := fun _ => {}
noncomputable def S_small1 : Sig := .n [(.d .form)] (.d .bool) (fun x => G_small1 x.1)
theorem S_small1_ok : SigOK CX 63 S_small1 := sigN_of (l := [(10, S_refSize_l), (38, S_refDepth_l)]) ⟨S_refSize_l_ok, S_refDepth_l_ok, trivial⟩ (hint := H_small1) (an := A_small1) (fun x => by kernel_rfl)
noncomputable def G_refValid (x0 : Fm) : Option (Bool) := (
 Option.bind (α := Bool) (L_fields (Fm.eta x0)) fun r1 => (
 Option.bind (α := Bool) (cond r1 (G_small1 (Fm.eta x0)) (some false)) fun r2 => (
 some (cond r1 r2 false))))
noncomputable def G_refEqual (x0 : Fm) (x1 : Fm) : Option (Bool) := (
 Option.bind (α := Int) (L_refCompare (Fm.eta x0) (Fm.eta x1)) fun r1 => (
 some (decide (r1 = 0))))
def A_refEqual : An := .leaf
def H_refEqual : Nat → RH := fun _ => {}
noncomputable def S_refEqual : Sig := .n [(.d .form), (.d .form)] (.d .bool) (fun x => G_refEqual x.1 x.2.1)
theorem S_refEqual_ok : SigOK CX 25 S_refEqual := sigN_of (l := [(64, S_refCompare_l)]) ⟨S_refCompare_l_ok, trivial⟩ (hint := H_refEqual) (an := A_refEqual) (fun x => by kernel_rfl)
noncomputable def G_refList (x0 : List Fm) : Option (Fm) := (
 some (Fm.mk 3 0 ([]) x0))
def A_refList : An := .leaf
def H_refList : Nat → RH := fun _ => {}
noncomputable def S_refList : Sig := .n [(.d (.slice .form))] (.d .form) (fun x => G_refList x.1)
theorem S_refList_ok : SigOK CX 53 S_refList := sigN_of (l := []) trivial (hint := H_refList) (an := A_refList) (fun x => by kernel_rfl)
end Go.Ab

set_option maxRecDepth 100000
namespace Go.Ab
open Go Go.RowKit Go.Proofs
noncomputable def G_parse (x0 : List UInt8) : Option ((List Fm) × Int × Unit) := (
 loopM (L := (Unit × Unit × Unit) × (((List UInt8) × Int × Unit) × (List (List Fm)) × Unit)) (R := (List Fm) × Int × Unit) (fun d1 => (
 let c2 := d1.2.1.1
 let c3 := d1.2.1.2.1
 let l4 := d1.2.2.1
 Option.bind (α := ((Int × Fm) × Bool × Int × Unit) × (((List UInt8) × Int × Unit) × Unit)) (G_nextA (c2, c3, ())) fun r5 => (
 Option.bind (α := Step ((Unit × Unit × (Int × Int × Int × (List UInt8) × (List Fm) × Unit) × Unit) × (((List UInt8) × Int × Unit) × (List (List Fm)) × Unit)) (Step ((Unit × Unit × Unit) × (((List UInt8) × Int × Unit) × (List (List Fm)) × Unit)) ((List Fm) × Int × Unit)))
 (cond (!decide (r5.1.2.2.1 = 0)) (some (Step.done (Step.done (([] : List Fm), r5.1.2.2.1, ())))) (cond (cond (!r5.1.2.1) (decide (IntKind.wrap .i64 ((l4.length : Int) - 1) > 0)) false) (some (Step.done (Step.done (([] : List Fm), 12, ())))) (cond (!r5.1.2.1) (cond (ixOK 0 l4.length) (cond (decide ((0 : Int).toNat < l4.length)) (some (Step.done (Step.done ((l4.getD ((0 : Int).toNat) ([] : List Fm)), 0, ())))) none) none) (cond (decide (r5.1.1.1 = 40)) (cond (decide ((l4.length + 1) * 24 ≤ 140737488355328)) (some (Step.next (((), (), (r5.1.1.1, r5.1.1.2.k, r5.1.1.2.n, r5.1.1.2.t, r5.1.1.2.l, ()), ()), ((r5.2.1.1, r5.2.1.2.1, ()), l4 ++ [([] : List Fm)], ())))) none) (cond (cond (decide (r5.1.1.1 = 41)) (decide (IntKind.wrap .i64 ((l4.length : Int) - 1) = 0)) false) (some (Step.done (Step.done (([] : List Fm), 4, ())))) (cond (decide (r5.1.1.1 = 41)) (cond (ixOK (IntKind.wrap .i64 ((l4.length : Int) - 1)) l4.length) (cond (decide ((IntKind.wrap .i64 ((l4.length : Int) - 1)).toNat < l4.length)) (cond (hiOK (IntKind.wrap .i64 ((l4.length : Int) - 1)) l4.length) (mgC (cond (ixOK (IntKind.wrap .i64 (IntKind.wrap .i64 ((l4.length : Int) - 1) - 1)) ((IntKind.wrap .i64 ((l4.length : Int) - 1)).toNat)) (cond (decide ((IntKind.wrap .i64 (IntKind.wrap .i64 ((l4.length : Int) - 1) - 1)).toNat < (l4.take (IntKind.wrap .i64 ((l4.length : Int) - 1)).toNat).length)) (cond (decide ((IntKind.wrap .i64 (IntKind.wrap .i64 ((l4.length : Int) - 1) - 1)).toNat < (l4.take (IntKind.wrap .i64 ((l4.length : Int) - 1)).toNat).length) && decide ((((l4.take (IntKind.wrap .i64 ((l4.length : Int) - 1)).toNat).getD ((IntKind.wrap .i64 (IntKind.wrap .i64 ((l4.length : Int) - 1) - 1)).toNat) ([] : List Fm)).length + ([(Fm.mk 3 0 ([]) (l4.getD ((IntKind.wrap .i64 ((l4.length : Int) - 1)).toNat) ([] : List Fm)))]).length) * 56 ≤ 140737488355328)) (cond (ixOK (IntKind.wrap .i64 (IntKind.wrap .i64 ((l4.length : Int) - 1) - 1)) ((IntKind.wrap .i64 ((l4.length : Int) - 1)).toNat)) (cond (decide ((IntKind.wrap .i64 (IntKind.wrap .i64 ((l4.length : Int) - 1) - 1)).toNat = (IntKind.wrap .i64 (IntKind.wrap .i64 ((l4.length : Int) - 1) - 1)).toNat) && decide ((IntKind.wrap .i64 (IntKind.wrap .i64 ((l4.length : Int) - 1) - 1)).toNat < (l4.take (IntKind.wrap .i64 ((l4.length : Int) - 1)).toNat).length)) (some (Step.next (((), (), (r5.1.1.1, r5.1.1.2.k, r5.1.1.2.n, r5.1.1.2.t, r5.1.1.2.l, ()), ()), ((r5.2.1.1, r5.2.1.2.1, ()), (l4.take (IntKind.wrap .i64 ((l4.length : Int) - 1)).toNat).set ((IntKind.wrap .i64 (IntKind.wrap .i64 ((l4.length : Int) - 1) - 1)).toNat) (((l4.take (IntKind.wrap .i64 ((l4.length : Int) - 1)).toNat).getD ((IntKind.wrap .i64 (IntKind.wrap .i64 ((l4.length : Int) - 1) - 1)).toNat) ([] : List Fm)) ++ ([(Fm.mk 3 0 ([]) (l4.getD ((IntKind.wrap .i64 ((l4.length : Int) - 1)).toNat) ([] : List Fm)))])), ())))) none) none) none) none) none) (cond (ixOK (IntKind.wrap .i64 (IntKind.wrap .i64 ((l4.length : Int) - 1) - 1)) ((IntKind.wrap .i64 ((l4.length : Int) - 1)).toNat)) (cond (decide ((IntKind.wrap .i64 (IntKind.wrap .i64 ((l4.length : Int) - 1) - 1)).toNat < (l4.take (IntKind.wrap .i64 ((l4.length : Int) - 1)).toNat).length)) (cond (decide ((IntKind.wrap .i64 (IntKind.wrap .i64 ((l4.length : Int) - 1) - 1)).toNat < (l4.take (IntKind.wrap .i64 ((l4.length : Int) - 1)).toNat).length) && decide ((((l4.take (IntKind.wrap .i64 ((l4.length : Int) - 1)).toNat).getD ((IntKind.wrap .i64 (IntKind.wrap .i64 ((l4.length : Int) - 1) - 1)).toNat) ([] : List Fm)).length + ([(Fm.mk 0 0 ([]) ([] : List Fm))]).length) * 56 ≤ 140737488355328)) (cond (ixOK (IntKind.wrap .i64 (IntKind.wrap .i64 ((l4.length : Int) - 1) - 1)) ((IntKind.wrap .i64 ((l4.length : Int) - 1)).toNat)) (cond (decide ((IntKind.wrap .i64 (IntKind.wrap .i64 ((l4.length : Int) - 1) - 1)).toNat = (IntKind.wrap .i64 (IntKind.wrap .i64 ((l4.length : Int) - 1) - 1)).toNat) && decide ((IntKind.wrap .i64 (IntKind.wrap .i64 ((l4.length : Int) - 1) - 1)).toNat < (l4.take (IntKind.wrap .i64 ((l4.length : Int) - 1)).toNat).length)) (cond (ixOK (((l4.take (IntKind.wrap .i64 ((l4.length : Int) - 1)).toNat).getD ((IntKind.wrap .i64 (IntKind.wrap .i64 ((l4.length : Int) - 1) - 1)).toNat) ([] : List Fm)).length : Int) (((l4.take (IntKind.wrap .i64 ((l4.length : Int) - 1)).toNat).getD ((IntKind.wrap .i64 (IntKind.wrap .i64 ((l4.length : Int) - 1) - 1)).toNat) ([] : List Fm)).length + ([(Fm.mk 0 0 ([]) ([] : List Fm))]).length)) (cond ((decide (((l4.take (IntKind.wrap .i64 ((l4.length : Int) - 1)).toNat).getD ((IntKind.wrap .i64 (IntKind.wrap .i64 ((l4.length : Int) - 1) - 1)).toNat) ([] : List Fm)).length ≤ (((l4.take (IntKind.wrap .i64 ((l4.length : Int) - 1)).toNat).getD ((IntKind.wrap .i64 (IntKind.wrap .i64 ((l4.length : Int) - 1) - 1)).toNat) ([] : List Fm)).length : Int).toNat) && decide ((((l4.take (IntKind.wrap .i64 ((l4.length : Int) - 1)).toNat).getD ((IntKind.wrap .i64 (IntKind.wrap .i64 ((l4.length : Int) - 1) - 1)).toNat) ([] : List Fm)).length : Int).toNat < ((l4.take (IntKind.wrap .i64 ((l4.length : Int) - 1)).toNat).getD ((IntKind.wrap .i64 (IntKind.wrap .i64 ((l4.length : Int) - 1) - 1)).toNat) ([] : List Fm)).length + ([(Fm.mk 0 0 ([]) ([] : List Fm))]).length)) && decide ((IntKind.wrap .i64 (IntKind.wrap .i64 ((l4.length : Int) - 1) - 1)).toNat < (l4.take (IntKind.wrap .i64 ((l4.length : Int) - 1)).toNat).length)) (some (Step.next (((), (), (r5.1.1.1, r5.1.1.2.k, r5.1.1.2.n, r5.1.1.2.t, r5.1.1.2.l, ()), ()), ((r5.2.1.1, r5.2.1.2.1, ()), (l4.take (IntKind.wrap .i64 ((l4.length : Int) - 1)).toNat).set ((IntKind.wrap .i64 (IntKind.wrap .i64 ((l4.length : Int) - 1) - 1)).toNat) (((l4.take (IntKind.wrap .i64 ((l4.length : Int) - 1)).toNat).getD ((IntKind.wrap .i64 (IntKind.wrap .i64 ((l4.length : Int) - 1) - 1)).toNat) ([] : List Fm)) ++ (([(Fm.mk 0 0 ([]) ([] : List Fm))]).set ((((l4.take (IntKind.wrap .i64 ((l4.length : Int) - 1)).toNat).getD ((IntKind.wrap .i64 (IntKind.wrap .i64 ((l4.length : Int) - 1) - 1)).toNat) ([] : List Fm)).length : Int).toNat - ((l4.take (IntKind.wrap .i64 ((l4.length : Int) - 1)).toNat).getD ((IntKind.wrap .i64 (IntKind.wrap .i64 ((l4.length : Int) - 1) - 1)).toNat) ([] : List Fm)).length) (Fm.mk 3 0 ([]) (l4.getD ((IntKind.wrap .i64 ((l4.length : Int) - 1)).toNat) ([] : List Fm))))), ())))) none) none) none) none) none) none) none)) none) none) none) (cond (ixOK (IntKind.wrap .i64 ((l4.length : Int) - 1)) l4.length) (cond (decide ((IntKind.wrap .i64 ((l4.length : Int) - 1)).toNat < l4.length)) (cond (decide ((IntKind.wrap .i64 ((l4.length : Int) - 1)).toNat < l4.length) && decide (((l4.getD ((IntKind.wrap .i64 ((l4.length : Int) - 1)).toNat) ([] : List Fm)).length + ([(Fm.mk 0 0 ([]) ([] : List Fm))]).length) * 56 ≤ 140737488355328)) (cond (ixOK ((l4.getD ((IntKind.wrap .i64 ((l4.length : Int) - 1)).toNat) ([] : List Fm)).length : Int) ((l4.getD ((IntKind.wrap .i64 ((l4.length : Int) - 1)).toNat) ([] : List Fm)).length + ([(Fm.mk 0 0 ([]) ([] : List Fm))]).length)) (cond (ixOK (IntKind.wrap .i64 ((l4.length : Int) - 1)) l4.length) (mgC (cond ((decide ((l4.getD ((IntKind.wrap .i64 ((l4.length : Int) - 1)).toNat) ([] : List Fm)).length ≤ ((l4.getD ((IntKind.wrap .i64 ((l4.length : Int) - 1)).toNat) ([] : List Fm)).length : Int).toNat) && decide (((l4.getD ((IntKind.wrap .i64 ((l4.length : Int) - 1)).toNat) ([] : List Fm)).length : Int).toNat < (l4.getD ((IntKind.wrap .i64 ((l4.length : Int) - 1)).toNat) ([] : List Fm)).length + ([(Fm.mk 0 0 ([]) ([] : List Fm))]).length)) && decide ((IntKind.wrap .i64 ((l4.length : Int) - 1)).toNat < l4.length)) (cond (decide ((IntKind.wrap .i64 ((l4.length : Int) - 1)).toNat = (IntKind.wrap .i64 ((l4.length : Int) - 1)).toNat) && decide ((IntKind.wrap .i64 ((l4.length : Int) - 1)).toNat < l4.length)) (some (Step.next (((), (), (r5.1.1.1, r5.1.1.2.k, r5.1.1.2.n, r5.1.1.2.t, r5.1.1.2.l, ()), ()), ((r5.2.1.1, r5.2.1.2.1, ()), l4.set ((IntKind.wrap .i64 ((l4.length : Int) - 1)).toNat) ((l4.getD ((IntKind.wrap .i64 ((l4.length : Int) - 1)).toNat) ([] : List Fm)) ++ (([(Fm.mk 0 0 ([]) ([] : List Fm))]).set (((l4.getD ((IntKind.wrap .i64 ((l4.length : Int) - 1)).toNat) ([] : List Fm)).length : Int).toNat - (l4.getD ((IntKind.wrap .i64 ((l4.length : Int) - 1)).toNat) ([] : List Fm)).length) (Fm.eta r5.1.1.2))), ())))) none) none) (cond (decide ((IntKind.wrap .i64 ((l4.length : Int) - 1)).toNat = (IntKind.wrap .i64 ((l4.length : Int) - 1)).toNat) && decide ((IntKind.wrap .i64 ((l4.length : Int) - 1)).toNat < l4.length)) (cond ((decide ((l4.getD ((IntKind.wrap .i64 ((l4.length : Int) - 1)).toNat) ([] : List Fm)).length ≤ ((l4.getD ((IntKind.wrap .i64 ((l4.length : Int) - 1)).toNat) ([] : List Fm)).length : Int).toNat) && decide (((l4.getD ((IntKind.wrap .i64 ((l4.length : Int) - 1)).toNat) ([] : List Fm)).length : Int).toNat < (l4.getD ((IntKind.wrap .i64 ((l4.length : Int) - 1)).toNat) ([] : List Fm)).length + ([(Fm.mk 0 0 ([]) ([] : List Fm))]).length)) && decide ((IntKind.wrap .i64 ((l4.length : Int) - 1)).toNat < l4.length)) (some (Step.next (((), (), (r5.1.1.1, r5.1.1.2.k, r5.1.1.2.n, r5.1.1.2.t, r5.1.1.2.l, ()), ()), ((r5.2.1.1, r5.2.1.2.1, ()), l4.set ((IntKind.wrap .i64 ((l4.length : Int) - 1)).toNat) ((l4.getD ((IntKind.wrap .i64 ((l4.length : Int) - 1)).toNat) ([] : List Fm)) ++ (([(Fm.mk 0 0 ([]) ([] : List Fm))]).set (((l4.getD ((IntKind.wrap .i64 ((l4.length : Int) - 1)).toNat) ([] : List Fm)).length : Int).toNat - (l4.getD ((IntKind.wrap .i64 ((l4.length : Int) - 1)).toNat) ([] : List Fm)).length) (Fm.eta r5.1.1.2))), ())))) none) none)) none) none) none) none) none))))))) fun qd6 => match qd6 with
 | .next d6 => (
 let c7 := d6.2.1.1
 let c8 := d6.2.1.2.1
 let l9 := d6.2.2.1
 cond ((ixOK c8 c7.length) || !(cond (decide (d6.1.2.2.1.1 = 0)) (decide (c8 < (c7.length : Int))) false)) (Option.bind (α := Bool) (cond (cond (decide (d6.1.2.2.1.1 = 0)) (decide (c8 < (c7.length : Int))) false) (G_touches (byteAt c7 c8)) (some false)) fun r10 => (
 cond (cond (cond (decide (d6.1.2.2.1.1 = 0)) (decide (c8 < (c7.length : Int))) false) r10 false) (some (Step.done (([] : List Fm), 4, ()))) (some (Step.next (((), (), ()), ((c7, c8, ()), l9, ())))))) none)
 | .done r => some r))) (((), (), ()), ((x0, 0, ()), [([] : List Fm)], ())))
def A_parse : An := .seq (.leaf) (.seq (.leaf) (.seq (.leaf) (.block (.loop { env := [(4, (.ref 0 0)), (5, (.gs 1 (.slice .form)))], objs := [(false, .cells 132 [(.d .str), (.d (.int .i64))]), (false, .stk .form 24)] } (.block (.seq (.leaf) (.frz [2] (.join true { env := [(4, (.ref 0 0)), (5, (.gs 1 (.slice .form))), (6, (.rptr [(.d (.int .u8)), (.d (.int .i64)), (.d (.int .i64)), (.d .str), (.d (.slice .form))]))], objs := [(false, .cells 132 [(.d .str), (.d (.int .i64))]), (false, .stk .form 24)] } (.block (.seq (.leaf) (.cond (.leaf) (.seq (.leaf) (.cond (.leaf) (.seq (.leaf) (.cond (.leaf) (.seq (.leaf) (.cond (.leaf) (.seq (.leaf) (.cond (.leaf) (.seq (.leaf) (.cond (.seq (.leaf) (.frz [4] (.leaf))) (.leaf)))))))))))))) (.leaf)))))))))
def H_parse : Nat → RH := fun r => match r with
 | 1 => { H := { mb := [13] } }
 | 2 => { H := { mb := [14], ty := [(14, (.pr (.slice .form) .un))] } }
 | 3 => { H := { ac := [17] } }
 | 5 => { H := { mb := [27], pl := [29], ty := [(27, (.pr (.slice .form) .un)), (32, (.pr (.slice .form) (.pr .un .un)))] }, pair := some ([0, 1, 2, 3, 4, 5, 6, 7, 8, 9, 11], 10, 12, []) }
 | 13 => { H := { ty := [(58, (.pr (.slice .form) .un))] } }
 | 18 => { H := { mb := [78], ty := [(78, (.pr (.slice .form) .un))] } }
 | 19 => { pair := some ([0], 1, 2, [3]) }
 | 20 => { H := { mb := [88], pl := [89], ty := [(88, (.pr (.slice .form) .un)), (92, (.pr (.slice .form) (.pr .un .un)))] } }
 | 22 => { H := { mb := [102], pl := [103], ty := [(102, (.pr (.slice .form) .un)), (105, (.pr (.slice .form) .un))] } }
 | 23 => { H := { pl := [108] } }
 | _ => {}
noncomputable def S_parse : Sig := .n [(.d .str)] (.tup [(.d (.slice .form)), (.d (.int .i64))]) (fun x => G_parse x.1)
theorem S_parse_ok : SigOK CX 59 S_parse := sigN_of (l := [(104, S_nextA), (105, S_touches)]) ⟨S_nextA_ok, S_touches_ok, trivial⟩ (hint := H_parse) (an := A_parse) (fun x => by kernel_rfl)
noncomputable def G_rput (x1 : Fm) (o0 : (List UInt8) × Int × Unit × Bool × Int × Unit) (o1 : List (List Fm)) : Option ((Unit) × (((List UInt8) × Int × Unit × Bool × Int × Unit) × (List (List Fm)) × Unit)) := (
 mgC (cond (ixOK (IntKind.wrap .i64 ((o1.length : Int) - 1)) o1.length) (cond (decide ((IntKind.wrap .i64 ((o1.length : Int) - 1)).toNat < o1.length)) (cond (decide ((IntKind.wrap .i64 ((o1.length : Int) - 1)).toNat < o1.length) && decide (((o1.getD ((IntKind.wrap .i64 ((o1.length : Int) - 1)).toNat) ([] : List Fm)).length + ([(Fm.eta x1)]).length) * 56 ≤ 140737488355328)) (cond (ixOK (IntKind.wrap .i64 ((o1.length : Int) - 1)) o1.length) (cond (decide ((IntKind.wrap .i64 ((o1.length : Int) - 1)).toNat = (IntKind.wrap .i64 ((o1.length : Int) - 1)).toNat) && decide ((IntKind.wrap .i64 ((o1.length : Int) - 1)).toNat < o1.length)) (some ((), ((o0.1, o0.2.1, (), o0.2.2.2.1, o0.2.2.2.2.1, ()), o1.set ((IntKind.wrap .i64 ((o1.length : Int) - 1)).toNat) ((o1.getD ((IntKind.wrap .i64 ((o1.length : Int) - 1)).toNat) ([] : List Fm)) ++ ([(Fm.eta x1)])), ()))) none) none) none) none) none) (cond (ixOK (IntKind.wrap .i64 ((o1.length : Int) - 1)) o1.length) (cond (decide ((IntKind.wrap .i64 ((o1.length : Int) - 1)).toNat < o1.length)) (cond (decide ((IntKind.wrap .i64 ((o1.length : Int) - 1)).toNat < o1.length) && decide (((o1.getD ((IntKind.wrap .i64 ((o1.length : Int) - 1)).toNat) ([] : List Fm)).length + ([(Fm.mk 0 0 ([]) ([] : List Fm))]).length) * 56 ≤ 140737488355328)) (cond (ixOK (IntKind.wrap .i64 ((o1.length : Int) - 1)) o1.length) (cond (decide ((IntKind.wrap .i64 ((o1.length : Int) - 1)).toNat = (IntKind.wrap .i64 ((o1.length : Int) - 1)).toNat) && decide ((IntKind.wrap .i64 ((o1.length : Int) - 1)).toNat < o1.length)) (cond (ixOK ((o1.getD ((IntKind.wrap .i64 ((o1.length : Int) - 1)).toNat) ([] : List Fm)).length : Int) ((o1.getD ((IntKind.wrap .i64 ((o1.length : Int) - 1)).toNat) ([] : List Fm)).length + ([(Fm.mk 0 0 ([]) ([] : List Fm))]).length)) (cond ((decide ((o1.getD ((IntKind.wrap .i64 ((o1.length : Int) - 1)).toNat) ([] : List Fm)).length ≤ ((o1.getD ((IntKind.wrap .i64 ((o1.length : Int) - 1)).toNat) ([] : List Fm)).length : Int).toNat) && decide (((o1.getD ((IntKind.wrap .i64 ((o1.length : Int) - 1)).toNat) ([] : List Fm)).length : Int).toNat < (o1.getD ((IntKind.wrap .i64 ((o1.length : Int) - 1)).toNat) ([] : List Fm)).length + ([(Fm.mk 0 0 ([]) ([] : List Fm))]).length)) && decide ((IntKind.wrap .i64 ((o1.length : Int) - 1)).toNat < o1.length)) (some ((), ((o0.1, o0.2.1, (), o0.2.2.2.1, o0.2.2.2.2.1, ()), o1.set ((IntKind.wrap .i64 ((o1.length : Int) - 1)).toNat) ((o1.getD ((IntKind.wrap .i64 ((o1.length : Int) - 1)).toNat) ([] : List Fm)) ++ (([(Fm.mk 0 0 ([]) ([] : List Fm))]).set (((o1.getD ((IntKind.wrap .i64 ((o1.length : Int) - 1)).toNat) ([] : List Fm)).length : Int).toNat - (o1.getD ((IntKind.wrap .i64 ((o1.length : Int) - 1)).toNat) ([] : List Fm)).length) (Fm.eta x1))), ()))) none) none) none) none) none) none) none))
def A_rput : An := .leaf
def H_rput : Nat → RH := fun r => match r with
 | 2 => { pair := some ([0], 1, 2, [3]) }
 | 3 => { H := { mb := [19], pl := [20], ty := [(19, (.pr (.slice .form) .un)), (23, (.pr (.slice .form) (.pr .un .un)))] } }
 | 5 => { H := { mb := [37], pl := [29, 38], cl := [29], ty := [(37, (.pr (.slice .form) .un)), (40, (.pr (.slice .form) .un))] } }
 | _ => {}
noncomputable def S_rput : Sig := .o { pre := [(false, .cells 81 [(.d .str), (.d (.int .i64)), (.gs 1 (.slice .form)), (.d .bool), (.d (.int .i64))]), (false, .stk .form 24)], args := [(.ref 0 0), (.d .form)], post := [(true, .cells 81 [(.d .str), (.d (.int .i64)), (.gs 1 (.slice .form)), (.d .bool), (.d (.int .i64))]), (false, .stk .form 24)], res := (.tup []), f := fun x => G_rput x.1.2.1 x.2.1 x.2.2.1 }
theorem S_rput_ok : SigOK CX 107 S_rput := sigO_of (l := []) trivial (hint := H_rput) (an := A_rput) (by kernel_rfl) (fun x => by kernel_rfl)
noncomputable def G_rquoted (o0 : (List UInt8) × Int × Unit × Bool × Int × Unit) (o1 : List (List Fm)) : Option ((Unit) × (((List UInt8) × Int × Unit × Bool × Int × Unit) × (List (List Fm)) × Unit)) := (
 Option.bind (α := Step ((Unit × Unit × Unit) × (((List UInt8) × Int × Unit × Bool × Int × Unit) × (List (List Fm)) × (List Int) × Unit)) ((Unit) × (((List UInt8) × Int × Unit × Bool × Int × Unit) × (List (List Fm)) × Unit)))
 (loopM (L := (Unit × Unit × Unit) × (((List UInt8) × Int × Unit × Bool × Int × Unit) × (List (List Fm)) × (List Int) × Unit)) (R := Step ((Unit × Unit × Unit) × (((List UInt8) × Int × Unit × Bool × Int × Unit) × (List (List Fm)) × (List Int) × Unit)) ((Unit) × (((List UInt8) × Int × Unit × Bool × Int × Unit) × (List (List Fm)) × Unit))) (fun d1 => (
 let l2 := d1.2.2.1
 let l3 := d1.2.2.2.1
 cond ((ixOK d1.2.1.2.1 d1.2.1.1.length) || !(decide (d1.2.1.2.1 < (d1.2.1.1.length : Int)))) (cond (cond (decide (d1.2.1.2.1 < (d1.2.1.1.length : Int))) (!decide (byteAt d1.2.1.1 d1.2.1.2.1 = 34)) false) (cond (ixOK d1.2.1.2.1 d1.2.1.1.length) (Option.bind (α := Step ((Unit × Unit × Int × Unit) × (((List UInt8) × Int × Unit × Bool × Int × Unit) × (List (List Fm)) × (List Int) × Unit)) (Step ((Unit × Unit × Unit) × (((List UInt8) × Int × Unit × Bool × Int × Unit) × (List (List Fm)) × (List Int) × Unit)) (Step ((Unit × Unit × Unit) × (((List UInt8) × Int × Unit × Bool × Int × Unit) × (List (List Fm)) × (List Int) × Unit)) ((Unit) × (((List UInt8) × Int × Unit × Bool × Int × Unit) × (List (List Fm)) × Unit)))))
 (cond (decide (byteAt d1.2.1.1 d1.2.1.2.1 = 92)) (cond (decide (IntKind.wrap .i64 (d1.2.1.2.1 + 1) = (d1.2.1.1.length : Int))) (some (Step.done (Step.done (Step.next (((), (), ()), ((d1.2.1.1, IntKind.wrap .i64 (d1.2.1.2.1 + 1), (), d1.2.1.2.2.2.1, d1.2.1.2.2.2.2.1, ()), l2, l3, ())))))) (cond (ixOK (IntKind.wrap .i64 (d1.2.1.2.1 + 1)) d1.2.1.1.length) (cond (decide (byteAt d1.2.1.1 (IntKind.wrap .i64 (d1.2.1.2.1 + 1)) = 110)) (some (Step.next (((), (), 10, ()), ((d1.2.1.1, IntKind.wrap .i64 (IntKind.wrap .i64 (d1.2.1.2.1 + 1) + 1), (), d1.2.1.2.2.2.1, d1.2.1.2.2.2.2.1, ()), l2, l3, ())))) (Option.bind (α := (Unit × Unit × Int × Bool × Unit) × (((List UInt8) × Int × Unit × Bool × Int × Unit) × (List (List Fm)) × (List Int) × Unit))
 (cond (decide (byteAt d1.2.1.1 (IntKind.wrap .i64 (d1.2.1.2.1 + 1)) = 34)) (some (((), (), byteAt d1.2.1.1 (IntKind.wrap .i64 (d1.2.1.2.1 + 1)), decide (byteAt d1.2.1.1 (IntKind.wrap .i64 (d1.2.1.2.1 + 1)) = 34), ()), ((d1.2.1.1, IntKind.wrap .i64 (IntKind.wrap .i64 (d1.2.1.2.1 + 1) + 1), (), d1.2.1.2.2.2.1, d1.2.1.2.2.2.2.1, ()), l2, l3, ()))) (some (((), (), byteAt d1.2.1.1 (IntKind.wrap .i64 (d1.2.1.2.1 + 1)), decide (byteAt d1.2.1.1 (IntKind.wrap .i64 (d1.2.1.2.1 + 1)) = 92), ()), ((d1.2.1.1, IntKind.wrap .i64 (IntKind.wrap .i64 (d1.2.1.2.1 + 1) + 1), (), d1.2.1.2.2.2.1, d1.2.1.2.2.2.2.1, ()), l2, l3, ())))) fun d4 => (
 let l5 := d4.2.2.1
 let l6 := d4.2.2.2.1
 let v3_7 := d4.1.2.2.1
 let v83_8 := d4.1.2.2.2.1
 cond v83_8 (some (Step.next (((), (), v3_7, ()), ((d4.2.1.1, d4.2.1.2.1, (), d4.2.1.2.2.2.1, d4.2.1.2.2.2.2.1, ()), l5, l6, ())))) (some (Step.done (Step.done (Step.done ((), ((d4.2.1.1, d4.2.1.2.1, (), d4.2.1.2.2.2.1, 4, ()), l5, ()))))))))) none)) (cond (cond (decide (byteAt d1.2.1.1 d1.2.1.2.1 < 32)) true (decide (byteAt d1.2.1.1 d1.2.1.2.1 > 126))) (some (Step.done (Step.done (Step.done ((), ((d1.2.1.1, IntKind.wrap .i64 (d1.2.1.2.1 + 1), (), d1.2.1.2.2.2.1, 4, ()), l2, ())))))) (some (Step.next (((), (), byteAt d1.2.1.1 d1.2.1.2.1, ()), ((d1.2.1.1, IntKind.wrap .i64 (d1.2.1.2.1 + 1), (), d1.2.1.2.2.2.1, d1.2.1.2.2.2.2.1, ()), l2, l3, ())))))) fun qd9 => match qd9 with
 | .next d9 => (
 let l10 := d9.2.2.1
 let l11 := d9.2.2.2.1
 let v3_12 := d9.1.2.2.1
 cond (decide ((l11.length + ([v3_12]).length) * 1 ≤ 140737488355328)) (some (Step.next (((), (), ()), ((d9.2.1.1, d9.2.1.2.1, (), d9.2.1.2.2.2.1, d9.2.1.2.2.2.2.1, ()), l10, l11 ++ ([v3_12]), ())))) none)
 | .done r => some r) none) (some (Step.done (Step.next (((), (), ()), ((d1.2.1.1, d1.2.1.2.1, (), d1.2.1.2.2.2.1, d1.2.1.2.2.2.2.1, ()), l2, l3, ())))))) none)) (((), (), ()), ((o0.1, IntKind.wrap .i64 (o0.2.1 + 1), (), o0.2.2.2.1, o0.2.2.2.2.1, ()), o1, ([] : List Int), ()))) fun qd13 => match qd13 with
 | .next d13 => (
 let l14 := d13.2.2.1
 let l15 := d13.2.2.2.1
 cond (decide (d13.2.1.2.1 = (d13.2.1.1.length : Int))) (some ((), ((d13.2.1.1, d13.2.1.2.1, (), d13.2.1.2.2.2.1, 12, ()), l14, ()))) (Option.bind (α := (Unit × Unit × Unit) × (((List UInt8) × Int × Unit × Bool × Int × Unit) × (List (List Fm)) × (List Int) × Unit))
 (cond (decide ((l15.length : Int) > 2000)) (some (((), (), ()), ((d13.2.1.1, IntKind.wrap .i64 (d13.2.1.2.1 + 1), (), d13.2.1.2.2.2.1, 4, ()), l14, l15, ()))) (some (((), (), ()), ((d13.2.1.1, IntKind.wrap .i64 (d13.2.1.2.1 + 1), (), d13.2.1.2.2.2.1, d13.2.1.2.2.2.2.1, ()), l14, l15, ())))) fun d16 => (
 let l17 := d16.2.2.1
 let l18 := d16.2.2.2.1
 Option.bind (α := (Unit) × (((List UInt8) × Int × Unit × Bool × Int × Unit) × (List (List Fm)) × Unit)) (G_rput (Fm.mk 2 0 (strOf l18) ([] : List Fm)) (d16.2.1.1, d16.2.1.2.1, (), d16.2.1.2.2.2.1, d16.2.1.2.2.2.2.1, ()) l17) fun r19 => (
 some ((), ((r19.2.1.1, r19.2.1.2.1, (), r19.2.1.2.2.2.1, r19.2.1.2.2.2.2.1, ()), r19.2.2.1, ()))))))
 | .done r => some r)
def A_rquoted : An := .seq (.leaf) (.seq (.leaf) (.join true { env := [(0, (.ref 0 0)), (2, (.gs 2 (.int .u8)))], objs := [(true, .cells 81 [(.d .str), (.d (.int .i64)), (.gs 1 (.slice .form)), (.d .bool), (.d (.int .i64))]), (true, .stk .form 24), (false, .tg (.int .u8) 5)] } (.block (.loop { env := [(0, (.ref 0 0)), (2, (.gs 2 (.int .u8)))], objs := [(true, .cells 81 [(.d .str), (.d (.int .i64)), (.gs 1 (.slice .form)), (.d .bool), (.d (.int .i64))]), (true, .stk .form 24), (false, .tg (.int .u8) 5)] } (.seq (.leaf) (.block (.seq (.leaf) (.seq (.leaf) (.join true { env := [(0, (.ref 0 0)), (2, (.gs 2 (.int .u8))), (3, (.d (.int .u8)))], objs := [(true, .cells 81 [(.d .str), (.d (.int .i64)), (.gs 1 (.slice .form)), (.d .bool), (.d (.int .i64))]), (true, .stk .form 24), (false, .tg (.int .u8) 5)] } (.seq (.leaf) (.cond (.seq (.leaf) (.seq (.leaf) (.seq (.leaf) (.seq (.leaf) (.block (.seq (.leaf) (.cond (.leaf) (.join false { env := [(0, (.ref 0 0)), (2, (.gs 2 (.int .u8))), (3, (.d (.int .u8))), (83, (.d .bool))], objs := [(true, .cells 81 [(.d .str), (.d (.int .i64)), (.gs 1 (.slice .form)), (.d .bool), (.d (.int .i64))]), (true, .stk .form 24), (false, .tg (.int .u8) 5)] } (.leaf) (.leaf))))))))) (.leaf))) (.leaf)))))))) (.seq (.leaf) (.seq (.leaf) (.join false { env := [(0, (.ref 0 0)), (2, (.gs 2 (.int .u8)))], objs := [(true, .cells 81 [(.d .str), (.d (.int .i64)), (.gs 1 (.slice .form)), (.d .bool), (.d (.int .i64))]), (true, .stk .form 24), (false, .tg (.int .u8) 5)] } (.leaf) (.frz [2] .leaf))))))
def H_rquoted : Nat → RH := fun r => match r with
 | 17 => { H := { ty := [(98, (.int .u8))] } }
 | 23 => { H := { ac := [129] } }
 | _ => {}
noncomputable def S_rquoted : Sig := .o { pre := [(false, .cells 81 [(.d .str), (.d (.int .i64)), (.gs 1 (.slice .form)), (.d .bool), (.d (.int .i64))]), (false, .stk .form 24)], args := [(.ref 0 0)], post := [(true, .cells 81 [(.d .str), (.d (.int .i64)), (.gs 1 (.slice .form)), (.d .bool), (.d (.int .i64))]), (false, .stk .form 24)], res := (.tup []), f := fun x => G_rquoted x.2.1 x.2.2.1 }
theorem S_rquoted_ok : SigOK CX 108 S_rquoted := sigO_of (l := [(107, S_rput)]) ⟨S_rput_ok, trivial⟩ (hint := H_rquoted) (an := A_rquoted) (by kernel_rfl) (fun x => by kernel_rfl)
noncomputable def G_rtoken (o0 : (List UInt8) × Int × Unit × Bool × Int × Unit) (o1 : List (List Fm)) : Option ((Unit) × (((List UInt8) × Int × Unit × Bool × Int × Unit) × (List (List Fm)) × Unit)) := (
 Option.bind (α := (Unit × Int × Unit) × (((List UInt8) × Int × Unit × Bool × Int × Unit) × (List (List Fm)) × Unit))
 (loopM (L := (Unit × Int × Unit) × (((List UInt8) × Int × Unit × Bool × Int × Unit) × (List (List Fm)) × Unit)) (R := (Unit × Int × Unit) × (((List UInt8) × Int × Unit × Bool × Int × Unit) × (List (List Fm)) × Unit)) (fun d1 => (
 let l2 := d1.2.2.1
 let v2_3 := d1.1.2.1
 cond ((ixOK d1.2.1.2.1 d1.2.1.1.length) || !(decide (d1.2.1.2.1 < (d1.2.1.1.length : Int)))) (Option.bind (α := Bool) (cond (decide (d1.2.1.2.1 < (d1.2.1.1.length : Int))) (G_rvisible (byteAt d1.2.1.1 d1.2.1.2.1)) (some false)) fun r4 => (
 cond (cond (decide (d1.2.1.2.1 < (d1.2.1.1.length : Int))) r4 false) (some (Step.next (((), v2_3, ()), ((d1.2.1.1, IntKind.wrap .i64 (d1.2.1.2.1 + 1), (), d1.2.1.2.2.2.1, d1.2.1.2.2.2.2.1, ()), l2, ())))) (some (Step.done (((), v2_3, ()), ((d1.2.1.1, d1.2.1.2.1, (), d1.2.1.2.2.2.1, d1.2.1.2.2.2.2.1, ()), l2, ())))))) none)) (((), o0.2.1, ()), ((o0.1, o0.2.1, (), o0.2.2.2.1, o0.2.2.2.2.1, ()), o1, ()))) fun d5 => (
 let l6 := d5.2.2.1
 let v2_7 := d5.1.2.1
 cond (slOK v2_7 d5.2.1.2.1 d5.2.1.1.length) (Option.bind (α := Bool) (G_rDigits ((d5.2.1.1.drop v2_7.toNat).take (d5.2.1.2.1.toNat - v2_7.toNat))) fun r8 => (
 cond (!r8) (Option.bind (α := (Unit × (List UInt8) × Unit) × (((List UInt8) × Int × Unit × Bool × Int × Unit) × (List (List Fm)) × Unit))
 (cond (decide ((((d5.2.1.1.drop v2_7.toNat).take (d5.2.1.2.1.toNat - v2_7.toNat)).length : Int) > 30)) (some (((), (d5.2.1.1.drop v2_7.toNat).take (d5.2.1.2.1.toNat - v2_7.toNat), ()), ((d5.2.1.1, d5.2.1.2.1, (), d5.2.1.2.2.2.1, 4, ()), l6, ()))) (some (((), (d5.2.1.1.drop v2_7.toNat).take (d5.2.1.2.1.toNat - v2_7.toNat), ()), ((d5.2.1.1, d5.2.1.2.1, (), d5.2.1.2.2.2.1, d5.2.1.2.2.2.2.1, ()), l6, ())))) fun d9 => (
 let l10 := d9.2.2.1
 let v3_11 := d9.1.2.1
 Option.bind (α := Fm) (G_rword v3_11) fun r12 => (
 Option.bind (α := (Unit) × (((List UInt8) × Int × Unit × Bool × Int × Unit) × (List (List Fm)) × Unit)) (G_rput (Fm.eta r12) (d9.2.1.1, d9.2.1.2.1, (), d9.2.1.2.2.2.1, d9.2.1.2.2.2.2.1, ()) l10) fun r13 => (
 some ((), ((r13.2.1.1, r13.2.1.2.1, (), r13.2.1.2.2.2.1, r13.2.1.2.2.2.2.1, ()), r13.2.2.1, ())))))) (Option.bind (α := Int × Bool × Bool × Unit) (G_rnumber ((d5.2.1.1.drop v2_7.toNat).take (d5.2.1.2.1.toNat - v2_7.toNat))) fun r14 => (
 Option.bind (α := (Unit × Int × Unit) × (((List UInt8) × Int × Unit × Bool × Int × Unit) × (List (List Fm)) × Unit))
 (cond (!r14.2.1) (some (((), r14.1, ()), ((d5.2.1.1, d5.2.1.2.1, (), d5.2.1.2.2.2.1, 4, ()), l6, ()))) (cond (!r14.2.2.1) (some (((), r14.1, ()), ((d5.2.1.1, d5.2.1.2.1, (), d5.2.1.2.2.2.1, 5, ()), l6, ()))) (some (((), r14.1, ()), ((d5.2.1.1, d5.2.1.2.1, (), d5.2.1.2.2.2.1, d5.2.1.2.2.2.2.1, ()), l6, ()))))) fun d15 => (
 let l16 := d15.2.2.1
 let v4_17 := d15.1.2.1
 Option.bind (α := Fm) (G_rnum v4_17) fun r18 => (
 Option.bind (α := (Unit) × (((List UInt8) × Int × Unit × Bool × Int × Unit) × (List (List Fm)) × Unit)) (G_rput (Fm.eta r18) (d15.2.1.1, d15.2.1.2.1, (), d15.2.1.2.2.2.1, d15.2.1.2.2.2.2.1, ()) l16) fun r19 => (
 some ((), ((r19.2.1.1, r19.2.1.2.1, (), r19.2.1.2.2.2.1, r19.2.1.2.2.2.2.1, ()), r19.2.2.1, ()))))))))) none))
def A_rtoken : An := .seq (.leaf) (.join false { env := [(0, (.ref 0 0)), (2, (.d (.int .i64)))], objs := [(true, .cells 81 [(.d .str), (.d (.int .i64)), (.gs 1 (.slice .form)), (.d .bool), (.d (.int .i64))]), (true, .stk .form 24)] } (.block (.loop { env := [(0, (.ref 0 0)), (2, (.d (.int .i64)))], objs := [(true, .cells 81 [(.d .str), (.d (.int .i64)), (.gs 1 (.slice .form)), (.d .bool), (.d (.int .i64))]), (true, .stk .form 24)] } (.leaf))) (.seq (.leaf) (.seq (.seq (.leaf) (.cond (.join false { env := [(0, (.ref 0 0)), (3, (.d .str))], objs := [(true, .cells 81 [(.d .str), (.d (.int .i64)), (.gs 1 (.slice .form)), (.d .bool), (.d (.int .i64))]), (true, .stk .form 24)] } (.leaf) (.leaf)) (.leaf))) (.seq (.leaf) (.join false { env := [(0, (.ref 0 0)), (4, (.d (.int .i64)))], objs := [(true, .cells 81 [(.d .str), (.d (.int .i64)), (.gs 1 (.slice .form)), (.d .bool), (.d (.int .i64))]), (true, .stk .form 24)] } (.leaf) (.leaf))))))
def H_rtoken : Nat → RH := fun r => match r with
 | 7 => { H := { ac := [62] } }
 | 13 => { H := { ac := [82] } }
 | _ => {}
noncomputable def S_rtoken : Sig := .o { pre := [(false, .cells 81 [(.d .str), (.d (.int .i64)), (.gs 1 (.slice .form)), (.d .bool), (.d (.int .i64))]), (false, .stk .form 24)], args := [(.ref 0 0)], post := [(true, .cells 81 [(.d .str), (.d (.int .i64)), (.gs 1 (.slice .form)), (.d .bool), (.d (.int .i64))]), (false, .stk .form 24)], res := (.tup []), f := fun x => G_rtoken x.2.1 x.2.2.1 }
theorem S_rtoken_ok : SigOK CX 110 S_rtoken := sigO_of (l := [(109, S_rvisible), (142, S_rDigits), (143, S_rword), (107, S_rput), (144, S_rnumber), (48, S_rnum)]) ⟨S_rvisible_ok, S_rDigits_ok, S_rword_ok, S_rput_ok, S_rnumber_ok, S_rnum_ok, trivial⟩ (hint := H_rtoken) (an := A_rtoken) (by kernel_rfl) (fun x => by kernel_rfl)
noncomputable def G_rstep (o0 : (List UInt8) × Int × Unit × Bool × Int × Unit) (o1 : List (List Fm)) : Option ((Unit) × (((List UInt8) × Int × Unit × Bool × Int × Unit) × (List (List Fm)) × Unit)) := (
 cond (ixOK o0.2.1 o0.1.length) (cond (cond (cond (decide (byteAt o0.1 o0.2.1 = 32)) true (decide (byteAt o0.1 o0.2.1 = 9))) true (decide (byteAt o0.1 o0.2.1 = 10))) (some ((), ((o0.1, IntKind.wrap .i64 (o0.2.1 + 1), (), false, o0.2.2.2.2.1, ()), o1, ()))) (cond (decide (byteAt o0.1 o0.2.1 = 59)) (loopM (L := (Unit × Unit) × (((List UInt8) × Int × Unit × Bool × Int × Unit) × (List (List Fm)) × Unit)) (R := (Unit) × (((List UInt8) × Int × Unit × Bool × Int × Unit) × (List (List Fm)) × Unit)) (fun d1 => (
 let l2 := d1.2.2.1
 cond ((ixOK d1.2.1.2.1 d1.2.1.1.length) || !(decide (d1.2.1.2.1 < (d1.2.1.1.length : Int)))) (cond (cond (decide (d1.2.1.2.1 < (d1.2.1.1.length : Int))) (!decide (byteAt d1.2.1.1 d1.2.1.2.1 = 10)) false) (some (Step.next (((), ()), ((d1.2.1.1, IntKind.wrap .i64 (d1.2.1.2.1 + 1), (), d1.2.1.2.2.2.1, d1.2.1.2.2.2.2.1, ()), l2, ())))) (some (Step.done ((), ((d1.2.1.1, d1.2.1.2.1, (), d1.2.1.2.2.2.1, d1.2.1.2.2.2.2.1, ()), l2, ()))))) none)) (((), ()), ((o0.1, o0.2.1, (), false, o0.2.2.2.2.1, ()), o1, ()))) (cond (decide (byteAt o0.1 o0.2.1 = 40)) (cond (decide ((o1.length + 1) * 24 ≤ 140737488355328)) (some ((), ((o0.1, IntKind.wrap .i64 (o0.2.1 + 1), (), false, o0.2.2.2.2.1, ()), o1 ++ [([] : List Fm)], ()))) none) (cond (decide (byteAt o0.1 o0.2.1 = 41)) (cond (decide (IntKind.wrap .i64 ((o1.length : Int) - 1) = 0)) (some ((), ((o0.1, IntKind.wrap .i64 (o0.2.1 + 1), (), false, 4, ()), o1, ()))) (cond (ixOK (IntKind.wrap .i64 ((o1.length : Int) - 1)) o1.length) (cond (decide ((IntKind.wrap .i64 ((o1.length : Int) - 1)).toNat < o1.length)) (Option.bind (α := Fm) (G_refList (o1.getD ((IntKind.wrap .i64 ((o1.length : Int) - 1)).toNat) ([] : List Fm))) fun r3 => (
 cond (hiOK (IntKind.wrap .i64 ((o1.length : Int) - 1)) o1.length) (Option.bind (α := (Unit) × (((List UInt8) × Int × Unit × Bool × Int × Unit) × (List (List Fm)) × Unit)) (G_rput (Fm.eta r3) (o0.1, IntKind.wrap .i64 (o0.2.1 + 1), (), false, o0.2.2.2.2.1, ()) (o1.take (IntKind.wrap .i64 ((o1.length : Int) - 1)).toNat)) fun r4 => (
 some ((), ((r4.2.1.1, r4.2.1.2.1, (), r4.2.1.2.2.2.1, r4.2.1.2.2.2.2.1, ()), r4.2.2.1, ())))) none)) none) none)) (cond o0.2.2.2.1 (some ((), ((o0.1, o0.2.1, (), false, 4, ()), o1, ()))) (cond (decide (byteAt o0.1 o0.2.1 = 34)) (Option.bind (α := (Unit) × (((List UInt8) × Int × Unit × Bool × Int × Unit) × (List (List Fm)) × Unit)) (G_rquoted (o0.1, o0.2.1, (), false, o0.2.2.2.2.1, ()) o1) fun r5 => (
 some ((), ((r5.2.1.1, r5.2.1.2.1, (), true, r5.2.1.2.2.2.2.1, ()), r5.2.2.1, ())))) (Option.bind (α := Bool) (G_rvisible (byteAt o0.1 o0.2.1)) fun r6 => (
 cond r6 (Option.bind (α := (Unit) × (((List UInt8) × Int × Unit × Bool × Int × Unit) × (List (List Fm)) × Unit)) (G_rtoken (o0.1, o0.2.1, (), false, o0.2.2.2.2.1, ()) o1) fun r7 => (
 some ((), ((r7.2.1.1, r7.2.1.2.1, (), true, r7.2.1.2.2.2.2.1, ()), r7.2.2.1, ())))) (some ((), ((o0.1, o0.2.1, (), false, 4, ()), o1, ()))))))))))) none)
def A_rstep : An := .seq (.leaf) (.seq (.leaf) (.seq (.leaf) (.block (.seq (.leaf) (.cond (.leaf) (.seq (.leaf) (.cond (.block (.loop { env := [(0, (.ref 0 0))], objs := [(true, .cells 81 [(.d .str), (.d (.int .i64)), (.gs 1 (.slice .form)), (.d .bool), (.d (.int .i64))]), (true, .stk .form 24)] } (.leaf))) (.leaf))))))))
def H_rstep : Nat → RH := fun r => match r with
 | 11 => { H := { ty := [(91, (.pr (.slice .form) .un))] } }
 | 18 => { H := { mb := [129], ty := [(129, (.pr (.slice .form) .un))] } }
 | 19 => { H := { ac := [134] } }
 | 23 => { H := { ac := [144] } }
 | 26 => { H := { ac := [152] } }
 | _ => {}
noncomputable def S_rstep : Sig := .o { pre := [(false, .cells 81 [(.d .str), (.d (.int .i64)), (.gs 1 (.slice .form)), (.d .bool), (.d (.int .i64))]), (false, .stk .form 24)], args := [(.ref 0 0)], post := [(true, .cells 81 [(.d .str), (.d (.int .i64)), (.gs 1 (.slice .form)), (.d .bool), (.d (.int .i64))]), (false, .stk .form 24)], res := (.tup []), f := fun x => G_rstep x.2.1 x.2.2.1 }
theorem S_rstep_ok : SigOK CX 62 S_rstep := sigO_of (l := [(53, S_refList), (107, S_rput), (108, S_rquoted), (109, S_rvisible), (110, S_rtoken)]) ⟨S_refList_ok, S_rput_ok, S_rquoted_ok, S_rvisible_ok, S_rtoken_ok, trivial⟩ (hint := H_rstep) (an := A_rstep) (by kernel_rfl) (fun x => by kernel_rfl)
noncomputable def G_rRead (x0 : List UInt8) : Option ((List Fm) × Int × Unit) := (
 cond (decide ((x0.length : Int) > 60000)) (some (([] : List Fm), 2, ())) (Option.bind (α := (Unit × Unit) × (((List UInt8) × Int × Unit × Bool × Int × Unit) × (List (List Fm)) × Unit))
 (loopM (L := ((List UInt8) × Unit × Unit) × (((List UInt8) × Int × Unit × Bool × Int × Unit) × (List (List Fm)) × Unit)) (R := (Unit × Unit) × (((List UInt8) × Int × Unit × Bool × Int × Unit) × (List (List Fm)) × Unit)) (fun d1 => (
 let l2 := d1.2.2.1
 let v0_3 := d1.1.1
 cond (cond (decide (d1.2.1.2.1 < (v0_3.length : Int))) (decide (d1.2.1.2.2.2.2.1 = 0)) false) (Option.bind (α := (Unit) × (((List UInt8) × Int × Unit × Bool × Int × Unit) × (List (List Fm)) × Unit)) (G_rstep (d1.2.1.1, d1.2.1.2.1, (), d1.2.1.2.2.2.1, d1.2.1.2.2.2.2.1, ()) l2) fun r4 => (
 some (Step.next ((v0_3, (), ()), ((r4.2.1.1, r4.2.1.2.1, (), r4.2.1.2.2.2.1, r4.2.1.2.2.2.2.1, ()), r4.2.2.1, ()))))) (some (Step.done (((), ()), ((d1.2.1.1, d1.2.1.2.1, (), d1.2.1.2.2.2.1, d1.2.1.2.2.2.2.1, ()), l2, ())))))) ((x0, (), ()), ((x0, 0, (), false, 0, ()), [([] : List Fm)], ()))) fun d5 => (
 let l6 := d5.2.2.1
 Option.bind (α := (Unit × Unit) × (((List UInt8) × Int × Unit × Bool × Int × Unit) × (List (List Fm)) × Unit))
 (cond (cond (decide (d5.2.1.2.2.2.2.1 = 0)) (decide ((l6.length : Int) > 1)) false) (some (((), ()), ((d5.2.1.1, d5.2.1.2.1, (), d5.2.1.2.2.2.1, 12, ()), l6, ()))) (some (((), ()), ((d5.2.1.1, d5.2.1.2.1, (), d5.2.1.2.2.2.1, d5.2.1.2.2.2.2.1, ()), l6, ())))) fun d7 => (
 let l8 := d7.2.2.1
 cond (!decide (d7.2.1.2.2.2.2.1 = 0)) (some (([] : List Fm), d7.2.1.2.2.2.2.1, ())) (Option.bind (α := Step ((Unit × Unit) × (((List UInt8) × Int × Unit × Bool × Int × Unit) × (List (List Fm)) × Unit)) ((List Fm) × Int × Unit))
 (loopM (L := (Unit × Int × Unit) × (((List UInt8) × Int × Unit × Bool × Int × Unit) × (List (List Fm)) × Unit)) (R := Step ((Unit × Unit) × (((List UInt8) × Int × Unit × Bool × Int × Unit) × (List (List Fm)) × Unit)) ((List Fm) × Int × Unit)) (fun d9 => (
 let l10 := d9.2.2.1
 let v5_11 := d9.1.2.1
 cond (ixOK 0 l10.length) (cond (decide ((0 : Int).toNat < l10.length)) (cond (decide (v5_11 < ((l10.getD ((0 : Int).toNat) ([] : List Fm)).length : Int))) (cond (ixOK 0 l10.length) (cond (decide ((0 : Int).toNat < l10.length)) (cond (ixOK v5_11 (l10.getD ((0 : Int).toNat) ([] : List Fm)).length) (Option.bind (α := Bool) (G_small1 (Fm.eta ((l10.getD ((0 : Int).toNat) ([] : List Fm)).getD v5_11.toNat (Fm.mk 0 0 [] [])))) fun r12 => (
 cond (!r12) (some (Step.done (Step.done (([] : List Fm), 2, ())))) (some (Step.next (((), IntKind.wrap .i64 (v5_11 + 1), ()), ((d9.2.1.1, d9.2.1.2.1, (), d9.2.1.2.2.2.1, d9.2.1.2.2.2.2.1, ()), l10, ())))))) none) none) none) (some (Step.done (Step.next (((), ()), ((d9.2.1.1, d9.2.1.2.1, (), d9.2.1.2.2.2.1, d9.2.1.2.2.2.2.1, ()), l10, ())))))) none) none)) (((), 0, ()), ((d7.2.1.1, d7.2.1.2.1, (), d7.2.1.2.2.2.1, d7.2.1.2.2.2.2.1, ()), l8, ()))) fun qd13 => match qd13 with
 | .next d13 => (
 let l14 := d13.2.2.1
 cond (ixOK 0 l14.length) (cond (decide ((0 : Int).toNat < l14.length)) (some ((l14.getD ((0 : Int).toNat) ([] : List Fm)), 0, ())) none) none)
 | .done r => some r)))))
def A_rRead : An := .seq (.leaf) (.seq (.leaf) (.seq (.leaf) (.join false { env := [(4, (.ref 0 0))], objs := [(false, .cells 81 [(.d .str), (.d (.int .i64)), (.gs 1 (.slice .form)), (.d .bool), (.d (.int .i64))]), (false, .stk .form 24)] } (.block (.loop { env := [(0, (.d .str)), (4, (.ref 0 0))], objs := [(false, .cells 81 [(.d .str), (.d (.int .i64)), (.gs 1 (.slice .form)), (.d .bool), (.d (.int .i64))]), (false, .stk .form 24)] } (.leaf))) (.join false { env := [(4, (.ref 0 0))], objs := [(false, .cells 81 [(.d .str), (.d (.int .i64)), (.gs 1 (.slice .form)), (.d .bool), (.d (.int .i64))]), (false, .stk .form 24)] } (.leaf) (.seq (.leaf) (.join true { env := [(4, (.ref 0 0))], objs := [(false, .cells 81 [(.d .str), (.d (.int .i64)), (.gs 1 (.slice .form)), (.d .bool), (.d (.int .i64))]), (false, .stk .form 24)] } (.seq (.leaf) (.block (.loop { env := [(4, (.ref 0 0)), (5, (.d (.int .i64)))], objs := [(false, .cells 81 [(.d .str), (.d (.int .i64)), (.gs 1 (.slice .form)), (.d .bool), (.d (.int .i64))]), (false, .stk .form 24)] } (.leaf)))) (.leaf)))))))
def H_rRead : Nat → RH := fun r => match r with
 | 3 => { H := { mb := [10, 12], ty := [(10, (.pr (.slice .form) .un))] } }
 | 5 => { H := { ac := [28] } }
 | _ => {}
noncomputable def S_rRead : Sig := .n [(.d .str)] (.tup [(.d (.slice .form)), (.d (.int .i64))]) (fun x => G_rRead x.1)
theorem S_rRead_ok : SigOK CX 21 S_rRead := sigN_of (l := [(62, S_rstep), (63, S_small1)]) ⟨S_rstep_ok, S_small1_ok, trivial⟩ (hint := H_rRead) (an := A_rRead) (fun x => by kernel_rfl)
noncomputable def G_rOne (x0 : List UInt8) : Option (Fm × Int × Unit) := (
 Option.bind (α := (List Fm) × Int × Unit) (G_rRead x0) fun r1 => (
 Option.bind (α := (Unit × (List Fm) × Int × Unit) × ((Int × Int × (List UInt8) × Unit × Unit) × Unit))
 (cond (cond (decide (r1.2.1 = 0)) (!decide ((r1.1.length : Int) = 1)) false) (some (((), r1.1, 4, ()), ((0, 0, [], (), ()), ()))) (some (((), r1.1, r1.2.1, ()), ((0, 0, [], (), ()), ())))) fun d2 => (
 let v4_3 := d2.1.2.1
 let v5_4 := d2.1.2.2.1
 cond (!decide (v5_4 = 0)) (some ((Fm.mk 0 0 ([]) ([] : List Fm)), v5_4, ())) (cond (ixOK 0 v4_3.length) (some ((Fm.eta (v4_3.getD (0 : Int).toNat (Fm.mk 0 0 [] []))), 0, ())) none))))
def A_rOne : An := .seq (.leaf) (.seq (.leaf) (.join false { env := [(2, (.ref 0 0)), (4, (.d (.slice .form))), (5, (.d (.int .i64)))], objs := [(false, .cells 26 [(.d (.int .i64)), (.d (.int .i64)), (.d .str), (.c (.base (.slice none 0 0)))])] } (.leaf) (.leaf)))
def H_rOne : Nat → RH := fun _ => {}
noncomputable def S_rOne : Sig := .n [(.d .str)] (.tup [(.d .form), (.d (.int .i64))]) (fun x => G_rOne x.1)
theorem S_rOne_ok : SigOK CX 23 S_rOne := sigN_of (l := [(21, S_rRead)]) ⟨S_rRead_ok, trivial⟩ (hint := H_rOne) (an := A_rOne) (fun x => by kernel_rfl)
end Go.Ab

namespace Go.Ab
open Go Go.RowKit
mutual
def eqSh : (s : Sh) → s.den → s.den → Bool
 | .d e, x, y => eqE e x y
 | .c _, _, _ => true
 | .ref _ _, _, _ => true
 | .gs _ _, _, _ => true
 | .mref _ _, x, y => eqBl x y
 | .gv _ _, _, _ => false
 | .agg l, x, y => eqShL l x y
 | .tup l, x, y => eqShL l x y
 | .rptr l, x, y => eqShL l x y
 | .fn _ _ _, _, _ => false
 | .iface _ s, x, y => eqSh s x y
def eqShL : (l : List Sh) → Sh.denL l → Sh.denL l → Bool
 | [], _, _ => true
 | s :: l, x, y => eqSh s x.1 y.1 && eqShL l x.2 y.2
end
mutual
theorem eqSh_sound : ∀ (s : Sh) (x y : s.den), eqSh s x y = true → x = y
 | .d e, x, y, h => eqE_sound e x y h
 | .c _, x, y, h => rfl
 | .ref _ _, x, y, h => rfl
 | .gs _ _, x, y, h => rfl
 | .mref _ _, x, y, h => eqBl_sound x y h
 | .gv _ _, x, y, h => by cases h
 | .agg l, x, y, h => eqShL_sound l x y h
 | .tup l, x, y, h => eqShL_sound l x y h
 | .rptr l, x, y, h => eqShL_sound l x y h
 | .fn _ _ _, x, y, h => by cases h
 | .iface _ s, x, y, h => eqSh_sound s x y h
theorem eqShL_sound : ∀ (l : List Sh) (x y : Sh.denL l), eqShL l x y = true → x = y
 | [], x, y, h => rfl
 | s :: l, (x1, x2), (y1, y2), h => by
  have h : (eqSh s x1 y1 && eqShL l x2 y2) = true := h
  rw [Bool.and_eq_true] at h
  rw [eqSh_sound s x1 y1 h.1, eqShL_sound l x2 y2 h.2]
end
def mgE (res : Sh) (a b : Option res.den) : Option res.den := match a with
 | some x => match b with
  | some y => match eqSh res x y with
   | true => some x
   | false => none
  | none => none
 | none => none
theorem mgE_ok (res : Sh) : MgOK (mgE res) := fun a b r h => by
 unfold mgE at h
 split at h
 ·rename_i x
  split at h
  ·rename_i y
   split at h
   ·rename_i e; cases h; exact ⟨rfl, by rw [eqSh_sound res _ _ e]⟩
   ·cases h
  ·cases h
 ·cases h
def atF (args : List Sh) {R : Type} (x : Sh.denL args) (r : R) (y : Sh.denL args) : Option R := match eqShL args y x with
 | true => some r
 | false => none
theorem sig_at {C : Cx} {l : List (Nat × Sig)} (ht : TabOK C l) {hint : Nat → RH} {g : FuncId} {args : List Sh} {res : Sh} {an : An} {x : Sh.denL args} {r : res.den}
  (h : yfunM C (sigTab l) hint g (mgE res) (fun fn => finN C fn res) args an x = some r) : SigOK C g (.n args res (atF args x r)) := fun y r' hr => by
 unfold atF at hr
 split at hr
 ·rename_i e
  cases hr
  rw [eqShL_sound args y x e]
  exact yfun_sound (sigTab_ok ht) (mgE_ok res) h fun fn s => ⟨fun e he hf => by
   have hf' : (resA C.P fn.results.toList s.st).bind (fun v => resY s.σ res v id) = some r := by rcases he with rfl | rfl <;> exact hf
   obtain ⟨v, h1, h2⟩ := Option.bind_eq_some_iff.1 hf'
   obtain ⟨y, rfl, h3, h4⟩ := resY_sound h2
   exact ⟨v, h1, h3, _, rfl, h4⟩, (fun v hv => by cases hv), (fun i hi => by cases hi), (fun i hi => by cases hi)⟩
 ·cases hr
end Go.Ab

set_option maxRecDepth 100000
namespace Go.Ab
open Go Go.RowKit Go.Proofs
noncomputable def S_nextE : Sig := .o { pre := [(false, .cells 132 [(.d .str), (.d (.int .i64))])], args := [(.ref 0 0)], post := [(true, .cells 132 [(.d .str), (.d (.int .i64))])], res := (.tup [(.d (.pr (.int .u8) .form)), (.d .bool), (.d (.int .i64))]), f := fun x => E_next 60 x.2.1 }
theorem S_nextE_ok : SigOK CX 104 S_nextE := ⟨S_next_ok.1, fun x r hr => S_next_ok.2 x r (E_next_le 60 _ _ hr)⟩
def parseA : An := .seq .leaf (.seq .leaf (.seq .leaf (.block (.unroll 40 (.block (.joinX [4, 5, 6, 7, 8] .leaf (.seq .leaf (.joinX [4, 5, 6] (.block (.seq .leaf (.cond .leaf (.seq .leaf (.cond .leaf (.seq .leaf (.cond .leaf (.seq .leaf (.cond .leaf (.seq .leaf (.cond .leaf (.seq .leaf (.cond (.seq .leaf (.seq (.frzt [74] .leaf) (.seq .leaf (.cond (.seq (.frzt [79] .leaf) .leaf) (.frzt [79] .leaf))))) .leaf))))))))))))) .leaf))))))))
def parseH : Nat → RH := fun r => match r with
 | 1 => { H := { mb := [13] } }
 | 2 => { H := { mb := [14] } }
 | 3 => { H := { ac := [17] } }
 | 5 => { H := { ty := [(32, .form)] }, pair := some ([0, 1, 2, 3, 4, 5, 6, 7, 8, 9, 11], 10, 12, []) }
 | 19 => { pair := some ([0], 1, 2, [3]) }
 | 20 => { H := { ty := [(92, .form)] } }
 | 22 => { H := { ty := [(105, .form)] } }
 | _ => {}
def text1 : List UInt8 := [40, 102, 32, 49, 32, 34, 97, 92, 110, 98, 34, 32, 40, 103, 41, 41]
def form1 : Fm := .mk 3 0 [] [.mk 1 0 [102] [], .mk 0 1 [] [], .mk 2 0 [97, 10, 98] [], .mk 3 0 [] [.mk 1 0 [103] []]]
theorem parse_run : yfunM CX (sigTab [(104, S_nextE), (105, S_touches)]) parseH 59 (mgE (.tup [.d (.slice .form), .d (.int .i64)])) (fun fn => finN CX fn (.tup [.d (.slice .form), .d (.int .i64)])) [.d .str] parseA (text1, ()) = some ([form1], (0 : Int), ()) := by kernel_rfl
end Go.Ab

set_option maxRecDepth 100000
namespace Go.Ab
open Go Go.RowKit Go.Proofs
noncomputable def S_parse1 : Sig := .n [.d .str] (.tup [.d (.slice .form), .d (.int .i64)]) (atF [.d .str] (text1, ()) ([form1], (0 : Int), ()))
theorem S_parse1_ok : SigOK CX 59 S_parse1 := sig_at (l := [(104, S_nextE), (105, S_touches)]) ⟨S_nextE_ok, S_touches_ok, trivial⟩ parse_run
noncomputable def G_readBad (x0 : Fm) : Option (Bool) := (
 Option.bind (α := Bool) (G_rvalid (Fm.eta x0)) fun r1 => (
 some (!r1)))
def A_readBad : An := .leaf
def H_readBad : Nat → RH := fun _ => {}
noncomputable def S_readBad : Sig := .n [(.d .form)] (.d .bool) (fun x => G_readBad x.1)
theorem S_readBad_ok : SigOK CX 61 S_readBad := sigN_of (l := [(34, S_rvalid)]) ⟨S_rvalid_ok, trivial⟩ (hint := H_readBad) (an := A_readBad) (fun x => by kernel_rfl)
noncomputable def G_indexBad (x0 : List Fm) (x1 : Unit) : Option (Int) := (
 Option.bind (α := Step ((Unit) × (Unit)) (Int))
 (loopM (L := ((List Fm) × Unit × Int × Int × Unit) × (Unit)) (R := Step ((Unit) × (Unit)) (Int)) (fun d1 => (
 let v0_2 := d1.1.1
 let v7_3 := d1.1.2.2.1
 let v8_4 := d1.1.2.2.2.1
 cond (decide (v8_4 < v7_3)) (cond (ixOK v8_4 v0_2.length) (Option.bind (α := Bool) (G_readBad (Fm.eta (v0_2.getD v8_4.toNat (Fm.mk 0 0 [] [])))) fun r5 => (
 cond r5 (some (Step.done (Step.done v8_4))) (some (Step.next ((v0_2, (), v7_3, IntKind.wrap .i64 (v8_4 + 1), ()), ()))))) none) (some (Step.done (Step.next ((), ())))))) ((x0, (), (x0.length : Int), 0, ()), ())) fun qd6 => match qd6 with
 | .next d6 => (
 some (-1))
 | .done r => some r)
def A_indexBad : An := .seq (.leaf) (.join true { env := [], objs := [] } (.seq (.leaf) (.block (.loop { env := [(0, (.d (.slice .form))), (1, (.c (.fn (.func 61) [] []))), (7, (.d (.int .i64))), (8, (.d (.int .i64)))], objs := [] } (.leaf)))) (.leaf))
def H_indexBad : Nat → RH := fun _ => {}
noncomputable def S_indexBad : Sig := .n [(.d (.slice .form)), (.c (.fn (.func 61) [] []))] (.d (.int .i64)) (fun x => G_indexBad x.1 x.2.1)
theorem S_indexBad_ok : SigOK CX 106 S_indexBad := sigN_of (l := [(61, S_readBad)]) ⟨S_readBad_ok, trivial⟩ (hint := H_indexBad) (an := A_indexBad) (fun x => by kernel_rfl)
noncomputable def G_containsBad1 (x0 : List Fm) (x1 : Unit) : Option (Bool) := (
 Option.bind (α := Int) (G_indexBad x0 ()) fun r1 => (
 some (decide (r1 ≥ 0))))
def A_containsBad1 : An := .leaf
def H_containsBad1 : Nat → RH := fun _ => {}
noncomputable def S_containsBad1 : Sig := .n [(.d (.slice .form)), (.c (.fn (.func 61) [] []))] (.d .bool) (fun x => G_containsBad1 x.1 x.2.1)
theorem S_containsBad1_ok : SigOK CX 60 S_containsBad1 := sigN_of (l := [(106, S_indexBad)]) ⟨S_indexBad_ok, trivial⟩ (hint := H_containsBad1) (an := A_containsBad1) (fun x => by kernel_rfl)
noncomputable def G_read1 (x0 : List UInt8) : Option ((List Fm) × Int × Unit) := (
 cond (decide ((x0.length : Int) > 60000)) (some (([] : List Fm), 2, ())) (Option.bind (α := (List Fm) × Int × Unit) (atF [.d .str] (text1, ()) (([form1], (0 : Int), ()) : List Fm × Int × Unit) (x0, ())) fun r1 => (
 cond (!decide (r1.2.1 = 0)) (some (([] : List Fm), r1.2.1, ())) (Option.bind (α := Bool) (G_containsBad1 r1.1 ()) fun r2 => (
 cond r2 (some (([] : List Fm), 2, ())) (some (r1.1, 0, ())))))))
def A_read1 : An := .leaf
def H_read1 : Nat → RH := fun _ => {}
noncomputable def S_read1 : Sig := .n [(.d .str)] (.tup [(.d (.slice .form)), (.d (.int .i64))]) (fun x => G_read1 x.1)
theorem S_read1_ok : SigOK CX 20 S_read1 := sigN_of (l := [(59, S_parse1), (60, S_containsBad1)]) ⟨S_parse1_ok, S_containsBad1_ok, trivial⟩ (hint := H_read1) (an := A_read1) (fun x => by kernel_rfl)
noncomputable def G_one1 (x0 : List UInt8) : Option (Fm × Int × Unit) := (
 Option.bind (α := (List Fm) × Int × Unit) (G_read1 x0) fun r1 => (
 cond (!decide (r1.2.1 = 0)) (some ((Fm.mk 0 0 ([]) ([] : List Fm)), r1.2.1, ())) (cond (!decide ((r1.1.length : Int) = 1)) (some ((Fm.mk 0 0 ([]) ([] : List Fm)), 4, ())) (cond (ixOK 0 r1.1.length) (some ((Fm.eta (r1.1.getD (0 : Int).toNat (Fm.mk 0 0 [] []))), 0, ())) none))))
def A_one1 : An := .leaf
def H_one1 : Nat → RH := fun _ => {}
noncomputable def S_one1 : Sig := .n [(.d .str)] (.tup [(.d .form), (.d (.int .i64))]) (fun x => G_one1 x.1)
theorem S_one1_ok : SigOK CX 22 S_one1 := sigN_of (l := [(20, S_read1)]) ⟨S_read1_ok, trivial⟩ (hint := H_one1) (an := A_one1) (fun x => by kernel_rfl)
noncomputable def G_sane01  : Option (Bool) := (
 Option.bind (α := Fm × Int × Unit) (G_one1 ([40, 102, 32, 49, 32, 34, 97, 92, 110, 98, 34, 32, 40, 103, 41, 41])) fun r1 => (
 Option.bind (α := Int) (cond (decide (r1.2.1 = 0)) (L_size (Fm.eta r1.1)) (some (0 : Int))) fun r2 => (
 Option.bind (α := Int) (cond (cond (decide (r1.2.1 = 0)) (decide (r2 = 6)) false) (L_depth (Fm.eta r1.1)) (some (0 : Int))) fun r3 => (
 Option.bind (α := List UInt8) (cond (cond (cond (decide (r1.2.1 = 0)) (decide (r2 = 6)) false) (decide (r3 = 3)) false) (G_head (Fm.eta r1.1)) (some ([] : List UInt8))) fun r4 => (
 some (cond (cond (cond (decide (r1.2.1 = 0)) (decide (r2 = 6)) false) (decide (r3 = 3)) false) (decide (r4 = [102])) false))))))
def A_sane01 : An := .leaf
def H_sane01 : Nat → RH := fun _ => {}
noncomputable def S_sane01 : Sig := .n [] (.d .bool) (fun x => G_sane01 )
theorem S_sane01_ok : SigOK CX 26 S_sane01 := sigN_of (l := [(22, S_one1), (36, S_size_l), (37, S_depth_l), (41, S_head)]) ⟨S_one1_ok, S_size_l_ok, S_depth_l_ok, S_head_ok, trivial⟩ (hint := H_sane01) (an := A_sane01) (fun x => by kernel_rfl)
end Go.Ab

set_option maxRecDepth 100000
namespace Go.Ab
open Go Go.RowKit Go.Proofs
noncomputable def G_readA (x0 : List UInt8) : Option ((List Fm) × Int × Unit) := (
 cond (decide ((x0.length : Int) > 60000)) (some (([] : List Fm), 2, ())) (Option.bind (α := (List Fm) × Int × Unit) (G_parse x0) fun r1 => (
 cond (!decide (r1.2.1 = 0)) (some (([] : List Fm), r1.2.1, ())) (Option.bind (α := Bool) (G_containsBad1 r1.1 ()) fun r2 => (
 cond r2 (some (([] : List Fm), 2, ())) (some (r1.1, 0, ())))))))
def A_readA : An := .leaf
def H_readA : Nat → RH := fun _ => {}
noncomputable def S_readA : Sig := .n [(.d .str)] (.tup [(.d (.slice .form)), (.d (.int .i64))]) (fun x => G_readA x.1)
theorem S_readA_ok : SigOK CX 20 S_readA := sigN_of (l := [(59, S_parse), (60, S_containsBad1)]) ⟨S_parse_ok, S_containsBad1_ok, trivial⟩ (hint := H_readA) (an := A_readA) (fun x => by kernel_rfl)
noncomputable def G_oneA (x0 : List UInt8) : Option (Fm × Int × Unit) := (
 Option.bind (α := (List Fm) × Int × Unit) (G_readA x0) fun r1 => (
 cond (!decide (r1.2.1 = 0)) (some ((Fm.mk 0 0 ([]) ([] : List Fm)), r1.2.1, ())) (cond (!decide ((r1.1.length : Int) = 1)) (some ((Fm.mk 0 0 ([]) ([] : List Fm)), 4, ())) (cond (ixOK 0 r1.1.length) (some ((Fm.eta (r1.1.getD (0 : Int).toNat (Fm.mk 0 0 [] []))), 0, ())) none))))
def A_oneA : An := .leaf
def H_oneA : Nat → RH := fun _ => {}
noncomputable def S_oneA : Sig := .n [(.d .str)] (.tup [(.d .form), (.d (.int .i64))]) (fun x => G_oneA x.1)
theorem S_oneA_ok : SigOK CX 22 S_oneA := sigN_of (l := [(20, S_readA)]) ⟨S_readA_ok, trivial⟩ (hint := H_oneA) (an := A_oneA) (fun x => by kernel_rfl)
noncomputable def G_refEqAll (x0 : List Fm) (x1 : List Fm) : Option (Bool) := (
 Option.bind (α := Fm) (G_refList x0) fun r1 => (
 Option.bind (α := Fm) (G_refList x1) fun r2 => (
 Option.bind (α := Bool) (G_refEqual (Fm.eta r1) (Fm.eta r2)) fun r3 => (
 some r3))))
def A_refEqAll : An := .leaf
def H_refEqAll : Nat → RH := fun _ => {}
noncomputable def S_refEqAll : Sig := .n [(.d (.slice .form)), (.d (.slice .form))] (.d .bool) (fun x => G_refEqAll x.1 x.2.1)
theorem S_refEqAll_ok : SigOK CX 15 S_refEqAll := sigN_of (l := [(53, S_refList), (25, S_refEqual)]) ⟨S_refList_ok, S_refEqual_ok, trivial⟩ (hint := H_refEqAll) (an := A_refEqAll) (fun x => by kernel_rfl)
noncomputable def G_allA (x0 : List Fm) (x1 : List Fm) : Option (Bool) := (
 Option.bind (α := Bool) (G_refEqAll x0 x1) fun r1 => (
 some (cond r1 (decide ((x0.length : Int) = (x1.length : Int))) false)))
def A_allA : An := .leaf
def H_allA : Nat → RH := fun _ => {}
noncomputable def S_allA : Sig := .n [(.d (.slice .form)), (.d (.slice .form))] (.d .bool) (fun x => G_allA x.1 x.2.1)
theorem S_allA_ok : SigOK CX 24 S_allA := sigN_of (l := [(15, S_refEqAll)]) ⟨S_refEqAll_ok, trivial⟩ (hint := H_allA) (an := A_allA) (fun x => by kernel_rfl)
noncomputable def G_lawReads (x0 : List UInt8) : Option (Bool) := (
 Option.bind (α := (List Fm) × Int × Unit) (G_readA x0) fun r1 => (
 Option.bind (α := (List Fm) × Int × Unit) (G_rRead x0) fun r2 => (
 Option.bind (α := Fm × Int × Unit) (G_oneA x0) fun r3 => (
 Option.bind (α := Fm × Int × Unit) (G_rOne x0) fun r4 => (
 Option.bind (α := Bool) (cond (decide (r1.2.1 = r2.2.1)) (G_allA r1.1 r2.1) (some false)) fun r5 => (
 Option.bind (α := Bool) (cond (cond (cond (decide (r1.2.1 = r2.2.1)) r5 false) (decide (r3.2.1 = r4.2.1)) false) (G_refEqual (Fm.eta r3.1) (Fm.eta r4.1)) (some false)) fun r6 => (
 Option.bind (α := Bool) (cond (cond (cond (cond (decide (r1.2.1 = r2.2.1)) r5 false) (decide (r3.2.1 = r4.2.1)) false) r6 false) (G_sane01) (some false)) fun r7 => (
 some (cond (cond (cond (cond (decide (r1.2.1 = r2.2.1)) r5 false) (decide (r3.2.1 = r4.2.1)) false) r6 false) r7 false)))))))))
def A_lawReads : An := .leaf
def H_lawReads : Nat → RH := fun _ => {}
noncomputable def S_lawReads : Sig := .n [(.d .str)] (.d .bool) (fun x => G_lawReads x.1)
theorem S_lawReads_ok : SigOK CX 4 S_lawReads := sigN_of (l := [(20, S_readA), (21, S_rRead), (22, S_oneA), (23, S_rOne), (24, S_allA), (25, S_refEqual), (26, S_sane01)]) ⟨S_readA_ok, S_rRead_ok, S_oneA_ok, S_rOne_ok, S_allA_ok, S_refEqual_ok, S_sane01_ok, trivial⟩ (hint := H_lawReads) (an := A_lawReads) (fun x => by kernel_rfl)
end Go.Ab

set_option maxRecDepth 100000
namespace Go.Ab
open Go Go.RowKit Go.Proofs
def visS (c : UInt8) : Bool := !outsideS c
def wrdF (w : List UInt8) : Fm := .mk 1 0 w []
def nuF (n : Int) : Fm := .mk 0 n [] []
def tokS (num : List UInt8 → Int × Int) (w : List UInt8) : Int ⊕ Fm :=
 if numericS w = true then (if (num w).2 = 0 then .inr (nuF (num w).1) else .inl (num w).2)
 else if w.length > 30 then .inl 4 else .inr (wrdF w)
theorem yout (c : UInt8) : outsideF ((c.toNat : Nat) : Int) = some (outsideS c) := by
 unfold outsideF
 have := c.toNat_lt
 rw [if_pos (by omega)]
 congr 2
 simp
def NextQ (num : List UInt8 → Int × Int) (s : List UInt8) (i0 : Nat) (v : ((Int × Fm) × Bool × Int × Unit) × (((List UInt8) × Int × Unit) × Unit)) : List UInt8 → Prop
 | [] => v = (((0, Fm.mk 0 0 [] []), false, 0, ()), ((s, (s.length : Int), ()), ()))
 | c :: r =>
  if c = 40 ∨ c = 41 then ∃ j : Nat, v = (((((c.toNat : Nat) : Int), Fm.mk 0 0 [] []), true, 0, ()), ((s, (j : Int), ()), ())) ∧ i0 < j ∧ j ≤ s.length ∧ s.drop j = r
  else if c = 34 then (match textS r [] with
   | .inl e => e ≠ 0 ∧ ∃ (t : Int × Fm) (a : Bool) (j : Int), v = ((t, a, e, ()), ((s, j, ()), ()))
   | .inr (b, q) => ∃ j : Nat, v = (((0, txtF b), true, 0, ()), ((s, (j : Int), ()), ())) ∧ i0 < j ∧ j ≤ s.length ∧ s.drop j = q)
  else if visS c = true then (match tokS num ((c :: r).takeWhile visS) with
   | .inl e => e ≠ 0 ∧ ∃ (t : Int × Fm) (a : Bool) (j : Int), v = ((t, a, e, ()), ((s, j, ()), ()))
   | .inr f => ∃ j : Nat, v = (((0, f), true, 0, ()), ((s, (j : Int), ()), ())) ∧ i0 < j ∧ j ≤ s.length ∧ s.drop j = (c :: r).dropWhile visS)
  else ∃ (t : Int × Fm) (a : Bool) (j : Int), v = ((t, a, 4, ()), ((s, j, ()), ()))
theorem next_val {num : List UInt8 → Int × Int} {s : List UInt8} {i0 : Nat} (hs : s.length ≤ 1000000000) (h0 : i0 ≤ s.length) (hnum : ∀ w : List UInt8, w.length ≤ s.length → numericS w = true → G_numberA w = some ((num w).1, (num w).2, ())) :
  ∃ v, G_nextA (s, (i0 : Int), ()) = some v ∧ NextQ num s i0 v (skipS false (s.drop i0)) := by
 obtain ⟨i, h1, h2, h3, h4, h5⟩ := skip_val hs h0
 rw [← h4]
 unfold G_nextA
 rw [show G_skip ((s, (i0 : Int), ()).1, (s, (i0 : Int), ()).2.1, ()) = _ from h1]
 simp only [Option.bind_some]
 by_cases hl : i = s.length
 ·have dl : decide ((i : Int) = (s.length : Int)) = true := decide_eq_true (by omega)
  rw [dl, cond_true, List.drop_of_length_le (by omega)]
  exact ⟨_, rfl, by subst hl; rfl⟩
 ·have hi' : i < s.length := by omega
  have dl : decide ((i : Int) = (s.length : Int)) = false := decide_eq_false (by omega)
  have x1 : ixOK (i : Int) s.length = true := ixOK_iff.2 (by omega)
  have q40 : decide (((s[i].toNat : Nat) : Int) = 40) = decide (s[i] = 40) := ybyteD _ 40 (by decide)
  have q41 : decide (((s[i].toNat : Nat) : Int) = 41) = decide (s[i] = 41) := ybyteD _ 41 (by decide)
  have q34 : decide (((s[i].toNat : Nat) : Int) = 34) = decide (s[i] = 34) := ybyteD _ 34 (by decide)
  have hd := ydrop hi'
  rw [hd]
  simp only [dl, cond_false, x1, cond_true, ybyte hi', q40, q41, q34, ywrap (show i < 4611686018427387904 by omega), NextQ]
  by_cases c4 : s[i] = 40 ∨ s[i] = 41
  ·have dd : cond (decide (s[i] = 40)) true (decide (s[i] = 41)) = true := by rcases c4 with h | h <;> simp [h]
   rw [dd, cond_true]
   simp only [if_pos c4]
   exact ⟨_, rfl, i + 1, rfl, by omega, by omega, rfl⟩
  ·have dd : cond (decide (s[i] = 40)) true (decide (s[i] = 41)) = false := by simp only [not_or] at c4; simp [c4.1, c4.2]
   rw [dd, cond_false]
   simp only [if_neg c4]
   by_cases c34 : s[i] = 34
   ·rw [decide_eq_true c34, cond_true]
    simp only [if_pos c34]
    obtain ⟨v, w1, w2⟩ := text_val hs hi'
    rw [w1]
    cases hx : textS (s.drop (i + 1)) [] with
    | inl e =>
     rw [hx] at w2
     obtain ⟨he, j, rfl⟩ := w2
     exact ⟨_, rfl, he, _, _, _, rfl⟩
    | inr p =>
     obtain ⟨b, q⟩ := p
     rw [hx] at w2
     obtain ⟨j, rfl, a1, a2, a3⟩ := w2
     exact ⟨_, rfl, j, rfl, by omega, a2, a3⟩
   ·rw [decide_eq_false c34, cond_false, yout]
    simp only [Option.bind_some, if_neg c34]
    cases ho : outsideS s[i] with
    | true =>
     have hv : ¬ visS s[i] = true := by simp [visS, ho]
     rw [cond_true]
     simp only [if_neg hv]
     exact ⟨_, rfl, _, _, _, rfl⟩
    | false =>
     have hv : visS s[i] = true := by simp [visS, ho]
     rw [cond_false]
     simp only [if_pos hv]
     refine yloop (fun d => ∃ k : Nat, d = (((), (), (i : Int), ()), ((s, (k : Int), ()), (0, 0, 0, [], (), ()), ())) ∧ i ≤ k ∧ k ≤ s.length ∧ (s.drop i).takeWhile visS = (s.drop i).take (k - i) ++ (s.drop k).takeWhile visS ∧ (s.drop i).dropWhile visS = (s.drop k).dropWhile visS) (fun d => s.length - d.2.1.2.1.toNat) _ ?_ ⟨i, rfl, Nat.le_refl _, h3, by simp, rfl⟩
     rintro d ⟨k, rfl, hk1, hk2, hk3, hk4⟩
     simp only [Int.toNat_natCast]
     have sl : slOK (i : Int) (k : Int) s.length = true := slOK_iff.2 (by omega)
     by_cases hk' : k < s.length
     ·have e1 : decide ((k : Int) < (s.length : Int)) = true := by apply decide_eq_true; omega
      have x2 : ixOK (k : Int) s.length = true := ixOK_iff.2 (by omega)
      have hdk := ydrop hk'
      simp only [e1, x2, ybyte hk', yout, cond_true, Bool.true_or, Option.bind_some, ywrap (show k < 4611686018427387904 by omega)]
      cases hok : outsideS s[k] with
      | false =>
       have hvk : visS s[k] = true := by simp [visS, hok]
       simp only [Bool.not_false, cond_true]
       refine .inl ⟨_, rfl, ⟨k + 1, rfl, by omega, by omega, ?_, ?_⟩, by simp only [Int.toNat_natCast]; omega⟩
       ·rw [hk3, hdk, List.takeWhile_cons_of_pos hvk, show k + 1 - i = (k - i) + 1 by omega]
        have hlt : k - i < (s.drop i).length := by rw [List.length_drop]; omega
        rw [List.take_succ_eq_append_getElem hlt, List.append_assoc]
        congr 1
        simp only [List.getElem_drop, List.singleton_append]
        congr 2
        omega
       ·rw [hk4, hdk, List.dropWhile_cons_of_pos hvk]
      | true =>
       have hvk : ¬ visS s[k] = true := by simp [visS, hok]
       have t1 : (s.drop k).takeWhile visS = [] := by rw [hdk, List.takeWhile_cons_of_neg hvk]
       have t2 : (s.drop k).dropWhile visS = s.drop k := by rw [hdk, List.dropWhile_cons_of_neg hvk]
       refine .inr ⟨_, by simp only [Bool.not_true, cond_false]; rfl, ?_⟩
       have hw : (s.drop i).take (k - i) = (s[i] :: s.drop (i + 1)).takeWhile visS := by rw [← hd, hk3, t1, List.append_nil]
       have hq : s.drop k = (s[i] :: s.drop (i + 1)).dropWhile visS := by rw [← hd, hk4, t2]
       have hpos : 0 < k - i := by
        have hne : 0 < ((s.drop i).take (k - i)).length := by rw [hw, List.takeWhile_cons_of_pos hv]; simp
        rw [List.length_take] at hne; omega
       have hwl : ((s.drop i).take (k - i)).length ≤ s.length := by rw [List.length_take, List.length_drop]; omega
       simp only [Int.toNat_natCast, sl, cond_true]
       rw [← hw]
       have hn : numericF ((s.drop i).take (k - i)) = some (numericS ((s.drop i).take (k - i))) := by unfold numericF; rw [if_pos (by omega)]
       rw [hn]
       simp only [Option.bind_some, tokS]
       by_cases hnw : numericS ((s.drop i).take (k - i)) = true
       ·rw [hnw, cond_true, hnum _ hwl hnw]
        refine ⟨_, rfl, ?_⟩
        simp only [if_true]
        by_cases hz : (num ((s.drop i).take (k - i))).2 = 0
        ·simp only [if_pos hz]
         exact ⟨k, by rw [hz]; rfl, by omega, hk2, hq⟩
        ·simp only [if_neg hz]
         exact ⟨hz, _, _, _, rfl⟩
       ·have hnf : numericS ((s.drop i).take (k - i)) = false := by simpa using hnw
        rw [hnf, cond_false]
        by_cases hl30 : ((s.drop i).take (k - i)).length > 30
        ·have d30 : ∀ j : Decidable ((((s.drop i).take (k - i)).length : Int) > 30), @decide _ j = true := fun j => decide_eq_true (by omega)
         rw [d30, cond_true]
         refine ⟨_, rfl, ?_⟩
         simp only [Bool.false_eq_true, if_false, if_pos hl30]
         exact ⟨by decide, _, _, _, rfl⟩
        ·have d30 : ∀ j : Decidable ((((s.drop i).take (k - i)).length : Int) > 30), @decide _ j = false := fun j => decide_eq_false (by omega)
         rw [d30, cond_false]
         refine ⟨_, rfl, ?_⟩
         simp only [Bool.false_eq_true, if_false, if_neg hl30]
         exact ⟨k, rfl, by omega, hk2, hq⟩
     ·have e1 : decide ((k : Int) < (s.length : Int)) = false := by apply decide_eq_false; omega
      have t0 : s.drop k = [] := List.drop_of_length_le (by omega)
      have t1 : (s.drop k).takeWhile visS = [] := by rw [t0]; rfl
      have t2 : (s.drop k).dropWhile visS = s.drop k := by rw [t0]; rfl
      refine .inr ⟨_, by simp only [e1, Bool.not_false, Bool.or_true, cond_true, cond_false, Option.bind_some]; rfl, ?_⟩
      have hw : (s.drop i).take (k - i) = (s[i] :: s.drop (i + 1)).takeWhile visS := by rw [← hd, hk3, t1, List.append_nil]
      have hq : s.drop k = (s[i] :: s.drop (i + 1)).dropWhile visS := by rw [← hd, hk4, t2]
      have hpos : 0 < k - i := by
       have hne : 0 < ((s.drop i).take (k - i)).length := by rw [hw, List.takeWhile_cons_of_pos hv]; simp
       rw [List.length_take] at hne; omega
      have hwl : ((s.drop i).take (k - i)).length ≤ s.length := by rw [List.length_take, List.length_drop]; omega
      simp only [Int.toNat_natCast, sl, cond_true]
      rw [← hw]
      have hn : numericF ((s.drop i).take (k - i)) = some (numericS ((s.drop i).take (k - i))) := by unfold numericF; rw [if_pos (by omega)]
      rw [hn]
      simp only [Option.bind_some, tokS]
      by_cases hnw : numericS ((s.drop i).take (k - i)) = true
      ·rw [hnw, cond_true, hnum _ hwl hnw]
       refine ⟨_, rfl, ?_⟩
       simp only [if_true]
       by_cases hz : (num ((s.drop i).take (k - i))).2 = 0
       ·simp only [if_pos hz]
        exact ⟨k, by rw [hz]; rfl, by omega, hk2, hq⟩
       ·simp only [if_neg hz]
        exact ⟨hz, _, _, _, rfl⟩
      ·have hnf : numericS ((s.drop i).take (k - i)) = false := by simpa using hnw
       rw [hnf, cond_false]
       by_cases hl30 : ((s.drop i).take (k - i)).length > 30
       ·have d30 : ∀ j : Decidable ((((s.drop i).take (k - i)).length : Int) > 30), @decide _ j = true := fun j => decide_eq_true (by omega)
        rw [d30, cond_true]
        refine ⟨_, rfl, ?_⟩
        simp only [Bool.false_eq_true, if_false, if_pos hl30]
        exact ⟨by decide, _, _, _, rfl⟩
       ·have d30 : ∀ j : Decidable ((((s.drop i).take (k - i)).length : Int) > 30), @decide _ j = false := fun j => decide_eq_false (by omega)
        rw [d30, cond_false]
        refine ⟨_, rfl, ?_⟩
        simp only [Bool.false_eq_true, if_false, if_neg hl30]
        exact ⟨k, rfl, by omega, hk2, hq⟩
end Go.Ab
