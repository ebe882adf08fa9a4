/-
  SIZES, DEPTHS, VALID FORMS: what the reader's functions come to.
-/
import Derived.Test.YtmompmackgknbaaGreatDoorZ12
import Derived.Test.YtmompmackgknbaaGreatDoorZ13
/-
  FORMS: more of the reader's and the parts' functions, and the reference's.
-/
set_option linter.unusedVariables false
set_option maxRecDepth 100000
namespace Go.Ab
open Go Go.RowKit Go.Proofs
noncomputable def G_refSize (k : Nat) (x0 : Fm) : Option (Int) := match k with
| 0 => none
| k + 1 => (
 Option.bind (α := (Int × Unit) × (Unit))
 (loopM (L := ((Int × Int × (List UInt8) × (List Fm) × Unit) × Int × Int × Unit) × (Unit)) (R := (Int × Unit) × (Unit)) (fun d1 => (
 let v3_2 := d1.1.2.1
 let v4_3 := d1.1.2.2.1
 cond (cond (decide (d1.1.1.1 = 3)) (decide (v4_3 < (d1.1.1.2.2.2.1.length : Int))) false) (cond (ixOK v4_3 d1.1.1.2.2.2.1.length) (Option.bind (α := Int) (G_refSize k (Fm.eta (d1.1.1.2.2.2.1.getD v4_3.toNat (Fm.mk 0 0 [] [])))) fun r4 => (
 some (Step.next (((d1.1.1.1, d1.1.1.2.1, d1.1.1.2.2.1, d1.1.1.2.2.2.1, ()), IntKind.wrap .i64 (v3_2 + r4), IntKind.wrap .i64 (v4_3 + 1), ()), ())))) none) (some (Step.done ((v3_2, ()), ()))))) (((x0.k, x0.n, x0.t, x0.l, ()), 1, 0, ()), ())) fun d5 => (
 let v3_6 := d5.1.1
 some v3_6))
def A_refSize : An := .seq (.leaf) (.seq (.leaf) (.join false { env := [(3, (.d (.int .i64)))], objs := [] } (.seq (.leaf) (.block (.loop { env := [(1, (.rptr [(.d (.int .i64)), (.d (.int .i64)), (.d .str), (.d (.slice .form))])), (3, (.d (.int .i64))), (4, (.d (.int .i64)))], objs := [] } (.leaf)))) (.leaf)))
def H_refSize : Nat → RH := fun _ => {}
noncomputable def S_refSize (k : Nat) : Sig := .n [(.d .form)] (.d (.int .i64)) (fun x => G_refSize k x.1)
theorem S_refSize_rec : ∀ k, SigOK CX 12 (S_refSize k)
| 0 => fun x r h => by cases h
| k + 1 => by
  have ih := S_refSize_rec k
  exact sigN_of (l := [(12, (S_refSize k))]) ⟨ih, trivial⟩ (hint := H_refSize) (an := A_refSize) (fun x => by kernel_rfl)
theorem S_refSize_ok : ∀ k, SigOK CX 12 (S_refSize k) := fun k => S_refSize_rec k
noncomputable def L_refSize (x0 : Fm) : Option (Int) := limF fun k => G_refSize k x0
noncomputable def S_refSize_l : Sig := .n [(.d .form)] (.d (.int .i64)) (fun x => L_refSize x.1)
theorem S_refSize_l_ok : SigOK CX 12 S_refSize_l := SigOK.limN S_refSize_ok fun x r h => limF_ex h
noncomputable def G_refNum (x0 : Int) : Option (Fm) := (
 some (Fm.mk 0 x0 ([]) ([] : List Fm)))
def A_refNum : An := .leaf
def H_refNum : Nat → RH := fun _ => {}
noncomputable def S_refNum : Sig := .n [(.d (.int .i64))] (.d .form) (fun x => G_refNum x.1)
theorem S_refNum_ok : SigOK CX 56 S_refNum := sigN_of (l := []) trivial (hint := H_refNum) (an := A_refNum) (fun x => by kernel_rfl)
noncomputable def G_leaf (x0 : Fm) : Option (Bool) := (
 Option.bind (α := Step ((Unit) × (Unit)) (Bool))
 (cond (decide (x0.k = 0)) (some (Step.done (cond (cond (cond (decide (x0.t = [])) (decide ((x0.l.length : Int) = 0)) false) (decide (x0.n ≥ (-1152921504606846976))) false) (decide (x0.n ≤ 1152921504606846976)) false))) (cond (decide (x0.k = 1)) (Option.bind (α := Bool) (cond (cond (!decide (x0.t = [])) (decide ((x0.t.length : Int) ≤ 30)) false) (numericF (x0.t)) (some false)) fun r1 => (
 Option.bind (α := ((Int × Int × (List UInt8) × (List Fm) × Unit) × Bool × Unit) × (Unit))
 (loopM (L := ((Int × Int × (List UInt8) × (List Fm) × Unit) × Bool × Int × Unit) × (Unit)) (R := ((Int × Int × (List UInt8) × (List Fm) × Unit) × Bool × Unit) × (Unit)) (fun d2 => (
 let v3_3 := d2.1.2.1
 let v4_4 := d2.1.2.2.1
 cond (cond (decide (v4_4 < (d2.1.1.2.2.1.length : Int))) v3_3 false) (cond (ixOK v4_4 d2.1.1.2.2.1.length) (Option.bind (α := Bool) (outsideF (byteAt d2.1.1.2.2.1 v4_4)) fun r5 => (
 some (Step.next (((d2.1.1.1, d2.1.1.2.1, d2.1.1.2.2.1, d2.1.1.2.2.2.1, ()), !r5, IntKind.wrap .i64 (v4_4 + 1), ()), ())))) none) (some (Step.done (((d2.1.1.1, d2.1.1.2.1, d2.1.1.2.2.1, d2.1.1.2.2.2.1, ()), v3_3, ()), ()))))) (((x0.k, x0.n, x0.t, x0.l, ()), cond (cond (!decide (x0.t = [])) (decide ((x0.t.length : Int) ≤ 30)) false) (!r1) false, 0, ()), ())) fun d6 => (
 let v3_7 := d6.1.2.1
 some (Step.done (cond (cond v3_7 (decide (d6.1.1.2.1 = 0)) false) (decide ((d6.1.1.2.2.2.1.length : Int) = 0)) false))))) (cond (decide (x0.k = 2)) (Option.bind (α := Bool) (cond (decide ((x0.t.length : Int) ≤ 2000)) (some (badT (x0.t))) (some false)) fun r8 => (
 some (Step.done (cond (cond (cond (decide ((x0.t.length : Int) ≤ 2000)) (!r8) false) (decide (x0.n = 0)) false) (decide ((x0.l.length : Int) = 0)) false)))) (cond (decide (x0.k = 3)) (some (Step.done (cond (decide (x0.t = [])) (decide (x0.n = 0)) false))) (some (Step.next ((), ()))))))) fun qd9 => match qd9 with
 | .next d9 => (
 some false)
 | .done r => some r)
def A_leaf : An := .seq (.leaf) (.join true { env := [], objs := [] } (.seq (.leaf) (.block (.seq (.leaf) (.cond (.leaf) (.seq (.leaf) (.cond (.seq (.leaf) (.join false { env := [(1, (.rptr [(.d (.int .i64)), (.d (.int .i64)), (.d .str), (.d (.slice .form))])), (3, (.d .bool))], objs := [] } (.seq (.leaf) (.block (.loop { env := [(1, (.rptr [(.d (.int .i64)), (.d (.int .i64)), (.d .str), (.d (.slice .form))])), (3, (.d .bool)), (4, (.d (.int .i64)))], objs := [] } (.leaf)))) (.leaf))) (.leaf))))))) (.leaf))
def H_leaf : Nat → RH := fun _ => {}
noncomputable def S_leaf : Sig := .n [(.d .form)] (.d .bool) (fun x => G_leaf x.1)
theorem S_leaf_ok : SigOK CX 138 S_leaf := sigN_of (l := [(155, S_numeric), (154, S_outside), (171, S_containsBad)]) ⟨S_numeric_ok, S_outside_ok, S_containsBad_ok, trivial⟩ (hint := H_leaf) (an := A_leaf) (fun x => by kernel_rfl)
noncomputable def G_valid (k : Nat) (x0 : Fm) (x2 : Int) (o0 : Int × Unit) : Option ((Bool) × ((Int × Unit) × Unit)) := match k with
| 0 => none
| k + 1 => (
 Option.bind (α := Bool) (cond (!(cond (decide (IntKind.wrap .i64 (o0.1 - 1) < 0)) true (decide (x2 = 0)))) (G_leaf (Fm.eta x0)) (some false)) fun r1 => (
 cond (cond (cond (decide (IntKind.wrap .i64 (o0.1 - 1) < 0)) true (decide (x2 = 0))) true (!r1)) (some (false, ((IntKind.wrap .i64 (o0.1 - 1), ()), ()))) (Option.bind (α := Step ((Unit) × ((Int × Unit) × Unit)) ((Bool) × ((Int × Unit) × Unit)))
 (loopM (L := (Unit × Int × (List Fm) × Int × Int × Unit) × ((Int × Unit) × Unit)) (R := Step ((Unit) × ((Int × Unit) × Unit)) ((Bool) × ((Int × Unit) × Unit))) (fun d2 => (
 let c3 := d2.2.1.1
 let v2_4 := d2.1.2.1
 let v28_5 := d2.1.2.2.1
 let v29_6 := d2.1.2.2.2.1
 let v30_7 := d2.1.2.2.2.2.1
 cond (decide (v30_7 < v29_6)) (cond (ixOK v30_7 v28_5.length) (Option.bind (α := (Bool) × ((Int × Unit) × Unit)) (G_valid k (Fm.eta (v28_5.getD v30_7.toNat (Fm.mk 0 0 [] []))) (IntKind.wrap .i64 (v2_4 - 1)) (c3, ())) fun r8 => (
 cond (!r8.1) (some (Step.done (Step.done (false, ((r8.2.1.1, ()), ()))))) (some (Step.next (((), v2_4, v28_5, v29_6, IntKind.wrap .i64 (v30_7 + 1), ()), ((r8.2.1.1, ()), ())))))) none) (some (Step.done (Step.next ((), ((c3, ()), ()))))))) (((), x2, x0.l, (x0.l.length : Int), 0, ()), ((IntKind.wrap .i64 (o0.1 - 1), ()), ()))) fun qd9 => match qd9 with
 | .next d9 => (
 let c10 := d9.2.1.1
 some (true, ((c10, ()), ())))
 | .done r => some r)))
def A_valid : An := .seq (.leaf) (.seq (.leaf) (.seq (.leaf) (.join true { env := [], objs := [(true, .cells 3 [(.d (.int .i64))])] } (.seq (.leaf) (.block (.loop { env := [(1, (.ref 0 0)), (2, (.d (.int .i64))), (28, (.d (.slice .form))), (29, (.d (.int .i64))), (30, (.d (.int .i64)))], objs := [(true, .cells 3 [(.d (.int .i64))])] } (.leaf)))) (.leaf))))
def H_valid : Nat → RH := fun r => match r with
  | 7 => { H := { ac := [38] } }
  | _ => {}
noncomputable def S_valid (k : Nat) : Sig := .o { pre := [(false, .cells 3 [(.d (.int .i64))])], args := [(.d .form), (.ref 0 0), (.d (.int .i64))], post := [(true, .cells 3 [(.d (.int .i64))])], res := (.d .bool), f := fun x => G_valid k x.1.1 x.1.2.2.1 x.2.1 }
theorem S_valid_ok : ∀ k, SigOK CX 92 (S_valid k)
| 0 => ⟨by kernel_rfl, fun x r h => by cases h⟩
| k + 1 => by
  have ih := S_valid_ok k
  exact sigO_of (l := [(138, S_leaf), (92, (S_valid k))]) ⟨S_leaf_ok, ih, trivial⟩ (hint := H_valid) (an := A_valid) (by kernel_rfl) (fun x => by kernel_rfl)
noncomputable def L_valid (x0 : Fm) (x2 : Int) (o0 : Int × Unit) : Option ((Bool) × ((Int × Unit) × Unit)) := limF fun k => G_valid k x0 x2 o0
noncomputable def S_valid_l : Sig := .o { pre := [(false, .cells 3 [(.d (.int .i64))])], args := [(.d .form), (.ref 0 0), (.d (.int .i64))], post := [(true, .cells 3 [(.d (.int .i64))])], res := (.d .bool), f := fun x => L_valid x.1.1 x.1.2.2.1 x.2.1 }
theorem S_valid_l_ok : SigOK CX 92 S_valid_l := SigOK.limO S_valid_ok fun x r h => limF_ex h
noncomputable def G_rvalid (x0 : Fm) : Option (Bool) := (
 Option.bind (α := (Bool) × ((Int × Unit) × Unit)) (L_valid (Fm.eta x0) 100 (20000, ())) fun r1 => (
 some r1.1))
def A_rvalid : An := .leaf
def H_rvalid : Nat → RH := fun r => match r with
  | 2 => { H := { ac := [5] } }
  | _ => {}
noncomputable def S_rvalid : Sig := .n [(.d .form)] (.d .bool) (fun x => G_rvalid x.1)
theorem S_rvalid_ok : SigOK CX 42 S_rvalid := sigN_of (l := [(92, S_valid_l)]) ⟨S_valid_l_ok, trivial⟩ (hint := H_rvalid) (an := A_rvalid) (fun x => by kernel_rfl)
noncomputable def G_rest (x0 : Fm) : Option (List Fm) := (
 cond (decide ((x0.l.length : Int) = 0)) (some ([] : List Fm)) (cond (slOK 1 (x0.l.length : Int) x0.l.length) (some ((x0.l.drop (1 : Int).toNat).take ((x0.l.length : Int).toNat - (1 : Int).toNat))) none))
def A_rest : An := .leaf
def H_rest : Nat → RH := fun _ => {}
noncomputable def S_rest : Sig := .n [(.d .form)] (.d (.slice .form)) (fun x => G_rest x.1)
theorem S_rest_ok : SigOK CX 146 S_rest := sigN_of (l := []) trivial (hint := H_rest) (an := A_rest) (fun x => by kernel_rfl)
noncomputable def G_isp (x0 : Fm) (x1 : List UInt8) (x2 : Int) : Option (Bool) := (
 Option.bind (α := List UInt8) (cond (decide (x0.k = 3)) (G_head (Fm.eta x0)) (some ([] : List UInt8))) fun r1 => (
 some (cond (cond (decide (x0.k = 3)) (decide (r1 = x1)) false) (cond (decide (x2 < 0)) true (decide ((x0.l.length : Int) = IntKind.wrap .i64 (x2 + 1)))) false)))
def A_isp : An := .leaf
def H_isp : Nat → RH := fun _ => {}
noncomputable def S_isp : Sig := .n [(.d .form), (.d .str), (.d (.int .i64))] (.d .bool) (fun x => G_isp x.1 x.2.1 x.2.2.1)
theorem S_isp_ok : SigOK CX 112 S_isp := sigN_of (l := [(49, S_head)]) ⟨S_head_ok, trivial⟩ (hint := H_isp) (an := A_isp) (fun x => by kernel_rfl)
noncomputable def timesP (a b : Int) : Option (Out Int) := if (-9223372036854775808 ≤ a ∧ a ≤ 9223372036854775807) ∧ (-9223372036854775808 ≤ b ∧ b ≤ 9223372036854775807) then some (match timesS a b with
  | some n => .ret n
  | none => .pan) else none
noncomputable def wholeP (a : Int) : Option (Out Int) := some (match wholeS a with
  | some n => .ret n
  | none => .pan)
noncomputable def S_times : Sig := .p [.d (.int .i64), .d (.int .i64)] (.d (.int .i64)) beyondA (fun x => timesP x.1 x.2.1)
theorem S_times_ok : SigOK CX 150 S_times := fun x o h => by
  have h : timesP x.1 x.2.1 = some o := h
  unfold timesP at h
  split at h
  · rename_i hb
    cases h
    refine (times_call x.1 x.2.1 hb.1.1 hb.1.2 hb.2.1 hb.2.2).mono fun r hr => ?_
    subst hr
    cases timesS x.1 x.2.1 <;> rfl
  · cases h
noncomputable def S_whole : Sig := .p [.d (.int .i64)] (.d (.int .i64)) beyondA (fun x => wholeP x.1)
theorem S_whole_ok : SigOK CX 149 S_whole := fun x o h => by
  have h : wholeP x.1 = some o := h
  cases h
  refine (whole_call x.1).mono fun r hr => ?_
  subst hr
  cases wholeS x.1 <;> rfl
mutual
noncomputable def G_copy (k : Nat) (x0 : Fm) : Option (Fm) := match k with
| 0 => none
| k + 1 => (
 cond (!x0.l.isEmpty) (Option.bind (α := List Fm) (G_copies k x0.l) fun r1 => (
 some (Fm.mk x0.k x0.n x0.t r1))) none)
noncomputable def G_copies (k : Nat) (x0 : List Fm) : Option (List Fm) := match k with
| 0 => none
| k + 1 => (
 cond (decide ((0 : Int) ≤ (x0.length : Int) ∧ ((x0.length : Int) : Int) ≤ (x0.length : Int) ∧ ((x0.length : Int) : Int) * 56 ≤ 281474976710656)) (Option.bind (α := (Unit × Unit) × ((List Fm) × Unit))
 (loopM (L := (Unit × (List Fm) × Int × Int × Unit) × ((List Fm) × Unit)) (R := (Unit × Unit) × ((List Fm) × Unit)) (fun d1 => (
 let l2 := d1.2.1
 let v9_3 := d1.1.2.1
 let v10_4 := d1.1.2.2.1
 let v11_5 := d1.1.2.2.2.1
 cond (decide (v11_5 < v10_4)) (cond (ixOK v11_5 v9_3.length) (Option.bind (α := Fm) (G_copy k (Fm.eta (v9_3.getD v11_5.toNat (Fm.mk 0 0 [] [])))) fun r6 => (
 cond (ixOK v11_5 l2.length) (cond (decide (v11_5.toNat < l2.length)) (some (Step.next (((), v9_3, v10_4, IntKind.wrap .i64 (v11_5 + 1), ()), (l2.set v11_5.toNat (Fm.eta r6), ())))) none) none)) none) (some (Step.done (((), ()), (l2, ())))))) (((), x0, (x0.length : Int), 0, ()), (List.replicate (x0.length : Int).toNat (Fm.mk 0 0 ([]) ([] : List Fm)), ()))) fun d7 => (
 let l8 := d7.2.1
 some l8)) none)
end
def A_copy : An := .leaf
def H_copy : Nat → RH := fun r => match r with
  | 0 => { H := { mb := [1] } }
  | _ => {}
noncomputable def S_copy (k : Nat) : Sig := .n [(.d .form)] (.d .form) (fun x => G_copy k x.1)
def A_copies : An := .seq (.leaf) (.seq (.leaf) (.join false { env := [(3, (.gs 0 .form))], objs := [(false, .tg .form 26)] } (.seq (.leaf) (.block (.loop { env := [(3, (.gs 0 .form)), (9, (.d (.slice .form))), (10, (.d (.int .i64))), (11, (.d (.int .i64)))], objs := [(false, .tg .form 26)] } (.leaf)))) (.leaf)))
def H_copies : Nat → RH := fun r => match r with
  | 1 => { H := { ty := [(8, .form)] } }
  | _ => {}
noncomputable def S_copies (k : Nat) : Sig := .n [(.d (.slice .form))] (.d (.slice .form)) (fun x => G_copies k x.1)
theorem S_copy_copies_rec : ∀ k, SigOK CX 110 (S_copy k) ∧ SigOK CX 62 (S_copies k)
| 0 => ⟨(fun x r h => by cases h), (fun x r h => by cases h)⟩
| k + 1 => by
  have ih := S_copy_copies_rec k
  obtain ⟨ih0, ih1⟩ := ih
  exact ⟨sigN_of (l := [(62, (S_copies k))]) ⟨ih1, trivial⟩ (hint := H_copy) (an := A_copy) (fun x => by kernel_rfl),
    sigN_of (l := [(110, (S_copy k))]) ⟨ih0, trivial⟩ (hint := H_copies) (an := A_copies) (fun x => by kernel_rfl)⟩
theorem S_copy_ok : ∀ k, SigOK CX 110 (S_copy k) := fun k => (S_copy_copies_rec k).1
theorem S_copies_ok : ∀ k, SigOK CX 62 (S_copies k) := fun k => (S_copy_copies_rec k).2
noncomputable def L_copy (x0 : Fm) : Option (Fm) := limF fun k => G_copy k x0
noncomputable def S_copy_l : Sig := .n [(.d .form)] (.d .form) (fun x => L_copy x.1)
theorem S_copy_l_ok : SigOK CX 110 S_copy_l := SigOK.limN S_copy_ok fun x r h => limF_ex h
noncomputable def L_copies (x0 : List Fm) : Option (List Fm) := limF fun k => G_copies k x0
noncomputable def S_copies_l : Sig := .n [(.d (.slice .form))] (.d (.slice .form)) (fun x => L_copies x.1)
theorem S_copies_l_ok : SigOK CX 62 S_copies_l := SigOK.limN S_copies_ok fun x r h => limF_ex h
noncomputable def G_plus (x0 : Int × List (Int × Fm)) (x1 : Int × List (Int × Fm)) (x2 : Int) : Option (Out (Int × List (Int × Fm))) := (
 Option.bind (α := Out Int) (timesP (x1.1) (x2)) fun or1 => match or1 with
 | .ret r1 => (
 Option.bind (α := Out Int) (wholeP (IntKind.wrap .i64 (x0.1 + r1))) fun or2 => match or2 with
 | .ret r2 => (
 Option.bind (α := Step ((Unit × Unit × Unit) × ((Int × Unit × Unit) × (Int × Unit × Unit) × (List (Int × Fm)) × Unit)) (Out (Int × List (Int × Fm))))
 (loopM (L := (Int × (Int × (List (Int × Fm)) × Unit) × (Int × (List (Int × Fm)) × Unit) × Unit × Unit × Int × Int × Unit) × ((Int × Unit × Unit) × (Int × Unit × Unit) × (List (Int × Fm)) × Unit)) (R := Step ((Unit × Unit × Unit) × ((Int × Unit × Unit) × (Int × Unit × Unit) × (List (Int × Fm)) × Unit)) (Out (Int × List (Int × Fm)))) (fun d3 => (
 let l4 := d3.2.2.2.1
 let v2_5 := d3.1.1
 let v8_6 := d3.1.2.2.2.2.2.1
 let v9_7 := d3.1.2.2.2.2.2.2.1
 cond (cond (decide (v8_6 < (d3.1.2.1.2.1.length : Int))) true (decide (v9_7 < (d3.1.2.2.1.2.1.length : Int)))) (Option.bind (α := (Int × (Int × (List (Int × Fm)) × Unit) × (Int × (List (Int × Fm)) × Unit) × Unit × Unit × Int × Int × Int × Unit) × ((Int × Unit × Unit) × (Int × Unit × Unit) × (List (Int × Fm)) × Unit))
 (cond (decide (v8_6 = (d3.1.2.1.2.1.length : Int))) (some ((v2_5, (d3.1.2.1.1, d3.1.2.1.2.1, ()), (d3.1.2.2.1.1, d3.1.2.2.1.2.1, ()), (), (), v8_6, v9_7, 1, ()), ((d3.2.1.1, (), ()), (d3.2.2.1.1, (), ()), l4, ()))) (cond (decide (v9_7 = (d3.1.2.2.1.2.1.length : Int))) (some ((v2_5, (d3.1.2.1.1, d3.1.2.1.2.1, ()), (d3.1.2.2.1.1, d3.1.2.2.1.2.1, ()), (), (), v8_6, v9_7, (-1), ()), ((d3.2.1.1, (), ()), (d3.2.2.1.1, (), ()), l4, ()))) (cond (ixOK v8_6 d3.1.2.1.2.1.length) (cond (ixOK v9_7 d3.1.2.2.1.2.1.length) (Option.bind (α := Int) (L_compare (Fm.eta ((d3.1.2.1.2.1.getD v8_6.toNat ((0 : Int), (Fm.mk 0 0 [] []))).2)) (Fm.eta ((d3.1.2.2.1.2.1.getD v9_7.toNat ((0 : Int), (Fm.mk 0 0 [] []))).2))) fun r8 => (
 some ((v2_5, (d3.1.2.1.1, d3.1.2.1.2.1, ()), (d3.1.2.2.1.1, d3.1.2.2.1.2.1, ()), (), (), v8_6, v9_7, r8, ()), ((d3.2.1.1, (), ()), (d3.2.2.1.1, (), ()), l4, ())))) none) none))) fun d9 => (
 let l10 := d9.2.2.2.1
 let v2_11 := d9.1.1
 let v8_12 := d9.1.2.2.2.2.2.1
 let v9_13 := d9.1.2.2.2.2.2.2.1
 let v10_14 := d9.1.2.2.2.2.2.2.2.1
 Option.bind (α := (Int × (Int × (List (Int × Fm)) × Unit) × (Int × (List (Int × Fm)) × Unit) × Unit × Unit × Int × Int × Int × Int × Unit × Unit) × ((Int × Unit × Unit) × (Int × Unit × Unit) × (Int × Int × (List UInt8) × (List Fm) × Unit) × (List (Int × Fm)) × Unit))
 (cond (decide (v10_14 ≤ 0)) (cond (ixOK v8_12 d9.1.2.1.2.1.length) (cond (ixOK v8_12 d9.1.2.1.2.1.length) (some ((v2_11, (d9.1.2.1.1, d9.1.2.1.2.1, ()), (d9.1.2.2.1.1, d9.1.2.2.1.2.1, ()), (), (), IntKind.wrap .i64 (v8_12 + 1), v9_13, v10_14, (d9.1.2.1.2.1.getD v8_12.toNat ((0 : Int), (Fm.mk 0 0 [] []))).1, (), ()), ((d9.2.1.1, (), ()), (d9.2.2.1.1, (), ()), (((d9.1.2.1.2.1.getD v8_12.toNat ((0 : Int), (Fm.mk 0 0 [] []))).2).k, ((d9.1.2.1.2.1.getD v8_12.toNat ((0 : Int), (Fm.mk 0 0 [] []))).2).n, ((d9.1.2.1.2.1.getD v8_12.toNat ((0 : Int), (Fm.mk 0 0 [] []))).2).t, ((d9.1.2.1.2.1.getD v8_12.toNat ((0 : Int), (Fm.mk 0 0 [] []))).2).l, ()), l10, ()))) none) none) (some ((v2_11, (d9.1.2.1.1, d9.1.2.1.2.1, ()), (d9.1.2.2.1.1, d9.1.2.2.1.2.1, ()), (), (), v8_12, v9_13, v10_14, 0, (), ()), ((d9.2.1.1, (), ()), (d9.2.2.1.1, (), ()), (0, 0, [], ([] : List Fm), ()), l10, ())))) fun d15 => (
 let c16 := d15.2.2.2.1.1
 let c17 := d15.2.2.2.1.2.1
 let c18 := d15.2.2.2.1.2.2.1
 let c19 := d15.2.2.2.1.2.2.2.1
 let l20 := d15.2.2.2.2.1
 let v2_21 := d15.1.1
 let v8_22 := d15.1.2.2.2.2.2.1
 let v9_23 := d15.1.2.2.2.2.2.2.1
 let v10_24 := d15.1.2.2.2.2.2.2.2.1
 let v11_25 := d15.1.2.2.2.2.2.2.2.2.1
 Option.bind (α := Step ((Int × (Int × (List (Int × Fm)) × Unit) × (Int × (List (Int × Fm)) × Unit) × Unit × Unit × Int × Int × Int × Unit × Unit) × ((Int × Unit × Unit) × (Int × Unit × Unit) × (Int × Int × (List UInt8) × (List Fm) × Unit) × (List (Int × Fm)) × Unit)) (Step ((Int × (Int × (List (Int × Fm)) × Unit) × (Int × (List (Int × Fm)) × Unit) × Unit × Unit × Int × Int × Unit) × ((Int × Unit × Unit) × (Int × Unit × Unit) × (List (Int × Fm)) × Unit)) (Step ((Unit × Unit × Unit) × ((Int × Unit × Unit) × (Int × Unit × Unit) × (List (Int × Fm)) × Unit)) (Out (Int × List (Int × Fm))))))
 (cond (decide (v10_24 ≥ 0)) (cond (ixOK v9_23 d15.1.2.2.1.2.1.length) (cond (ixOK v9_23 d15.1.2.2.1.2.1.length) (Option.bind (α := Out Int) (timesP ((d15.1.2.2.1.2.1.getD v9_23.toNat ((0 : Int), (Fm.mk 0 0 [] []))).1) (v2_21)) fun or26 => match or26 with
 | .ret r26 => (
 Option.bind (α := Out Int) (wholeP (IntKind.wrap .i64 (v11_25 + r26))) fun or27 => match or27 with
 | .ret r27 => (
 some (Step.next ((v2_21, (d15.1.2.1.1, d15.1.2.1.2.1, ()), (d15.1.2.2.1.1, d15.1.2.2.1.2.1, ()), (), (), v8_22, IntKind.wrap .i64 (v9_23 + 1), r27, (), ()), ((d15.2.1.1, (), ()), (d15.2.2.1.1, (), ()), (((d15.1.2.2.1.2.1.getD v9_23.toNat ((0 : Int), (Fm.mk 0 0 [] []))).2).k, ((d15.1.2.2.1.2.1.getD v9_23.toNat ((0 : Int), (Fm.mk 0 0 [] []))).2).n, ((d15.1.2.2.1.2.1.getD v9_23.toNat ((0 : Int), (Fm.mk 0 0 [] []))).2).t, ((d15.1.2.2.1.2.1.getD v9_23.toNat ((0 : Int), (Fm.mk 0 0 [] []))).2).l, ()), l20, ()))))
 | .pan => (some (Step.done (Step.done (Step.done Out.pan)))))
 | .pan => (some (Step.done (Step.done (Step.done Out.pan))))) none) none) (some (Step.next ((v2_21, (d15.1.2.1.1, d15.1.2.1.2.1, ()), (d15.1.2.2.1.1, d15.1.2.2.1.2.1, ()), (), (), v8_22, v9_23, v11_25, (), ()), ((d15.2.1.1, (), ()), (d15.2.2.1.1, (), ()), (c16, c17, c18, c19, ()), l20, ()))))) fun qd28 => match qd28 with
 | .next d28 => (
 let c29 := d28.2.2.2.1.1
 let c30 := d28.2.2.2.1.2.1
 let c31 := d28.2.2.2.1.2.2.1
 let c32 := d28.2.2.2.1.2.2.2.1
 let l33 := d28.2.2.2.2.1
 let v2_34 := d28.1.1
 let v8_35 := d28.1.2.2.2.2.2.1
 let v9_36 := d28.1.2.2.2.2.2.2.1
 let v11_37 := d28.1.2.2.2.2.2.2.2.1
 cond (!decide (v11_37 = 0)) (Option.bind (α := Fm) (L_copy (Fm.mk c29 c30 c31 c32)) fun r38 => (
 cond (decide ((l33.length + ([(v11_37, (Fm.eta r38))]).length) * 64 ≤ 140737488355328)) (some (Step.next ((v2_34, (d28.1.2.1.1, d28.1.2.1.2.1, ()), (d28.1.2.2.1.1, d28.1.2.2.1.2.1, ()), (), (), v8_35, v9_36, ()), ((d28.2.1.1, (), ()), (d28.2.2.1.1, (), ()), l33 ++ ([(v11_37, (Fm.eta r38))]), ())))) none)) (some (Step.next ((v2_34, (d28.1.2.1.1, d28.1.2.1.2.1, ()), (d28.1.2.2.1.1, d28.1.2.2.1.2.1, ()), (), (), v8_35, v9_36, ()), ((d28.2.1.1, (), ()), (d28.2.2.1.1, (), ()), l33, ())))))
 | .done r => some r))) (some (Step.done (Step.next (((), (), ()), ((d3.2.1.1, (), ()), (d3.2.2.1.1, (), ()), l4, ()))))))) ((x2, (x0.1, x0.2, ()), (x1.1, x1.2, ()), (), (), 0, 0, ()), ((0, (), ()), (r2, (), ()), ([] : List (Int × Fm)), ()))) fun qd39 => match qd39 with
 | .next d39 => (
 let l40 := d39.2.2.2.1
 some (Out.ret (d39.2.2.1.1, l40)))
 | .done r => some r)
 | .pan => (some Out.pan))
 | .pan => (some Out.pan))
def A_plus : An := .seq (.leaf) (.seq (.leaf) (.seq (.leaf) (.join true { env := [(6, (.ref 0 0)), (7, (.ref 1 0))], objs := [(false, .cells 73 [(.d (.int .i64)), (.c (.base (.slice none 0 0)))]), (false, .cells 73 [(.d (.int .i64)), (.gs 2 (.pr (.int .i64) .form))]), (false, .tg (.pr (.int .i64) .form) 140)] } (.block (.loop { env := [(2, (.d (.int .i64))), (3, (.rptr [(.d (.int .i64)), (.d (.slice (.pr (.int .i64) .form)))])), (4, (.rptr [(.d (.int .i64)), (.d (.slice (.pr (.int .i64) .form)))])), (6, (.ref 0 0)), (7, (.ref 1 0)), (8, (.d (.int .i64))), (9, (.d (.int .i64)))], objs := [(false, .cells 73 [(.d (.int .i64)), (.c (.base (.slice none 0 0)))]), (false, .cells 73 [(.d (.int .i64)), (.gs 2 (.pr (.int .i64) .form))]), (false, .tg (.pr (.int .i64) .form) 140)] } (.seq (.leaf) (.block (.seq (.leaf) (.join false { env := [(2, (.d (.int .i64))), (3, (.rptr [(.d (.int .i64)), (.d (.slice (.pr (.int .i64) .form)))])), (4, (.rptr [(.d (.int .i64)), (.d (.slice (.pr (.int .i64) .form)))])), (6, (.ref 0 0)), (7, (.ref 1 0)), (8, (.d (.int .i64))), (9, (.d (.int .i64))), (10, (.d (.int .i64)))], objs := [(false, .cells 73 [(.d (.int .i64)), (.c (.base (.slice none 0 0)))]), (false, .cells 73 [(.d (.int .i64)), (.gs 2 (.pr (.int .i64) .form))]), (false, .tg (.pr (.int .i64) .form) 140)] } (.leaf) (.seq (.leaf) (.join false { env := [(2, (.d (.int .i64))), (3, (.rptr [(.d (.int .i64)), (.d (.slice (.pr (.int .i64) .form)))])), (4, (.rptr [(.d (.int .i64)), (.d (.slice (.pr (.int .i64) .form)))])), (6, (.ref 0 0)), (7, (.ref 1 0)), (8, (.d (.int .i64))), (9, (.d (.int .i64))), (10, (.d (.int .i64))), (11, (.d (.int .i64))), (12, (.ref 2 0))], objs := [(false, .cells 73 [(.d (.int .i64)), (.c (.base (.slice none 0 0)))]), (false, .cells 73 [(.d (.int .i64)), (.gs 3 (.pr (.int .i64) .form))]), (false, .cells 26 [(.d (.int .i64)), (.d (.int .i64)), (.d .str), (.d (.slice .form))]), (false, .tg (.pr (.int .i64) .form) 140)] } (.leaf) (.join true { env := [(2, (.d (.int .i64))), (3, (.rptr [(.d (.int .i64)), (.d (.slice (.pr (.int .i64) .form)))])), (4, (.rptr [(.d (.int .i64)), (.d (.slice (.pr (.int .i64) .form)))])), (6, (.ref 0 0)), (7, (.ref 1 0)), (8, (.d (.int .i64))), (9, (.d (.int .i64))), (11, (.d (.int .i64))), (12, (.ref 2 0))], objs := [(false, .cells 73 [(.d (.int .i64)), (.c (.base (.slice none 0 0)))]), (false, .cells 73 [(.d (.int .i64)), (.gs 3 (.pr (.int .i64) .form))]), (false, .cells 26 [(.d (.int .i64)), (.d (.int .i64)), (.d .str), (.d (.slice .form))]), (false, .tg (.pr (.int .i64) .form) 140)] } (.leaf) (.leaf)))))))))) (.leaf))))
def H_plus : Nat → RH := fun r => match r with
  | 1 => { H := { pl := [14, 16] }, π := [0, 1, 2, 3, 4, 9, 5, 6, 7, 8, 10], tl := [6, 8] }
  | 5 => { H := { pl := [35, 39, 41, 45] } }
  | 12 => { H := { pl := [63, 67, 69, 73] } }
  | 15 => { H := { pl := [80, 84, 90, 94] }, π := [0, 1, 2, 3, 4, 5, 6, 7, 11, 12, 13, 14, 15, 16, 8, 9, 10, 17, 18], tl := [14, 16] }
  | 18 => { H := { ty := [(106, (.pr (.int .i64) .form))] } }
  | _ => {}
noncomputable def S_plus : Sig := .p [(.d (.pr (.int .i64) (.slice (.pr (.int .i64) .form)))), (.d (.pr (.int .i64) (.slice (.pr (.int .i64) .form)))), (.d (.int .i64))] (.d (.pr (.int .i64) (.slice (.pr (.int .i64) .form)))) (.iface 118 (.agg [])) (fun x => G_plus x.1 x.2.1 x.2.2.1)
theorem S_plus_ok : SigOK CX 108 S_plus := sigP_of (l := [(150, S_times), (149, S_whole), (97, S_compare_l), (110, S_copy_l)]) ⟨S_times_ok, S_whole_ok, S_compare_l_ok, S_copy_l_ok, trivial⟩ (hint := H_plus) (an := A_plus) (fun x => by kernel_rfl)
noncomputable def G_lof (k : Nat) (x0 : Fm) : Option (Out (Int × List (Int × Fm))) := match k with
| 0 => none
| k + 1 => (
 Option.bind (α := List Fm) (G_rest (Fm.eta x0)) fun r1 => (
 Option.bind (α := Step (((Int × Int × (List UInt8) × (List Fm) × Unit) × Unit × Unit) × ((Int × Unit × Unit) × Unit)) (Out (Int × List (Int × Fm))))
 (cond (decide (x0.k = 0)) (some (Step.done (Out.ret (x0.n, ([] : List (Int × Fm)))))) (Option.bind (α := Bool) (G_isp (Fm.eta x0) ([43]) 2) fun r2 => (
 cond r2 (cond (ixOK 0 r1.length) (cond (ixOK 1 r1.length) (Option.bind (α := Out (Int × List (Int × Fm))) (G_lof k (Fm.eta (r1.getD (0 : Int).toNat (Fm.mk 0 0 [] [])))) fun or3 => match or3 with
 | .ret r3 => (
 Option.bind (α := Out (Int × List (Int × Fm))) (G_lof k (Fm.eta (r1.getD (1 : Int).toNat (Fm.mk 0 0 [] [])))) fun or4 => match or4 with
 | .ret r4 => (
 Option.bind (α := Out (Int × List (Int × Fm))) (G_plus r3 r4 1) fun or5 => match or5 with
 | .ret r5 => (
 some (Step.done (Out.ret r5)))
 | .pan => (some (Step.done Out.pan)))
 | .pan => (some (Step.done Out.pan)))
 | .pan => (some (Step.done Out.pan))) none) none) (Option.bind (α := Bool) (G_isp (Fm.eta x0) ([45]) 2) fun r6 => (
 cond r6 (cond (ixOK 0 r1.length) (cond (ixOK 1 r1.length) (Option.bind (α := Out (Int × List (Int × Fm))) (G_lof k (Fm.eta (r1.getD (0 : Int).toNat (Fm.mk 0 0 [] [])))) fun or7 => match or7 with
 | .ret r7 => (
 Option.bind (α := Out (Int × List (Int × Fm))) (G_lof k (Fm.eta (r1.getD (1 : Int).toNat (Fm.mk 0 0 [] [])))) fun or8 => match or8 with
 | .ret r8 => (
 Option.bind (α := Out (Int × List (Int × Fm))) (G_plus r7 r8 (-1)) fun or9 => match or9 with
 | .ret r9 => (
 some (Step.done (Out.ret r9)))
 | .pan => (some (Step.done Out.pan)))
 | .pan => (some (Step.done Out.pan)))
 | .pan => (some (Step.done Out.pan))) none) none) (Option.bind (α := Bool) (G_isp (Fm.eta x0) ([110, 101, 103]) 1) fun r10 => (
 cond r10 (cond (ixOK 0 r1.length) (Option.bind (α := Out (Int × List (Int × Fm))) (G_lof k (Fm.eta (r1.getD (0 : Int).toNat (Fm.mk 0 0 [] [])))) fun or11 => match or11 with
 | .ret r11 => (
 Option.bind (α := Out (Int × List (Int × Fm))) (G_plus (0, ([] : List (Int × Fm))) r11 (-1)) fun or12 => match or12 with
 | .ret r12 => (
 some (Step.done (Out.ret r12)))
 | .pan => (some (Step.done Out.pan)))
 | .pan => (some (Step.done Out.pan))) none) (Option.bind (α := Bool) (G_isp (Fm.eta x0) ([42]) 2) fun r13 => (
 cond r13 (cond (ixOK 0 r1.length) (cond (ixOK 1 r1.length) (Option.bind (α := Out (Int × List (Int × Fm))) (G_lof k (Fm.eta (r1.getD (0 : Int).toNat (Fm.mk 0 0 [] [])))) fun or14 => match or14 with
 | .ret r14 => (
 Option.bind (α := Out (Int × List (Int × Fm))) (G_lof k (Fm.eta (r1.getD (1 : Int).toNat (Fm.mk 0 0 [] [])))) fun or15 => match or15 with
 | .ret r15 => (
 cond (decide ((r14.2.length : Int) = 0)) (Option.bind (α := Out (Int × List (Int × Fm))) (G_plus (0, ([] : List (Int × Fm))) r15 r14.1) fun or16 => match or16 with
 | .ret r16 => (
 some (Step.done (Out.ret r16)))
 | .pan => (some (Step.done Out.pan))) (cond (decide ((r15.2.length : Int) = 0)) (Option.bind (α := Out (Int × List (Int × Fm))) (G_plus (0, ([] : List (Int × Fm))) r14 r15.1) fun or17 => match or17 with
 | .ret r17 => (
 some (Step.done (Out.ret r17)))
 | .pan => (some (Step.done Out.pan))) (some (Step.next (((x0.k, x0.n, x0.t, x0.l, ()), (), ()), ((0, (), ()), ()))))))
 | .pan => (some (Step.done Out.pan)))
 | .pan => (some (Step.done Out.pan))) none) none) (some (Step.next (((x0.k, x0.n, x0.t, x0.l, ()), (), ()), ((0, (), ()), ()))))))))))))) fun qd18 => match qd18 with
 | .next d18 => (
 Option.bind (α := Fm) (L_copy (Fm.mk d18.1.1.1 d18.1.1.2.1 d18.1.1.2.2.1 d18.1.1.2.2.2.1)) fun r19 => (
 some (Out.ret (0, [(1, (Fm.eta r19))]))))
 | .done r => some r))
def A_lof : An := .seq (.leaf) (.seq (.leaf) (.join true { env := [(1, (.rptr [(.d (.int .i64)), (.d (.int .i64)), (.d .str), (.d (.slice .form))])), (2, (.ref 0 0))], objs := [(false, .cells 73 [(.d (.int .i64)), (.c (.base (.slice none 0 0)))])] } (.leaf) (.leaf)))
def H_lof : Nat → RH := fun r => match r with
  | 5 => { H := { pl := [20, 24] }, π := [0, 1, 2, 4, 5, 6, 3, 7, 8, 9], tl := [6, 7, 8] }
  | 7 => { H := { pl := [32, 36] }, π := [0, 1, 2, 4, 5, 6, 3, 7, 8, 9], tl := [6, 7, 8] }
  | 11 => { H := { pl := [53, 57] }, π := [0, 1, 2, 4, 5, 6, 8, 9, 3, 7, 10, 11], tl := [8, 9] }
  | _ => {}
noncomputable def S_lof (k : Nat) : Sig := .p [(.d .form)] (.d (.pr (.int .i64) (.slice (.pr (.int .i64) .form)))) (.iface 118 (.agg [])) (fun x => G_lof k x.1)
theorem S_lof_rec : ∀ k, SigOK CX 101 (S_lof k)
| 0 => fun x r h => by cases h
| k + 1 => by
  have ih := S_lof_rec k
  exact sigP_of (l := [(146, S_rest), (112, S_isp), (101, (S_lof k)), (108, S_plus), (110, S_copy_l)]) ⟨S_rest_ok, S_isp_ok, ih, S_plus_ok, S_copy_l_ok, trivial⟩ (hint := H_lof) (an := A_lof) (fun x => by kernel_rfl)
theorem S_lof_ok : ∀ k, SigOK CX 101 (S_lof k) := fun k => S_lof_rec k
noncomputable def L_lof (x0 : Fm) : Option (Out (Int × List (Int × Fm))) := limF fun k => G_lof k x0
noncomputable def S_lof_l : Sig := .p [(.d .form)] (.d (.pr (.int .i64) (.slice (.pr (.int .i64) .form)))) (.iface 118 (.agg [])) (fun x => L_lof x.1)
theorem S_lof_l_ok : SigOK CX 101 S_lof_l := SigOK.limP S_lof_ok fun x r h => limF_ex h
noncomputable def G_visible (x0 : Int) : Option (Bool) := (
 some (cond (cond (cond (cond (cond (decide (x0 ≥ 33)) (decide (x0 ≤ 126)) false) (!decide (x0 = 40)) false) (!decide (x0 = 41)) false) (!decide (x0 = 34)) false) (!decide (x0 = 59)) false))
def A_visible : An := .leaf
def H_visible : Nat → RH := fun _ => {}
noncomputable def S_visible : Sig := .n [(.d (.int .u8))] (.d .bool) (fun x => G_visible x.1)
theorem S_visible_ok : SigOK CX 121 S_visible := sigN_of (l := []) trivial (hint := H_visible) (an := A_visible) (fun x => by kernel_rfl)
noncomputable def G_digits (x0 : List UInt8) : Option (Bool) := (
 Option.bind (α := ((List UInt8) × Unit) × (Unit))
 (cond ((ixOK 0 x0.length) || !(decide ((x0.length : Int) > 1))) (cond (cond (decide ((x0.length : Int) > 1)) (decide (byteAt x0 0 = 45)) false) (cond (slOK 1 (x0.length : Int) x0.length) (some (((x0.drop (1 : Int).toNat).take ((x0.length : Int).toNat - (1 : Int).toNat), ()), ())) none) (some ((x0, ()), ()))) none) fun d1 => (
 let v0_2 := d1.1.1
 Option.bind (α := Step (((List UInt8) × Unit) × (Unit)) (Bool))
 (loopM (L := ((List UInt8) × Int × Unit) × (Unit)) (R := Step (((List UInt8) × Unit) × (Unit)) (Bool)) (fun d3 => (
 let v0_4 := d3.1.1
 let v3_5 := d3.1.2.1
 cond (decide (v3_5 < (v0_4.length : Int))) (cond (ixOK v3_5 v0_4.length) (cond ((ixOK v3_5 v0_4.length) || !(!(decide (byteAt v0_4 v3_5 < 48)))) (cond (cond (decide (byteAt v0_4 v3_5 < 48)) true (decide (byteAt v0_4 v3_5 > 57))) (some (Step.done (Step.done false))) (some (Step.next ((v0_4, IntKind.wrap .i64 (v3_5 + 1), ()), ())))) none) none) (some (Step.done (Step.next ((v0_4, ()), ())))))) ((v0_2, 0, ()), ())) fun qd6 => match qd6 with
 | .next d6 => (
 let v0_7 := d6.1.1
 some (!decide (v0_7 = [])))
 | .done r => some r))
def A_digits : An := .seq (.leaf) (.join false { env := [(0, (.d .str))], objs := [] } (.leaf) (.join true { env := [(0, (.d .str))], objs := [] } (.seq (.leaf) (.block (.loop { env := [(0, (.d .str)), (3, (.d (.int .i64)))], objs := [] } (.leaf)))) (.leaf)))
def H_digits : Nat → RH := fun _ => {}
noncomputable def S_digits : Sig := .n [(.d .str)] (.d .bool) (fun x => G_digits x.1)
theorem S_digits_ok : SigOK CX 157 S_digits := sigN_of (l := []) trivial (hint := H_digits) (an := A_digits) (fun x => by kernel_rfl)
noncomputable def G_isWord (x0 : List UInt8) : Option (Bool) := (
 Option.bind (α := Step (((List UInt8) × Unit) × (Unit)) (Bool))
 (loopM (L := ((List UInt8) × Int × Unit) × (Unit)) (R := Step (((List UInt8) × Unit) × (Unit)) (Bool)) (fun d1 => (
 let v0_2 := d1.1.1
 let v3_3 := d1.1.2.1
 cond (decide (v3_3 < (v0_2.length : Int))) (cond (ixOK v3_3 v0_2.length) (Option.bind (α := Bool) (G_visible (byteAt v0_2 v3_3)) fun r4 => (
 cond (!r4) (some (Step.done (Step.done false))) (some (Step.next ((v0_2, IntKind.wrap .i64 (v3_3 + 1), ()), ()))))) none) (some (Step.done (Step.next ((v0_2, ()), ())))))) ((x0, 0, ()), ())) fun qd5 => match qd5 with
 | .next d5 => (
 let v0_6 := d5.1.1
 Option.bind (α := Bool) (cond (cond (decide ((v0_6.length : Int) ≥ 1)) (decide ((v0_6.length : Int) ≤ 30)) false) (G_digits v0_6) (some false)) fun r7 => (
 some (cond (cond (decide ((v0_6.length : Int) ≥ 1)) (decide ((v0_6.length : Int) ≤ 30)) false) (!r7) false)))
 | .done r => some r)
def A_isWord : An := .seq (.leaf) (.join true { env := [(0, (.d .str))], objs := [] } (.seq (.leaf) (.block (.loop { env := [(0, (.d .str)), (3, (.d (.int .i64)))], objs := [] } (.leaf)))) (.leaf))
def H_isWord : Nat → RH := fun _ => {}
noncomputable def S_isWord : Sig := .n [(.d .str)] (.d .bool) (fun x => G_isWord x.1)
theorem S_isWord_ok : SigOK CX 139 S_isWord := sigN_of (l := [(121, S_visible), (157, S_digits)]) ⟨S_visible_ok, S_digits_ok, trivial⟩ (hint := H_isWord) (an := A_isWord) (fun x => by kernel_rfl)
noncomputable def G_isText (x0 : List UInt8) : Option (Bool) := (
 Option.bind (α := Step (((List UInt8) × Unit) × (Unit)) (Bool))
 (loopM (L := ((List UInt8) × Int × Unit) × (Unit)) (R := Step (((List UInt8) × Unit) × (Unit)) (Bool)) (fun d1 => (
 let v0_2 := d1.1.1
 let v3_3 := d1.1.2.1
 cond (decide (v3_3 < (v0_2.length : Int))) (cond (ixOK v3_3 v0_2.length) (cond ((ixOK v3_3 v0_2.length) || !(!decide (byteAt v0_2 v3_3 = 10))) (cond ((ixOK v3_3 v0_2.length) || !((!decide (byteAt v0_2 v3_3 = 10)) && !(decide (byteAt v0_2 v3_3 < 32)))) (cond (cond (!decide (byteAt v0_2 v3_3 = 10)) (cond (decide (byteAt v0_2 v3_3 < 32)) true (decide (byteAt v0_2 v3_3 > 126))) false) (some (Step.done (Step.done false))) (some (Step.next ((v0_2, IntKind.wrap .i64 (v3_3 + 1), ()), ())))) none) none) none) (some (Step.done (Step.next ((v0_2, ()), ())))))) ((x0, 0, ()), ())) fun qd4 => match qd4 with
 | .next d4 => (
 let v0_5 := d4.1.1
 some (decide ((v0_5.length : Int) ≤ 2000)))
 | .done r => some r)
def A_isText : An := .seq (.leaf) (.join true { env := [(0, (.d .str))], objs := [] } (.seq (.leaf) (.block (.loop { env := [(0, (.d .str)), (3, (.d (.int .i64)))], objs := [] } (.leaf)))) (.leaf))
def H_isText : Nat → RH := fun _ => {}
noncomputable def S_isText : Sig := .n [(.d .str)] (.d .bool) (fun x => G_isText x.1)
theorem S_isText_ok : SigOK CX 140 S_isText := sigN_of (l := []) trivial (hint := H_isText) (an := A_isText) (fun x => by kernel_rfl)
noncomputable def G_fields (k : Nat) (x0 : Fm) : Option (Bool) := match k with
| 0 => none
| k + 1 => (
 cond (cond (cond (cond (!decide (x0.k = 0)) (!decide (x0.n = 0)) false) true (cond (!decide (x0.k = 3)) (decide ((x0.l.length : Int) > 0)) false)) true (cond (cond (!decide (x0.k = 1)) (!decide (x0.k = 2)) false) (!decide (x0.t = [])) false)) (some false) (Option.bind (α := Step ((Unit) × (Unit)) (Bool))
 (cond (decide (x0.k = 0)) (some (Step.done (cond (decide (x0.n ≥ (-1152921504606846976))) (decide (x0.n ≤ 1152921504606846976)) false))) (cond (decide (x0.k = 1)) (Option.bind (α := Bool) (G_isWord x0.t) fun r1 => (
 some (Step.done r1))) (cond (decide (x0.k = 2)) (Option.bind (α := Bool) (G_isText x0.t) fun r2 => (
 some (Step.done r2))) (cond (decide (x0.k = 3)) (Option.bind (α := Step ((Unit) × (Unit)) (Step ((Unit) × (Unit)) (Bool)))
 (loopM (L := ((Int × Int × (List UInt8) × (List Fm) × Unit) × Int × Unit) × (Unit)) (R := Step ((Unit) × (Unit)) (Step ((Unit) × (Unit)) (Bool))) (fun d3 => (
 let v3_4 := d3.1.2.1
 cond (decide (v3_4 < (d3.1.1.2.2.2.1.length : Int))) (cond (ixOK v3_4 d3.1.1.2.2.2.1.length) (Option.bind (α := Bool) (G_fields k (Fm.eta (d3.1.1.2.2.2.1.getD v3_4.toNat (Fm.mk 0 0 [] [])))) fun r5 => (
 cond (!r5) (some (Step.done (Step.done (Step.done false)))) (some (Step.next (((d3.1.1.1, d3.1.1.2.1, d3.1.1.2.2.1, d3.1.1.2.2.2.1, ()), IntKind.wrap .i64 (v3_4 + 1), ()), ()))))) none) (some (Step.done (Step.next ((), ())))))) (((x0.k, x0.n, x0.t, x0.l, ()), 0, ()), ())) fun qd6 => match qd6 with
 | .next d6 => (
 some (Step.done true))
 | .done r => some r) (some (Step.next ((), ()))))))) fun qd7 => match qd7 with
 | .next d7 => (
 some false)
 | .done r => some r))
def A_fields : An := .seq (.leaf) (.seq (.leaf) (.join true { env := [], objs := [] } (.seq (.leaf) (.block (.seq (.leaf) (.cond (.leaf) (.seq (.leaf) (.cond (.leaf) (.seq (.leaf) (.cond (.leaf) (.seq (.leaf) (.cond (.join true { env := [], objs := [] } (.seq (.leaf) (.block (.loop { env := [(1, (.rptr [(.d (.int .i64)), (.d (.int .i64)), (.d .str), (.d (.slice .form))])), (3, (.d (.int .i64)))], objs := [] } (.leaf)))) (.leaf)) (.leaf))))))))))) (.leaf)))
def H_fields : Nat → RH := fun _ => {}
noncomputable def S_fields (k : Nat) : Sig := .n [(.d .form)] (.d .bool) (fun x => G_fields k x.1)
theorem S_fields_rec : ∀ k, SigOK CX 93 (S_fields k)
| 0 => fun x r h => by cases h
| k + 1 => by
  have ih := S_fields_rec k
  exact sigN_of (l := [(139, S_isWord), (140, S_isText), (93, (S_fields k))]) ⟨S_isWord_ok, S_isText_ok, ih, trivial⟩ (hint := H_fields) (an := A_fields) (fun x => by kernel_rfl)
theorem S_fields_ok : ∀ k, SigOK CX 93 (S_fields k) := fun k => S_fields_rec k
noncomputable def L_fields (x0 : Fm) : Option (Bool) := limF fun k => G_fields k x0
noncomputable def S_fields_l : Sig := .n [(.d .form)] (.d .bool) (fun x => L_fields x.1)
theorem S_fields_l_ok : SigOK CX 93 S_fields_l := SigOK.limN S_fields_ok fun x r h => limF_ex h
noncomputable def G_refDepth (k : Nat) (x0 : Fm) : Option (Int) := match k with
| 0 => none
| k + 1 => (
 Option.bind (α := (Int × Unit) × (Unit))
 (loopM (L := ((Int × Int × (List UInt8) × (List Fm) × Unit) × Int × Int × Unit) × (Unit)) (R := (Int × Unit) × (Unit)) (fun d1 => (
 let v3_2 := d1.1.2.1
 let v4_3 := d1.1.2.2.1
 cond (cond (decide (d1.1.1.1 = 3)) (decide (v4_3 < (d1.1.1.2.2.2.1.length : Int))) false) (cond (ixOK v4_3 d1.1.1.2.2.2.1.length) (Option.bind (α := Int) (G_refDepth k (Fm.eta (d1.1.1.2.2.2.1.getD v4_3.toNat (Fm.mk 0 0 [] [])))) fun r4 => (
 some (Step.next (((d1.1.1.1, d1.1.1.2.1, d1.1.1.2.2.1, d1.1.1.2.2.2.1, ()), (if r4 > v3_2 then r4 else v3_2), IntKind.wrap .i64 (v4_3 + 1), ()), ())))) none) (some (Step.done ((v3_2, ()), ()))))) (((x0.k, x0.n, x0.t, x0.l, ()), 0, 0, ()), ())) fun d5 => (
 let v3_6 := d5.1.1
 some (IntKind.wrap .i64 (v3_6 + 1))))
def A_refDepth : An := .seq (.leaf) (.seq (.leaf) (.join false { env := [(3, (.d (.int .i64)))], objs := [] } (.seq (.leaf) (.block (.loop { env := [(1, (.rptr [(.d (.int .i64)), (.d (.int .i64)), (.d .str), (.d (.slice .form))])), (3, (.d (.int .i64))), (4, (.d (.int .i64)))], objs := [] } (.leaf)))) (.leaf)))
def H_refDepth : Nat → RH := fun _ => {}
noncomputable def S_refDepth (k : Nat) : Sig := .n [(.d .form)] (.d (.int .i64)) (fun x => G_refDepth k x.1)
theorem S_refDepth_rec : ∀ k, SigOK CX 46 (S_refDepth k)
| 0 => fun x r h => by cases h
| k + 1 => by
  have ih := S_refDepth_rec k
  exact sigN_of (l := [(46, (S_refDepth k))]) ⟨ih, trivial⟩ (hint := H_refDepth) (an := A_refDepth) (fun x => by kernel_rfl)
theorem S_refDepth_ok : ∀ k, SigOK CX 46 (S_refDepth k) := fun k => S_refDepth_rec k
noncomputable def L_refDepth (x0 : Fm) : Option (Int) := limF fun k => G_refDepth k x0
noncomputable def S_refDepth_l : Sig := .n [(.d .form)] (.d (.int .i64)) (fun x => L_refDepth x.1)
theorem S_refDepth_l_ok : SigOK CX 46 S_refDepth_l := SigOK.limN S_refDepth_ok fun x r h => limF_ex h
noncomputable def G_small1 (x0 : Fm) : Option (Bool) := (
 Option.bind (α := Int) (L_refSize (Fm.eta x0)) fun r1 => (
 Option.bind (α := Int) (cond (decide (r1 ≤ 20000)) (L_refDepth (Fm.eta x0)) (some (0 : Int))) fun r2 => (
 some (cond (decide (r1 ≤ 20000)) (decide (r2 ≤ 100)) false))))
def A_small1 : An := .leaf
def H_small1 : Nat → RH := fun _ => {}
noncomputable def S_small1 : Sig := .n [(.d .form)] (.d .bool) (fun x => G_small1 x.1)
theorem S_small1_ok : SigOK CX 71 S_small1 := sigN_of (l := [(12, S_refSize_l), (46, S_refDepth_l)]) ⟨S_refSize_l_ok, S_refDepth_l_ok, trivial⟩ (hint := H_small1) (an := A_small1) (fun x => by kernel_rfl)
noncomputable def G_refValid (x0 : Fm) : Option (Bool) := (
 Option.bind (α := Bool) (L_fields (Fm.eta x0)) fun r1 => (
 Option.bind (α := Bool) (cond r1 (G_small1 (Fm.eta x0)) (some false)) fun r2 => (
 some (cond r1 r2 false))))
def A_refValid : An := .leaf
def H_refValid : Nat → RH := fun _ => {}
noncomputable def S_refValid : Sig := .n [(.d .form)] (.d .bool) (fun x => G_refValid x.1)
theorem S_refValid_ok : SigOK CX 43 S_refValid := sigN_of (l := [(93, S_fields_l), (71, S_small1)]) ⟨S_fields_l_ok, S_small1_ok, trivial⟩ (hint := H_refValid) (an := A_refValid) (fun x => by kernel_rfl)
noncomputable def G_refHead (x0 : Fm) : Option (List UInt8) := (
 cond ((ixOK 0 x0.l.length) || !(!(cond (!decide (x0.k = 3)) true (decide ((x0.l.length : Int) = 0))))) (cond (cond (cond (!decide (x0.k = 3)) true (decide ((x0.l.length : Int) = 0))) true (!decide ((x0.l.getD (0 : Int).toNat (Fm.mk 0 0 [] [])).k = 1))) (some ([])) (cond (ixOK 0 x0.l.length) (some ((x0.l.getD (0 : Int).toNat (Fm.mk 0 0 [] [])).t)) none)) none)
def A_refHead : An := .leaf
def H_refHead : Nat → RH := fun _ => {}
noncomputable def S_refHead : Sig := .n [(.d .form)] (.d .str) (fun x => G_refHead x.1)
theorem S_refHead_ok : SigOK CX 50 S_refHead := sigN_of (l := []) trivial (hint := H_refHead) (an := A_refHead) (fun x => by kernel_rfl)
noncomputable def G_size34 (x0 : Int) : Option (Int) := (
 cond (decide (x0 < 0)) (some (if IntKind.wrap .i64 (0 - IntKind.wrap .i64 (x0 + 1)) > IntKind.wrap .i64 (0 - x0) then IntKind.wrap .i64 (0 - IntKind.wrap .i64 (x0 + 1)) else IntKind.wrap .i64 (0 - x0))) (some x0))
def A_size34 : An := .leaf
def H_size34 : Nat → RH := fun _ => {}
noncomputable def S_size34 : Sig := .n [(.d (.int .i64))] (.d (.int .i64)) (fun x => G_size34 x.1)
theorem S_size34_ok : SigOK CX 86 S_size34 := sigN_of (l := []) trivial (hint := H_size34) (an := A_size34) (fun x => by kernel_rfl)
noncomputable def G_times34 (x0 : Int) (x1 : Int) : Option (Int × Bool × Unit) := (
 Option.bind (α := Int) (cond (!decide (x0 = 0)) (G_size34 x1) (some (0 : Int))) fun r1 => (
 Option.bind (α := Int) (cond (!decide (x0 = 0)) (G_size34 x0) (some (0 : Int))) fun r2 => (
 cond ((!decide (r2 = 0)) || !(!decide (x0 = 0))) (cond (cond (!decide (x0 = 0)) (decide (r1 > IntKind.wrap .i64 (Int.tdiv 1152921504606846976 r2))) false) (some (0, false, ())) (some (IntKind.wrap .i64 (x0 * x1), true, ()))) none)))
def A_times34 : An := .leaf
def H_times34 : Nat → RH := fun _ => {}
noncomputable def S_times34 : Sig := .n [(.d (.int .i64)), (.d (.int .i64))] (.tup [(.d (.int .i64)), (.d .bool)]) (fun x => G_times34 x.1 x.2.1)
theorem S_times34_ok : SigOK CX 83 S_times34 := sigN_of (l := [(86, S_size34)]) ⟨S_size34_ok, trivial⟩ (hint := H_times34) (an := A_times34) (fun x => by kernel_rfl)
noncomputable def G_small34 (x0 : Int) : Option (Bool) := (
 some (cond (decide (x0 ≥ (-1152921504606846976))) (decide (x0 ≤ 1152921504606846976)) false))
def A_small34 : An := .leaf
def H_small34 : Nat → RH := fun _ => {}
noncomputable def S_small34 : Sig := .n [(.d (.int .i64))] (.d .bool) (fun x => G_small34 x.1)
theorem S_small34_ok : SigOK CX 84 S_small34 := sigN_of (l := []) trivial (hint := H_small34) (an := A_small34) (fun x => by kernel_rfl)
noncomputable def G_sum34 (x0 : Int × List (Int × Fm)) (x1 : Int × List (Int × Fm)) (x2 : Int) : Option ((Int × List (Int × Fm)) × Bool × Unit) := (
 Option.bind (α := Int × Bool × Unit) (G_times34 x1.1 x2) fun r1 => (
 Option.bind (α := Bool) (cond r1.2.1 (G_small34 (IntKind.wrap .i64 (x0.1 + r1.1))) (some false)) fun r2 => (
 Option.bind (α := (Unit × Bool × Unit × Unit) × ((Int × Unit × Unit) × (Int × Unit × Unit) × (List (Int × Fm)) × Unit))
 (loopM (L := (Int × (Int × (List (Int × Fm)) × Unit) × (Int × (List (Int × Fm)) × Unit) × Unit × Bool × Unit × Int × Int × Unit) × ((Int × Unit × Unit) × (Int × Unit × Unit) × (List (Int × Fm)) × Unit)) (R := (Unit × Bool × Unit × Unit) × ((Int × Unit × Unit) × (Int × Unit × Unit) × (List (Int × Fm)) × Unit)) (fun d3 => (
 let l4 := d3.2.2.2.1
 let v2_5 := d3.1.1
 let v9_6 := d3.1.2.2.2.2.1
 let v11_7 := d3.1.2.2.2.2.2.2.1
 let v12_8 := d3.1.2.2.2.2.2.2.2.1
 cond (cond v9_6 (cond (decide (v11_7 < (d3.1.2.1.2.1.length : Int))) true (decide (v12_8 < (d3.1.2.2.1.2.1.length : Int)))) false) (Option.bind (α := (Int × (Int × (List (Int × Fm)) × Unit) × (Int × (List (Int × Fm)) × Unit) × Unit × Bool × Unit × Int × Int × Int × Unit) × ((Int × Unit × Unit) × (Int × Unit × Unit) × (List (Int × Fm)) × Unit))
 (cond (decide (v11_7 = (d3.1.2.1.2.1.length : Int))) (some ((v2_5, (d3.1.2.1.1, d3.1.2.1.2.1, ()), (d3.1.2.2.1.1, d3.1.2.2.1.2.1, ()), (), v9_6, (), v11_7, v12_8, 1, ()), ((d3.2.1.1, (), ()), (d3.2.2.1.1, (), ()), l4, ()))) (cond (decide (v12_8 = (d3.1.2.2.1.2.1.length : Int))) (some ((v2_5, (d3.1.2.1.1, d3.1.2.1.2.1, ()), (d3.1.2.2.1.1, d3.1.2.2.1.2.1, ()), (), v9_6, (), v11_7, v12_8, (-1), ()), ((d3.2.1.1, (), ()), (d3.2.2.1.1, (), ()), l4, ()))) (cond (ixOK v11_7 d3.1.2.1.2.1.length) (cond (ixOK v12_8 d3.1.2.2.1.2.1.length) (Option.bind (α := Int) (L_refCompare (Fm.eta ((d3.1.2.1.2.1.getD v11_7.toNat ((0 : Int), (Fm.mk 0 0 [] []))).2)) (Fm.eta ((d3.1.2.2.1.2.1.getD v12_8.toNat ((0 : Int), (Fm.mk 0 0 [] []))).2))) fun r9 => (
 some ((v2_5, (d3.1.2.1.1, d3.1.2.1.2.1, ()), (d3.1.2.2.1.1, d3.1.2.2.1.2.1, ()), (), v9_6, (), v11_7, v12_8, r9, ()), ((d3.2.1.1, (), ()), (d3.2.2.1.1, (), ()), l4, ())))) none) none))) fun d10 => (
 let l11 := d10.2.2.2.1
 let v2_12 := d10.1.1
 let v9_13 := d10.1.2.2.2.2.1
 let v11_14 := d10.1.2.2.2.2.2.2.1
 let v12_15 := d10.1.2.2.2.2.2.2.2.1
 let v13_16 := d10.1.2.2.2.2.2.2.2.2.1
 Option.bind (α := (Int × (Int × (List (Int × Fm)) × Unit) × (Int × (List (Int × Fm)) × Unit) × Unit × Bool × Unit × Int × Int × Int × Unit × Unit) × ((Int × Unit × Unit) × (Int × Unit × Unit) × (Int × Int × Int × (List UInt8) × (List Fm) × Unit) × (List (Int × Fm)) × Unit))
 (cond (decide (v13_16 ≤ 0)) (cond (ixOK v11_14 d10.1.2.1.2.1.length) (some ((v2_12, (d10.1.2.1.1, d10.1.2.1.2.1, ()), (d10.1.2.2.1.1, d10.1.2.2.1.2.1, ()), (), v9_13, (), IntKind.wrap .i64 (v11_14 + 1), v12_15, v13_16, (), ()), ((d10.2.1.1, (), ()), (d10.2.2.1.1, (), ()), ((d10.1.2.1.2.1.getD v11_14.toNat ((0 : Int), (Fm.mk 0 0 [] []))).1, ((d10.1.2.1.2.1.getD v11_14.toNat ((0 : Int), (Fm.mk 0 0 [] []))).2).k, ((d10.1.2.1.2.1.getD v11_14.toNat ((0 : Int), (Fm.mk 0 0 [] []))).2).n, ((d10.1.2.1.2.1.getD v11_14.toNat ((0 : Int), (Fm.mk 0 0 [] []))).2).t, ((d10.1.2.1.2.1.getD v11_14.toNat ((0 : Int), (Fm.mk 0 0 [] []))).2).l, ()), l11, ()))) none) (some ((v2_12, (d10.1.2.1.1, d10.1.2.1.2.1, ()), (d10.1.2.2.1.1, d10.1.2.2.1.2.1, ()), (), v9_13, (), v11_14, v12_15, v13_16, (), ()), ((d10.2.1.1, (), ()), (d10.2.2.1.1, (), ()), (0, 0, 0, [], ([] : List Fm), ()), l11, ())))) fun d17 => (
 let c18 := d17.2.2.2.1.1
 let c19 := d17.2.2.2.1.2.1
 let c20 := d17.2.2.2.1.2.2.1
 let c21 := d17.2.2.2.1.2.2.2.1
 let c22 := d17.2.2.2.1.2.2.2.2.1
 let l23 := d17.2.2.2.2.1
 let v2_24 := d17.1.1
 let v9_25 := d17.1.2.2.2.2.1
 let v11_26 := d17.1.2.2.2.2.2.2.1
 let v12_27 := d17.1.2.2.2.2.2.2.2.1
 let v13_28 := d17.1.2.2.2.2.2.2.2.2.1
 Option.bind (α := (Int × (Int × (List (Int × Fm)) × Unit) × (Int × (List (Int × Fm)) × Unit) × Unit × Bool × Unit × Int × Int × Unit × Unit) × ((Int × Unit × Unit) × (Int × Unit × Unit) × (Int × Int × Int × (List UInt8) × (List Fm) × Unit) × (List (Int × Fm)) × Unit))
 (cond (decide (v13_28 ≥ 0)) (cond (ixOK v12_27 d17.1.2.2.1.2.1.length) (Option.bind (α := Int × Bool × Unit) (G_times34 ((d17.1.2.2.1.2.1.getD v12_27.toNat ((0 : Int), (Fm.mk 0 0 [] []))).1) v2_24) fun r29 => (
 Option.bind (α := Bool) (cond r29.2.1 (G_small34 (IntKind.wrap .i64 (c18 + r29.1))) (some false)) fun r30 => (
 cond (ixOK v12_27 d17.1.2.2.1.2.1.length) (some ((v2_24, (d17.1.2.1.1, d17.1.2.1.2.1, ()), (d17.1.2.2.1.1, d17.1.2.2.1.2.1, ()), (), cond r29.2.1 r30 false, (), v11_26, IntKind.wrap .i64 (v12_27 + 1), (), ()), ((d17.2.1.1, (), ()), (d17.2.2.1.1, (), ()), (IntKind.wrap .i64 (c18 + r29.1), ((d17.1.2.2.1.2.1.getD v12_27.toNat ((0 : Int), (Fm.mk 0 0 [] []))).2).k, ((d17.1.2.2.1.2.1.getD v12_27.toNat ((0 : Int), (Fm.mk 0 0 [] []))).2).n, ((d17.1.2.2.1.2.1.getD v12_27.toNat ((0 : Int), (Fm.mk 0 0 [] []))).2).t, ((d17.1.2.2.1.2.1.getD v12_27.toNat ((0 : Int), (Fm.mk 0 0 [] []))).2).l, ()), l23, ()))) none))) none) (some ((v2_24, (d17.1.2.1.1, d17.1.2.1.2.1, ()), (d17.1.2.2.1.1, d17.1.2.2.1.2.1, ()), (), v9_25, (), v11_26, v12_27, (), ()), ((d17.2.1.1, (), ()), (d17.2.2.1.1, (), ()), (c18, c19, c20, c21, c22, ()), l23, ())))) fun d31 => (
 let c32 := d31.2.2.2.1.1
 let c33 := d31.2.2.2.1.2.1
 let c34 := d31.2.2.2.1.2.2.1
 let c35 := d31.2.2.2.1.2.2.2.1
 let c36 := d31.2.2.2.1.2.2.2.2.1
 let l37 := d31.2.2.2.2.1
 let v2_38 := d31.1.1
 let v9_39 := d31.1.2.2.2.2.1
 let v11_40 := d31.1.2.2.2.2.2.2.1
 let v12_41 := d31.1.2.2.2.2.2.2.2.1
 cond (!decide (c32 = 0)) (cond (decide ((l37.length + ([(c32, (Fm.mk c33 c34 c35 c36))]).length) * 64 ≤ 140737488355328)) (some (Step.next ((v2_38, (d31.1.2.1.1, d31.1.2.1.2.1, ()), (d31.1.2.2.1.1, d31.1.2.2.1.2.1, ()), (), v9_39, (), v11_40, v12_41, ()), ((d31.2.1.1, (), ()), (d31.2.2.1.1, (), ()), l37 ++ ([(c32, (Fm.mk c33 c34 c35 c36))]), ())))) none) (some (Step.next ((v2_38, (d31.1.2.1.1, d31.1.2.1.2.1, ()), (d31.1.2.2.1.1, d31.1.2.2.1.2.1, ()), (), v9_39, (), v11_40, v12_41, ()), ((d31.2.1.1, (), ()), (d31.2.2.1.1, (), ()), l37, ())))))))) (some (Step.done (((), v9_6, (), ()), ((d3.2.1.1, (), ()), (d3.2.2.1.1, (), ()), l4, ())))))) ((x2, (x0.1, x0.2, ()), (x1.1, x1.2, ()), (), cond r1.2.1 r2 false, (), 0, 0, ()), ((0, (), ()), (IntKind.wrap .i64 (x0.1 + r1.1), (), ()), ([] : List (Int × Fm)), ()))) fun d42 => (
 let l43 := d42.2.2.2.1
 let v9_44 := d42.1.2.1
 some ((d42.2.2.1.1, l43), v9_44, ())))))
def A_sum34 : An := .seq (.leaf) (.seq (.leaf) (.seq (.leaf) (.seq (.leaf) (.seq (.leaf) (.join false { env := [(6, (.ref 0 0)), (9, (.d .bool)), (10, (.ref 1 0))], objs := [(false, .cells 70 [(.d (.int .i64)), (.c (.base (.slice none 0 0)))]), (false, .cells 70 [(.d (.int .i64)), (.gs 2 (.pr (.int .i64) .form))]), (false, .tg (.pr (.int .i64) .form) 95)] } (.block (.loop { env := [(2, (.d (.int .i64))), (3, (.rptr [(.d (.int .i64)), (.d (.slice (.pr (.int .i64) .form)))])), (4, (.rptr [(.d (.int .i64)), (.d (.slice (.pr (.int .i64) .form)))])), (6, (.ref 0 0)), (9, (.d .bool)), (10, (.ref 1 0)), (11, (.d (.int .i64))), (12, (.d (.int .i64)))], objs := [(false, .cells 70 [(.d (.int .i64)), (.c (.base (.slice none 0 0)))]), (false, .cells 70 [(.d (.int .i64)), (.gs 2 (.pr (.int .i64) .form))]), (false, .tg (.pr (.int .i64) .form) 95)] } (.seq (.leaf) (.block (.seq (.leaf) (.join false { env := [(2, (.d (.int .i64))), (3, (.rptr [(.d (.int .i64)), (.d (.slice (.pr (.int .i64) .form)))])), (4, (.rptr [(.d (.int .i64)), (.d (.slice (.pr (.int .i64) .form)))])), (6, (.ref 0 0)), (9, (.d .bool)), (10, (.ref 1 0)), (11, (.d (.int .i64))), (12, (.d (.int .i64))), (13, (.d (.int .i64)))], objs := [(false, .cells 70 [(.d (.int .i64)), (.c (.base (.slice none 0 0)))]), (false, .cells 70 [(.d (.int .i64)), (.gs 2 (.pr (.int .i64) .form))]), (false, .tg (.pr (.int .i64) .form) 95)] } (.leaf) (.seq (.leaf) (.join false { env := [(2, (.d (.int .i64))), (3, (.rptr [(.d (.int .i64)), (.d (.slice (.pr (.int .i64) .form)))])), (4, (.rptr [(.d (.int .i64)), (.d (.slice (.pr (.int .i64) .form)))])), (6, (.ref 0 0)), (9, (.d .bool)), (10, (.ref 1 0)), (11, (.d (.int .i64))), (12, (.d (.int .i64))), (13, (.d (.int .i64))), (14, (.ref 2 0))], objs := [(false, .cells 70 [(.d (.int .i64)), (.c (.base (.slice none 0 0)))]), (false, .cells 70 [(.d (.int .i64)), (.gs 3 (.pr (.int .i64) .form))]), (false, .cells 95 [(.d (.int .i64)), (.d (.int .i64)), (.d (.int .i64)), (.d .str), (.d (.slice .form))]), (false, .tg (.pr (.int .i64) .form) 95)] } (.leaf) (.join false { env := [(2, (.d (.int .i64))), (3, (.rptr [(.d (.int .i64)), (.d (.slice (.pr (.int .i64) .form)))])), (4, (.rptr [(.d (.int .i64)), (.d (.slice (.pr (.int .i64) .form)))])), (6, (.ref 0 0)), (9, (.d .bool)), (10, (.ref 1 0)), (11, (.d (.int .i64))), (12, (.d (.int .i64))), (14, (.ref 2 0))], objs := [(false, .cells 70 [(.d (.int .i64)), (.c (.base (.slice none 0 0)))]), (false, .cells 70 [(.d (.int .i64)), (.gs 3 (.pr (.int .i64) .form))]), (false, .cells 95 [(.d (.int .i64)), (.d (.int .i64)), (.d (.int .i64)), (.d .str), (.d (.slice .form))]), (false, .tg (.pr (.int .i64) .form) 95)] } (.leaf) (.leaf)))))))))) (.leaf))))))
def H_sum34 : Nat → RH := fun r => match r with
  | 7 => { H := { pl := [51, 55, 57, 61] } }
  | 19 => { H := { pl := [110, 114] } }
  | 22 => { H := { ty := [(125, (.pr (.int .i64) .form))] } }
  | _ => {}
noncomputable def S_sum34 : Sig := .n [(.d (.pr (.int .i64) (.slice (.pr (.int .i64) .form)))), (.d (.pr (.int .i64) (.slice (.pr (.int .i64) .form)))), (.d (.int .i64))] (.tup [(.d (.pr (.int .i64) (.slice (.pr (.int .i64) .form)))), (.d .bool)]) (fun x => G_sum34 x.1 x.2.1 x.2.2.1)
theorem S_sum34_ok : SigOK CX 109 S_sum34 := sigN_of (l := [(83, S_times34), (84, S_small34), (72, S_refCompare_l)]) ⟨S_times34_ok, S_small34_ok, S_refCompare_l_ok, trivial⟩ (hint := H_sum34) (an := A_sum34) (fun x => by kernel_rfl)
-- BAD plinth/plinthref34.of of34 rec=1
noncomputable def G_refEqual (x0 : Fm) (x1 : Fm) : Option (Bool) := (
 Option.bind (α := Int) (L_refCompare (Fm.eta x0) (Fm.eta x1)) fun r1 => (
 some (decide (r1 = 0))))
def A_refEqual : An := .leaf
def H_refEqual : Nat → RH := fun _ => {}
noncomputable def S_refEqual : Sig := .n [(.d .form), (.d .form)] (.d .bool) (fun x => G_refEqual x.1 x.2.1)
theorem S_refEqual_ok : SigOK CX 27 S_refEqual := sigN_of (l := [(72, S_refCompare_l)]) ⟨S_refCompare_l_ok, trivial⟩ (hint := H_refEqual) (an := A_refEqual) (fun x => by kernel_rfl)
-- BAD plinth/plinthlaw34.same same34
-- BAD plinth/plinthref34.Rows rows34
noncomputable def G_mine34 (x0 : Int × List (Int × Fm)) : Option (Int × List (Int × Fm)) := (
 Option.bind (α := (Unit × Unit × Unit) × ((Int × Unit × Unit) × (Int × Unit × Unit) × (List (Int × Fm)) × Unit))
 (loopM (L := ((Int × (List (Int × Fm)) × Unit) × Unit × Unit × Int × Unit) × ((Int × Unit × Unit) × (Int × Unit × Unit) × (List (Int × Fm)) × Unit)) (R := (Unit × Unit × Unit) × ((Int × Unit × Unit) × (Int × Unit × Unit) × (List (Int × Fm)) × Unit)) (fun d1 => (
 let l2 := d1.2.2.2.1
 let v4_3 := d1.1.2.2.2.1
 cond (decide (v4_3 < (d1.1.1.2.1.length : Int))) (cond (ixOK v4_3 d1.1.1.2.1.length) (cond (ixOK v4_3 d1.1.1.2.1.length) (cond (decide ((l2.length + ([((d1.1.1.2.1.getD v4_3.toNat ((0 : Int), (Fm.mk 0 0 [] []))).1, (Fm.eta ((d1.1.1.2.1.getD v4_3.toNat ((0 : Int), (Fm.mk 0 0 [] []))).2)))]).length) * 64 ≤ 140737488355328)) (some (Step.next (((d1.1.1.1, d1.1.1.2.1, ()), (), (), IntKind.wrap .i64 (v4_3 + 1), ()), ((d1.2.1.1, (), ()), (d1.2.2.1.1, (), ()), l2 ++ ([((d1.1.1.2.1.getD v4_3.toNat ((0 : Int), (Fm.mk 0 0 [] []))).1, (Fm.eta ((d1.1.1.2.1.getD v4_3.toNat ((0 : Int), (Fm.mk 0 0 [] []))).2)))]), ())))) none) none) none) (some (Step.done (((), (), ()), ((d1.2.1.1, (), ()), (d1.2.2.1.1, (), ()), l2, ())))))) (((x0.1, x0.2, ()), (), (), 0, ()), ((0, (), ()), (x0.1, (), ()), ([] : List (Int × Fm)), ()))) fun d4 => (
 let l5 := d4.2.2.2.1
 some (d4.2.2.1.1, l5)))
def A_mine34 : An := .seq (.leaf) (.seq (.leaf) (.join false { env := [(2, (.ref 0 0)), (3, (.ref 1 0))], objs := [(false, .cells 73 [(.d (.int .i64)), (.c (.base (.slice none 0 0)))]), (false, .cells 73 [(.d (.int .i64)), (.gs 2 (.pr (.int .i64) .form))]), (false, .tg (.pr (.int .i64) .form) 140)] } (.seq (.leaf) (.block (.loop { env := [(1, (.rptr [(.d (.int .i64)), (.d (.slice (.pr (.int .i64) .form)))])), (2, (.ref 0 0)), (3, (.ref 1 0)), (4, (.d (.int .i64)))], objs := [(false, .cells 73 [(.d (.int .i64)), (.c (.base (.slice none 0 0)))]), (false, .cells 73 [(.d (.int .i64)), (.gs 2 (.pr (.int .i64) .form))]), (false, .tg (.pr (.int .i64) .form) 140)] } (.leaf)))) (.leaf)))
def H_mine34 : Nat → RH := fun r => match r with
  | 5 => { H := { pl := [18, 22, 24, 28], ty := [(31, (.pr (.int .i64) .form))] } }
  | _ => {}
noncomputable def S_mine34 : Sig := .n [(.d (.pr (.int .i64) (.slice (.pr (.int .i64) .form))))] (.d (.pr (.int .i64) (.slice (.pr (.int .i64) .form)))) (fun x => G_mine34 x.1)
theorem S_mine34_ok : SigOK CX 59 S_mine34 := sigN_of (l := []) trivial (hint := H_mine34) (an := A_mine34) (fun x => by kernel_rfl)
noncomputable def G_within (x0 : Int) : Option (Bool) := (
 some (cond (decide (x0 ≥ (-1152921504606846976))) (decide (x0 ≤ 1152921504606846976)) false))
def A_within : An := .leaf
def H_within : Nat → RH := fun _ => {}
noncomputable def S_within : Sig := .n [(.d (.int .i64))] (.d .bool) (fun x => G_within x.1)
theorem S_within_ok : SigOK CX 113 S_within := sigN_of (l := []) trivial (hint := H_within) (an := A_within) (fun x => by kernel_rfl)
noncomputable def G_lvalid (x0 : Int × List (Int × Fm)) : Option (Bool) := (
 Option.bind (α := Step (((Int × (List (Int × Fm)) × Unit) × Unit) × (Unit)) (Bool))
 (loopM (L := ((Int × (List (Int × Fm)) × Unit) × (List (Int × Fm)) × Int × Int × Unit) × (Unit)) (R := Step (((Int × (List (Int × Fm)) × Unit) × Unit) × (Unit)) (Bool)) (fun d1 => (
 let v6_2 := d1.1.2.1
 let v7_3 := d1.1.2.2.1
 let v8_4 := d1.1.2.2.2.1
 cond (decide (v8_4 < v7_3)) (cond (ixOK v8_4 v6_2.length) (Option.bind (α := Bool) (cond (!(decide ((v6_2.getD v8_4.toNat ((0 : Int), (Fm.mk 0 0 [] []))).1 = 0))) (G_within ((v6_2.getD v8_4.toNat ((0 : Int), (Fm.mk 0 0 [] []))).1)) (some false)) fun r5 => (
 Option.bind (α := Bool) (cond (!(cond (decide ((v6_2.getD v8_4.toNat ((0 : Int), (Fm.mk 0 0 [] []))).1 = 0)) true (!r5))) (G_rvalid (Fm.eta ((v6_2.getD v8_4.toNat ((0 : Int), (Fm.mk 0 0 [] []))).2))) (some false)) fun r6 => (
 cond ((ixOK (IntKind.wrap .i64 (v8_4 - 1)) d1.1.1.2.1.length) || !((!(cond (cond (decide ((v6_2.getD v8_4.toNat ((0 : Int), (Fm.mk 0 0 [] []))).1 = 0)) true (!r5)) true (!r6))) && decide (v8_4 > 0))) (Option.bind (α := Int) (cond ((!(cond (cond (decide ((v6_2.getD v8_4.toNat ((0 : Int), (Fm.mk 0 0 [] []))).1 = 0)) true (!r5)) true (!r6))) && decide (v8_4 > 0)) (L_compare (Fm.eta ((d1.1.1.2.1.getD (IntKind.wrap .i64 (v8_4 - 1)).toNat ((0 : Int), (Fm.mk 0 0 [] []))).2)) (Fm.eta ((v6_2.getD v8_4.toNat ((0 : Int), (Fm.mk 0 0 [] []))).2))) (some (0 : Int))) fun r7 => (
 cond (cond (cond (cond (decide ((v6_2.getD v8_4.toNat ((0 : Int), (Fm.mk 0 0 [] []))).1 = 0)) true (!r5)) true (!r6)) true (cond (decide (v8_4 > 0)) (decide (r7 ≥ 0)) false)) (some (Step.done (Step.done false))) (some (Step.next (((d1.1.1.1, d1.1.1.2.1, ()), v6_2, v7_3, IntKind.wrap .i64 (v8_4 + 1), ()), ()))))) none))) none) (some (Step.done (Step.next (((d1.1.1.1, d1.1.1.2.1, ()), ()), ())))))) (((x0.1, x0.2, ()), x0.2, (x0.2.length : Int), 0, ()), ())) fun qd8 => match qd8 with
 | .next d8 => (
 Option.bind (α := Bool) (G_within d8.1.1.1) fun r9 => (
 some r9))
 | .done r => some r)
def A_lvalid : An := .seq (.leaf) (.join true { env := [(1, (.rptr [(.d (.int .i64)), (.d (.slice (.pr (.int .i64) .form)))]))], objs := [] } (.seq (.leaf) (.block (.loop { env := [(1, (.rptr [(.d (.int .i64)), (.d (.slice (.pr (.int .i64) .form)))])), (6, (.d (.slice (.pr (.int .i64) .form)))), (7, (.d (.int .i64))), (8, (.d (.int .i64)))], objs := [] } (.leaf)))) (.leaf))
def H_lvalid : Nat → RH := fun r => match r with
  | 4 => { H := { pl := [33, 38] } }
  | _ => {}
noncomputable def S_lvalid : Sig := .n [(.d (.pr (.int .i64) (.slice (.pr (.int .i64) .form))))] (.d .bool) (fun x => G_lvalid x.1)
theorem S_lvalid_ok : SigOK CX 104 S_lvalid := sigN_of (l := [(113, S_within), (42, S_rvalid), (97, S_compare_l)]) ⟨S_within_ok, S_rvalid_ok, S_compare_l_ok, trivial⟩ (hint := H_lvalid) (an := A_lvalid) (fun x => by kernel_rfl)
noncomputable def G_valid34 (x0 : Int × List (Int × Fm)) : Option (Bool) := (
 Option.bind (α := Bool) (G_small34 x0.1) fun r1 => (
 cond (!r1) (some false) (Option.bind (α := Step ((Unit) × (Unit)) (Bool))
 (loopM (L := ((Int × (List (Int × Fm)) × Unit) × Int × Unit) × (Unit)) (R := Step ((Unit) × (Unit)) (Bool)) (fun d2 => (
 let v3_3 := d2.1.2.1
 cond (decide (v3_3 < (d2.1.1.2.1.length : Int))) (cond (ixOK v3_3 d2.1.1.2.1.length) (Option.bind (α := Bool) (cond (!(decide ((d2.1.1.2.1.getD v3_3.toNat ((0 : Int), (Fm.mk 0 0 [] []))).1 = 0))) (G_small34 ((d2.1.1.2.1.getD v3_3.toNat ((0 : Int), (Fm.mk 0 0 [] []))).1)) (some false)) fun r4 => (
 Option.bind (α := Bool) (cond (!(cond (decide ((d2.1.1.2.1.getD v3_3.toNat ((0 : Int), (Fm.mk 0 0 [] []))).1 = 0)) true (!r4))) (G_refValid (Fm.eta ((d2.1.1.2.1.getD v3_3.toNat ((0 : Int), (Fm.mk 0 0 [] []))).2))) (some false)) fun r5 => (
 cond ((ixOK (IntKind.wrap .i64 (v3_3 - 1)) d2.1.1.2.1.length) || !((!(cond (cond (decide ((d2.1.1.2.1.getD v3_3.toNat ((0 : Int), (Fm.mk 0 0 [] []))).1 = 0)) true (!r4)) true (!r5))) && decide (v3_3 > 0))) (Option.bind (α := Int) (cond ((!(cond (cond (decide ((d2.1.1.2.1.getD v3_3.toNat ((0 : Int), (Fm.mk 0 0 [] []))).1 = 0)) true (!r4)) true (!r5))) && decide (v3_3 > 0)) (L_refCompare (Fm.eta ((d2.1.1.2.1.getD (IntKind.wrap .i64 (v3_3 - 1)).toNat ((0 : Int), (Fm.mk 0 0 [] []))).2)) (Fm.eta ((d2.1.1.2.1.getD v3_3.toNat ((0 : Int), (Fm.mk 0 0 [] []))).2))) (some (0 : Int))) fun r6 => (
 cond (cond (cond (cond (decide ((d2.1.1.2.1.getD v3_3.toNat ((0 : Int), (Fm.mk 0 0 [] []))).1 = 0)) true (!r4)) true (!r5)) true (cond (decide (v3_3 > 0)) (decide (r6 ≥ 0)) false)) (some (Step.done (Step.done false))) (some (Step.next (((d2.1.1.1, d2.1.1.2.1, ()), IntKind.wrap .i64 (v3_3 + 1), ()), ()))))) none))) none) (some (Step.done (Step.next ((), ())))))) (((x0.1, x0.2, ()), 0, ()), ())) fun qd7 => match qd7 with
 | .next d7 => (
 some true)
 | .done r => some r)))
def A_valid34 : An := .seq (.leaf) (.seq (.leaf) (.join true { env := [], objs := [] } (.seq (.leaf) (.block (.loop { env := [(1, (.rptr [(.d (.int .i64)), (.d (.slice (.pr (.int .i64) .form)))])), (3, (.d (.int .i64)))], objs := [] } (.leaf)))) (.leaf)))
def H_valid34 : Nat → RH := fun r => match r with
  | 7 => { H := { pl := [41, 46] } }
  | _ => {}
noncomputable def S_valid34 : Sig := .n [(.d (.pr (.int .i64) (.slice (.pr (.int .i64) .form))))] (.d .bool) (fun x => G_valid34 x.1)
theorem S_valid34_ok : SigOK CX 77 S_valid34 := sigN_of (l := [(84, S_small34), (43, S_refValid), (72, S_refCompare_l)]) ⟨S_small34_ok, S_refValid_ok, S_refCompare_l_ok, trivial⟩ (hint := H_valid34) (an := A_valid34) (fun x => by kernel_rfl)
-- BAD plinth/plinthref34.Add add34
noncomputable def G_divisor (x0 : Int) (x1 : Int) : Option (Int) := (
 Option.bind (α := (Int × Unit) × (Unit))
 (loopM (L := (Int × Int × Unit) × (Unit)) (R := (Int × Unit) × (Unit)) (fun d1 => (
 let v0_2 := d1.1.1
 let v1_3 := d1.1.2.1
 cond (decide (v1_3 > 0)) (cond (!decide (v1_3 = 0)) (some (Step.next ((v1_3, Int.tmod v0_2 v1_3, ()), ()))) none) (some (Step.done ((v0_2, ()), ()))))) (((if IntKind.wrap .i64 (0 - x0) > x0 then IntKind.wrap .i64 (0 - x0) else x0), (if IntKind.wrap .i64 (0 - x1) > x1 then IntKind.wrap .i64 (0 - x1) else x1), ()), ())) fun d4 => (
 let v0_5 := d4.1.1
 some v0_5))
def A_divisor : An := .seq (.leaf) (.seq (.leaf) (.join false { env := [(0, (.d (.int .i64)))], objs := [] } (.block (.loop { env := [(0, (.d (.int .i64))), (1, (.d (.int .i64)))], objs := [] } (.leaf))) (.leaf)))
def H_divisor : Nat → RH := fun _ => {}
noncomputable def S_divisor : Sig := .n [(.d (.int .i64)), (.d (.int .i64))] (.d (.int .i64)) (fun x => G_divisor x.1 x.2.1)
theorem S_divisor_ok : SigOK CX 162 S_divisor := sigN_of (l := []) trivial (hint := H_divisor) (an := A_divisor) (fun x => by kernel_rfl)
noncomputable def G_divisor34 (x0 : Int) (x1 : Int) : Option (Int) := (
 Option.bind (α := (Int × Unit) × (Unit))
 (loopM (L := (Int × Int × Unit) × (Unit)) (R := (Int × Unit) × (Unit)) (fun d1 => (
 let v0_2 := d1.1.1
 let v1_3 := d1.1.2.1
 cond (!decide (v1_3 = 0)) (cond (!decide (v1_3 = 0)) (some (Step.next ((v1_3, Int.tmod v0_2 v1_3, ()), ()))) none) (some (Step.done ((v0_2, ()), ()))))) ((x0, x1, ()), ())) fun d4 => (
 let v0_5 := d4.1.1
 some v0_5))
def A_divisor34 : An := .seq (.leaf) (.join false { env := [(0, (.d (.int .i64)))], objs := [] } (.block (.loop { env := [(0, (.d (.int .i64))), (1, (.d (.int .i64)))], objs := [] } (.leaf))) (.leaf))
def H_divisor34 : Nat → RH := fun _ => {}
noncomputable def S_divisor34 : Sig := .n [(.d (.int .i64)), (.d (.int .i64))] (.d (.int .i64)) (fun x => G_divisor34 x.1 x.2.1)
theorem S_divisor34_ok : SigOK CX 85 S_divisor34 := sigN_of (l := []) trivial (hint := H_divisor34) (an := A_divisor34) (fun x => by kernel_rfl)
-- BAD plinth/linear.Tight tight
-- BAD plinth/plinthref34.Tight tight34
noncomputable def G_pnum (x0 : Int) : Option (Fm) := (
 some (Fm.mk 0 x0 ([]) ([] : List Fm)))
def A_pnum : An := .leaf
def H_pnum : Nat → RH := fun _ => {}
noncomputable def S_pnum : Sig := .n [(.d (.int .i64))] (.d .form) (fun x => G_pnum x.1)
theorem S_pnum_ok : SigOK CX 133 S_pnum := sigN_of (l := []) trivial (hint := H_pnum) (an := A_pnum) (fun x => by kernel_rfl)
noncomputable def G_pword (x0 : List UInt8) : Option (Fm) := (
 some (Fm.mk 1 0 x0 ([] : List Fm)))
def A_pword : An := .leaf
def H_pword : Nat → RH := fun _ => {}
noncomputable def S_pword : Sig := .n [(.d .str)] (.d .form) (fun x => G_pword x.1)
theorem S_pword_ok : SigOK CX 166 S_pword := sigN_of (l := []) trivial (hint := H_pword) (an := A_pword) (fun x => by kernel_rfl)
noncomputable def G_plist (x0 : List Fm) : Option (Fm) := (
 some (Fm.mk 3 0 ([]) x0))
def A_plist : An := .leaf
def H_plist : Nat → RH := fun _ => {}
noncomputable def S_plist : Sig := .n [(.d (.slice .form))] (.d .form) (fun x => G_plist x.1)
theorem S_plist_ok : SigOK CX 132 S_plist := sigN_of (l := []) trivial (hint := H_plist) (an := A_plist) (fun x => by kernel_rfl)
noncomputable def G_plistO (o0 : List Fm) : Option ((Fm) × (Unit)) := (
 some ((Fm.mk 3 0 ([]) o0), ()))
def A_plistO : An := .seq (.leaf) (.seq (.leaf) (.frz [0] .leaf))
def H_plistO : Nat → RH := fun _ => {}
noncomputable def S_plistO : Sig := .o { pre := [(false, .tg .form 26)], args := [(.gs 0 .form)], post := [], res := (.d .form), f := fun x => G_plistO x.2.1 }
theorem S_plistO_ok : SigOK CX 132 S_plistO := sigO_of (l := []) trivial (hint := H_plistO) (an := A_plistO) (by kernel_rfl) (fun x => by kernel_rfl)
noncomputable def G_pof (x0 : List UInt8) (x1 : List Fm) : Option (Fm) := (
 Option.bind (α := Fm) (G_pword x0) fun r1 => (
 cond (decide ((([(Fm.eta r1)]).length + x1.length) * 56 ≤ 140737488355328)) (Option.bind (α := (Fm) × (Unit)) (G_plistO (([(Fm.eta r1)]) ++ x1)) fun r2 => (
 some (Fm.eta r2.1))) none))
def A_pof : An := .leaf
def H_pof : Nat → RH := fun r => match r with
  | 1 => { H := { mb := [7], ac := [10], ty := [(7, .form), (9, .form)] } }
  | _ => {}
noncomputable def S_pof : Sig := .n [(.d .str), (.d (.slice .form))] (.d .form) (fun x => G_pof x.1 x.2.1)
theorem S_pof_ok : SigOK CX 131 S_pof := sigN_of (l := [(166, S_pword), (132, S_plistO)]) ⟨S_pword_ok, S_plistO_ok, trivial⟩ (hint := H_pof) (an := A_pof) (fun x => by kernel_rfl)
-- BAD plinth/linear.Term lterm
noncomputable def G_refWord (x0 : List UInt8) : Option (Fm) := (
 some (Fm.mk 1 0 x0 ([] : List Fm)))
def A_refWord : An := .leaf
def H_refWord : Nat → RH := fun _ => {}
noncomputable def S_refWord : Sig := .n [(.d .str)] (.d .form) (fun x => G_refWord x.1)
theorem S_refWord_ok : SigOK CX 158 S_refWord := sigN_of (l := []) trivial (hint := H_refWord) (an := A_refWord) (fun x => by kernel_rfl)
noncomputable def G_refList (x0 : List Fm) : Option (Fm) := (
 some (Fm.mk 3 0 ([]) x0))
def A_refList : An := .leaf
def H_refList : Nat → RH := fun _ => {}
noncomputable def S_refList : Sig := .n [(.d (.slice .form))] (.d .form) (fun x => G_refList x.1)
theorem S_refList_ok : SigOK CX 61 S_refList := sigN_of (l := []) trivial (hint := H_refList) (an := A_refList) (fun x => by kernel_rfl)
-- BAD plinth/plinthref34.Term term34
end Go.Ab

/-
  THE ORDER OF FORMS: what the reference's comparison comes to; and the statement, in plain terms.
-/
set_option linter.unusedVariables false
set_option linter.unusedSimpArgs false
set_option maxRecDepth 100000
namespace Go.Ab
open Go Go.RowKit Go.Proofs
theorem cmpL_end {l m : List Fm} {i : Nat} (h : i = min l.length m.length) : cmpL (l.drop i) (m.drop i) = if l.length < m.length then -1 else if m.length < l.length then 1 else 0 := by
  by_cases hlm : l.length ≤ m.length
  · rw [Nat.min_eq_left hlm] at h
    subst h
    simp only [List.drop_length, cmpL]
    by_cases hd : m.drop l.length = []
    · have := List.drop_eq_nil_iff.1 hd
      rw [if_pos hd, if_neg (by omega), if_neg (by omega)]
    · have : ¬ m.length ≤ l.length := fun h => hd (List.drop_eq_nil_iff.2 h)
      rw [if_neg hd, if_pos (by omega)]
  · have h1 : m.length < l.length := by omega
    rw [Nat.min_eq_right (by omega)] at h
    subst h
    simp only [List.drop_length]
    rw [List.drop_eq_getElem_cons h1, if_neg (by omega), if_pos h1]
    simp [cmpL]
theorem sgn_cmpI (a b : Int) : G_sign (decide (a < b)) (decide (a > b)) = some (cmpI a b) := by
  rw [sign_val]; unfold cmpI; simp only [decide_eq_true_eq, gt_iff_lt]
theorem sgn_cmpS (a b : List UInt8) : G_sign (Op.bytesLess a b) (!(Op.bytesLess a b || decide (a = b))) = some (cmpS a b) := by
  rw [sign_val]; unfold cmpS
  by_cases h : Op.bytesLess a b = true
  · simp [h]
  · by_cases h' : a = b
    · subst h'; simp [bytesLess_irrefl]
    · simp [h, h']
theorem refCompare_step (k : Nat) (hF : ∀ f g : Fm, f.big ≤ 4611686018427387000 → Up (k < f.big) (G_refCompare k f g) (cmpF f g)) (f g : Fm) (hb : f.big ≤ 4611686018427387000) : Up (k + 1 < f.big) (G_refCompare (k + 1) f g) (cmpF f g) := by
  obtain ⟨a, n, t, l⟩ := f
  obtain ⟨a', n', t', l'⟩ := g
  have hk := big_kids (.mk a n t l)
  have hl := length_le_big l
  simp only [Fm.l] at hk
  rw [cmpF_mk]
  unfold G_refCompare
  simp only [sgn_cmpI, sgn_cmpS]
  simp only [Fm.k, Fm.n, Fm.t, Fm.l, sgn_cmpI, sgn_cmpS, Option.bind_some]
  by_cases h : a = a'
  · subst h
    simp only [decide_true, Bool.not_true, cond_false, if_true]
    by_cases h0 : a = 0
    · subst h0; simp only [decide_true, cond_true, if_true]; exact .of rfl
    · simp only [h0, decide_false, cond_false, if_false]
      by_cases h1 : a = 1
      · subst h1; simp only [decide_true, cond_true, Option.bind_some, true_or, if_true]; exact .of rfl
      · simp only [h1, decide_false, cond_false, Option.bind_some, false_or]
        by_cases h2 : a = 2
        · subst h2; simp only [decide_true, cond_true, if_true]; exact .of rfl
        · simp only [h2, decide_false, cond_false, if_false]
          by_cases h3 : a = 3
          · subst h3
            simp only [decide_true, cond_true, if_true]
            refine Up.bind (v := Step.done (cmpL l l')) ?_ (.of rfl)
            refine loop_ix (fun i => (((3, n, t, l, ()), (3, n', t', l', ()), (i : Int), ()), ())) (fun i => (Step.done (cmpL (l.drop i) (l'.drop i)) : Step ((Unit) × (Unit)) (Int))) (min l.length l'.length) (fun i hi => ?_) ?_
            · have h1 : i < l.length := by omega
              have h2 : i < l'.length := by omega
              have e1 : decide ((i : Int) < (l.length : Int)) = true := by simp [h1]
              have e3 : decide ((i : Int) < (l'.length : Int)) = true := by simp [h2]
              have e2 : ixOK (i : Int) l.length = true := ixOK_iff.2 (by omega)
              have e4 : ixOK (i : Int) l'.length = true := ixOK_iff.2 (by omega)
              simp only [e1, e2, e3, e4, cond_true, cond_false, Int.toNat_natCast, getD_in h1, getD_in h2, Fm.eta_eq, wrapN (show i < 4611686018427387904 by omega), cmpL_drop h1 h2]
              have hm := big_mem (List.getElem_mem h1)
              rcases hF l[i] l'[i] (by omega) with h | ⟨h, hn⟩
              · rw [h]
                by_cases hc : cmpF l[i] l'[i] = 0
                · refine .inl ⟨by simp [hc], by simp [hc]⟩
                · refine .inr (.inl ⟨.done (.done (cmpF l[i] l'[i])), by simp [hc], .of (by simp [hc])⟩)
              · rw [h]
                exact .inr (.inr ⟨rfl, by omega⟩)
            · have hx : ¬ (min l.length l'.length < l.length ∧ min l.length l'.length < l'.length) := by omega
              refine ⟨.next (((3, n, t, l, ()), (3, n', t', l', ()), ()), ()), ?_, .of ?_⟩
              · have : (cond (decide (((min l.length l'.length : Nat) : Int) < (l.length : Int))) (decide (((min l.length l'.length : Nat) : Int) < (l'.length : Int))) false) = false := by
                  by_cases q : ((min l.length l'.length : Nat) : Int) < (l.length : Int)
                  · have : ¬ ((min l.length l'.length : Nat) : Int) < (l'.length : Int) := by omega
                    simp only [q, this, decide_true, decide_false, cond_true]
                  · simp only [q, decide_false, cond_false]
                simp only [this, cond_false]
              · rw [cmpL_end rfl]
                simp only [sgn_cmpI, Option.bind_some]
                unfold cmpI
                simp only [Int.ofNat_lt]
          · simp only [h3, decide_false, cond_false, if_false]; exact .of rfl
  · simp only [h, decide_false, Bool.not_false, cond_true, if_false]; exact .of rfl
theorem refCompare_up : ∀ k, ∀ f g : Fm, f.big ≤ 4611686018427387000 → Up (k < f.big) (G_refCompare k f g) (cmpF f g)
  | 0 => fun f g hb => .inr ⟨by unfold G_refCompare; rfl, by have := big_pos f; omega⟩
  | k + 1 => refCompare_step k (refCompare_up k)
theorem refCompare_val {f g : Fm} (hb : f.big ≤ 4611686018427387000) : L_refCompare f g = some (cmpF f g) := limF_up (b := f.big) fun k => refCompare_up k f g hb
end Go.Ab

set_option linter.unusedVariables false
set_option linter.unusedSimpArgs false
set_option maxRecDepth 100000
namespace Go.Ab
open Go Go.RowKit Go.Proofs
mutual
def Fm.size : Fm → Nat
  | .mk k _ _ l => 1 + (if k = 3 then Fm.sizeL l else 0)
def Fm.sizeL : List Fm → Nat
  | [] => 0
  | f :: r => f.size + Fm.sizeL r
end
mutual
def Fm.depth : Fm → Nat
  | .mk k _ _ l => 1 + (if k = 3 then Fm.depthL l else 0)
def Fm.depthL : List Fm → Nat
  | [] => 0
  | f :: r => max f.depth (Fm.depthL r)
end
theorem sizeL_le : ∀ l : List Fm, (∀ f ∈ l, f.size ≤ f.big) → Fm.sizeL l ≤ Fm.bigL l
  | [], _ => by simp [Fm.sizeL, Fm.bigL]
  | f :: r, h => by
    simp only [Fm.sizeL, Fm.bigL]
    have := h f (by simp)
    have := sizeL_le r fun g hg => h g (by simp [hg])
    omega
theorem size_le : ∀ f : Fm, f.size ≤ f.big := Fm.ind fun k n t l ih => by
  have := sizeL_le l ih
  simp only [Fm.size, Fm.big]
  split <;> omega
theorem depthL_le : ∀ l : List Fm, (∀ f ∈ l, f.depth ≤ f.big) → Fm.depthL l ≤ Fm.bigL l
  | [], _ => by simp [Fm.depthL, Fm.bigL]
  | f :: r, h => by
    simp only [Fm.depthL, Fm.bigL]
    have := h f (by simp)
    have := depthL_le r fun g hg => h g (by simp [hg])
    omega
theorem depth_le : ∀ f : Fm, f.depth ≤ f.big := Fm.ind fun k n t l ih => by
  have := depthL_le l ih
  simp only [Fm.depth, Fm.big]
  split <;> omega
theorem sizeL_take (l : List Fm) {i : Nat} (h : i < l.length) : Fm.sizeL (l.take (i + 1)) = Fm.sizeL (l.take i) + l[i].size := by
  rw [List.take_succ_eq_append_getElem h]
  have : ∀ a b : List Fm, Fm.sizeL (a ++ b) = Fm.sizeL a + Fm.sizeL b := by
    intro a b
    induction a with
    | nil => simp [Fm.sizeL]
    | cons x r ih => simp only [List.cons_append, Fm.sizeL, ih]; omega
  rw [this]; simp [Fm.sizeL]
theorem depthL_take (l : List Fm) {i : Nat} (h : i < l.length) : Fm.depthL (l.take (i + 1)) = max (Fm.depthL (l.take i)) l[i].depth := by
  rw [List.take_succ_eq_append_getElem h]
  have : ∀ a b : List Fm, Fm.depthL (a ++ b) = max (Fm.depthL a) (Fm.depthL b) := by
    intro a b
    induction a with
    | nil => simp [Fm.depthL]
    | cons x r ih => simp only [List.cons_append, Fm.depthL, ih]; omega
  rw [this]; simp [Fm.depthL]
theorem sizeL_take_le (l : List Fm) (i : Nat) : Fm.sizeL (l.take i) ≤ Fm.sizeL l := by
  induction l generalizing i with
  | nil => simp
  | cons f r ih => cases i with
    | zero => simp [Fm.sizeL]
    | succ i => simp only [List.take_succ_cons, Fm.sizeL]; have := ih i; omega
theorem depthL_take_le (l : List Fm) (i : Nat) : Fm.depthL (l.take i) ≤ Fm.depthL l := by
  induction l generalizing i with
  | nil => simp
  | cons f r ih => cases i with
    | zero => simp [Fm.depthL]
    | succ i => simp only [List.take_succ_cons, Fm.depthL]; have := ih i; omega
theorem kids_val (f : Fm) : G_kids f = some (if f.k = 3 then f.l else []) := by
  unfold G_kids
  by_cases h : f.k = 3
  · simp [h]
  · simp [h]
theorem Fm.size_eq (f : Fm) : f.size = 1 + Fm.sizeL (if f.k = 3 then f.l else []) := by
  cases f; simp only [Fm.size, Fm.k, Fm.l]; split <;> simp_all [Fm.sizeL]
theorem Fm.depth_eq (f : Fm) : f.depth = 1 + Fm.depthL (if f.k = 3 then f.l else []) := by
  cases f; simp only [Fm.depth, Fm.k, Fm.l]; split <;> simp_all [Fm.depthL]
theorem kids_mem {f g : Fm} (h : g ∈ (if f.k = 3 then f.l else [])) : g.big < f.big := by
  split at h
  · have := big_mem h; have := big_kids f; omega
  · cases h
theorem kids_len (f : Fm) : (if f.k = 3 then f.l else []).length < f.big := by
  split
  · have := length_le_big f.l; have := big_kids f; omega
  · have := big_pos f; simp only [List.length_nil]; omega
theorem size_up : ∀ k, ∀ f : Fm, f.big ≤ 4611686018427387000 → Up (k < f.big) (G_size k f) (f.size : Int)
  | 0 => fun f hb => .inr ⟨by unfold G_size; rfl, by have := big_pos f; omega⟩
  | k + 1 => fun f hb => by
    have hs := size_le f
    rw [Fm.size_eq] at hs ⊢
    unfold G_size
    simp only [Fm.eta_eq, kids_val, Option.bind_some]
    have hm : ∀ g ∈ (if f.k = 3 then f.l else []), g.big < f.big := fun g hg => kids_mem hg
    have hl := kids_len f
    generalize (if f.k = 3 then f.l else []) = l at hm hl hs
    refine loop_ix (fun i => ((((1 + Fm.sizeL (l.take i) : Nat) : Int), l, (l.length : Int), (i : Int), ()), ())) (fun i => ((1 + Fm.sizeL l : Nat) : Int)) l.length (fun i hi => ?_) ?_
    · have e1 : decide ((i : Int) < (l.length : Int)) = true := by simp [hi]
      have e2 : ixOK (i : Int) l.length = true := ixOK_iff.2 (by omega)
      have hg := hm _ (List.getElem_mem hi)
      have h2 := sizeL_take l hi
      have h3 := sizeL_take_le l (i + 1)
      simp only [e1, e2, cond_true, Int.toNat_natCast, getD_in hi, Fm.eta_eq, wrapN (show i < 4611686018427387904 by omega)]
      rcases size_up k l[i] (by omega) with h | ⟨h, hn⟩
      · rw [h]
        refine .inl ⟨?_, trivial⟩
        simp only [Option.bind_some]
        rw [w64 (by omega) (by omega)]
        have : ((1 + Fm.sizeL (l.take i) : Nat) : Int) + (l[i].size : Int) = ((1 + Fm.sizeL (l.take (i + 1)) : Nat) : Int) := by omega
        rw [this]
      · rw [h]; exact .inr (.inr ⟨rfl, by omega⟩)
    · refine ⟨((((1 + Fm.sizeL (l.take l.length) : Nat) : Int), ()), ()), by simp, .of ?_⟩
      simp
theorem size_val {f : Fm} (hb : f.big ≤ 4611686018427387000) : L_size f = some (f.size : Int) := limF_up (b := f.big) fun k => size_up k f hb
theorem depth_up : ∀ k, ∀ f : Fm, f.big ≤ 4611686018427387000 → Up (k < f.big) (G_depth k f) (f.depth : Int)
  | 0 => fun f hb => .inr ⟨by unfold G_depth; rfl, by have := big_pos f; omega⟩
  | k + 1 => fun f hb => by
    have hs := depth_le f
    rw [Fm.depth_eq] at hs ⊢
    unfold G_depth
    simp only [Fm.eta_eq, kids_val, Option.bind_some]
    have hm : ∀ g ∈ (if f.k = 3 then f.l else []), g.big < f.big := fun g hg => kids_mem hg
    have hl := kids_len f
    generalize (if f.k = 3 then f.l else []) = l at hm hl hs
    refine loop_ix (fun i => (((Fm.depthL (l.take i) : Int), l, (l.length : Int), (i : Int), ()), ())) (fun i => ((1 + Fm.depthL l : Nat) : Int)) l.length (fun i hi => ?_) ?_
    · have e1 : decide ((i : Int) < (l.length : Int)) = true := by simp [hi]
      have e2 : ixOK (i : Int) l.length = true := ixOK_iff.2 (by omega)
      have hg := hm _ (List.getElem_mem hi)
      have h2 := depthL_take l hi
      simp only [e1, e2, cond_true, Int.toNat_natCast, getD_in hi, Fm.eta_eq, wrapN (show i < 4611686018427387904 by omega)]
      rcases depth_up k l[i] (by omega) with h | ⟨h, hn⟩
      · rw [h]
        refine .inl ⟨?_, trivial⟩
        simp only [Option.bind_some]
        have : (if (l[i].depth : Int) > (Fm.depthL (l.take i) : Int) then (l[i].depth : Int) else (Fm.depthL (l.take i) : Int)) = (Fm.depthL (l.take (i + 1)) : Int) := by
          rw [h2]; split <;> omega
        rw [this]
      · rw [h]; exact .inr (.inr ⟨rfl, by omega⟩)
    · refine ⟨(((Fm.depthL (l.take l.length) : Int), ()), ()), by simp, .of ?_⟩
      simp only [List.take_length]
      rw [w64 (by omega) (by omega)]
      congr 1; omega
theorem depth_val {f : Fm} (hb : f.big ≤ 4611686018427387000) : L_depth f = some (f.depth : Int) := limF_up (b := f.big) fun k => depth_up k f hb
/-! ### Valid forms -/
def wordS (t : List UInt8) : Bool := decide (t ≠ []) && (decide (t.length ≤ 30) && !numericS t)
def leafS (k n : Int) (t : List UInt8) (l : List Fm) : Bool :=
  if k = 0 then decide (t = []) && (decide (l = []) && (decide (-1152921504606846976 ≤ n) && decide (n ≤ 1152921504606846976)))
  else if k = 1 then (wordS t && t.all fun c => !outsideS c) && (decide (n = 0) && decide (l = []))
  else if k = 2 then decide (t.length ≤ 2000) && (!badT t && (decide (n = 0) && decide (l = [])))
  else if k = 3 then decide (t = []) && decide (n = 0)
  else false
theorem outside_byte {t : List UInt8} {i : Nat} (h : i < t.length) : outsideF (byteAt t (i : Int)) = some (outsideS t[i]) := by
  have hb := t[i].toNat_lt
  have e : byteAt t (i : Int) = (t[i].toNat : Int) := by unfold byteAt; simp [h]
  unfold outsideF
  rw [e, if_pos (by omega)]
  simp
theorem word_loop {a n : Int} {t : List UInt8} {l : List Fm} {A : Type} {v : A} (F : ((Int × Int × (List UInt8) × (List Fm) × Unit) × Bool × Unit) × (Unit) → Option A) (b0 : Bool) (ht : t.length ≤ 30)
    (hF : F ((((a, n, t, l, ()), b0 && t.all fun c => !outsideS c, ()), ())) = some v) :
    Option.bind (loopM (L := ((Int × Int × (List UInt8) × (List Fm) × Unit) × Bool × Int × Unit) × (Unit)) (R := ((Int × Int × (List UInt8) × (List Fm) × Unit) × Bool × Unit) × (Unit)) (fun d2 => (
 let v3_3 := d2.1.2.1
 let v4_4 := d2.1.2.2.1
 cond (cond (decide (v4_4 < (d2.1.1.2.2.1.length : Int))) v3_3 false) (cond (ixOK v4_4 d2.1.1.2.2.1.length) (Option.bind (α := Bool) (outsideF (byteAt d2.1.1.2.2.1 v4_4)) fun r5 => (
 some (Step.next (((d2.1.1.1, d2.1.1.2.1, d2.1.1.2.2.1, d2.1.1.2.2.2.1, ()), !r5, IntKind.wrap .i64 (v4_4 + 1), ()), ())))) none) (some (Step.done (((d2.1.1.1, d2.1.1.2.1, d2.1.1.2.2.1, d2.1.1.2.2.2.1, ()), v3_3, ()), ()))))) (((a, n, t, l, ()), b0, 0, ()), ())) F = some v := by
  have key : ∀ j i (b : Bool), i + j = t.length → F ((((a, n, t, l, ()), b && (t.drop i).all fun c => !outsideS c, ()), ())) = some v → Option.bind (loopM (L := ((Int × Int × (List UInt8) × (List Fm) × Unit) × Bool × Int × Unit) × (Unit)) (R := ((Int × Int × (List UInt8) × (List Fm) × Unit) × Bool × Unit) × (Unit)) (fun d2 => (
 let v3_3 := d2.1.2.1
 let v4_4 := d2.1.2.2.1
 cond (cond (decide (v4_4 < (d2.1.1.2.2.1.length : Int))) v3_3 false) (cond (ixOK v4_4 d2.1.1.2.2.1.length) (Option.bind (α := Bool) (outsideF (byteAt d2.1.1.2.2.1 v4_4)) fun r5 => (
 some (Step.next (((d2.1.1.1, d2.1.1.2.1, d2.1.1.2.2.1, d2.1.1.2.2.2.1, ()), !r5, IntKind.wrap .i64 (v4_4 + 1), ()), ())))) none) (some (Step.done (((d2.1.1.1, d2.1.1.2.1, d2.1.1.2.2.1, d2.1.1.2.2.2.1, ()), v3_3, ()), ()))))) (((a, n, t, l, ()), b, (i : Int), ()), ())) F = some v := by
    intro j
    induction j with
    | zero =>
      intro i b hi hv
      obtain rfl : i = t.length := by omega
      rw [loopM_done (r := (((a, n, t, l, ()), b, ()), ())) (by simp)]
      simpa using hv
    | succ j ih =>
      intro i b hi hv
      have hlt : i < t.length := by omega
      cases b with
      | false =>
        rw [loopM_done (r := (((a, n, t, l, ()), false, ()), ())) (by simp)]
        simpa using hv
      | true =>
        have e1 : decide ((i : Int) < (t.length : Int)) = true := by simp [hlt]
        have e2 : ixOK (i : Int) t.length = true := ixOK_iff.2 (by omega)
        rw [loopM_next (l' := (((a, n, t, l, ()), !outsideS t[i], ((i + 1 : Nat) : Int), ()), ())) (by
          simp only [e1, e2, cond_true, outside_byte hlt, Option.bind_some, wrapN (show i < 4611686018427387904 by omega)])]
        refine ih (i + 1) _ (by omega) ?_
        rw [List.drop_eq_getElem_cons hlt, List.all_cons, Bool.true_and] at hv
        exact hv
  exact key t.length 0 b0 (by omega) (by simpa using hF)
theorem len0 {α : Type} (l : List α) : decide ((l.length : Int) = 0) = decide (l = []) := by
  cases l with
  | nil => rfl
  | cons a r =>
    have : ¬ ((a :: r).length : Int) = 0 := by simp only [List.length_cons]; omega
    simp only [this, decide_false]; rfl
theorem leaf_val (f : Fm) : G_leaf f = some (leafS f.k f.n f.t f.l) := by
  unfold G_leaf leafS
  generalize f.k = a
  generalize f.n = n
  generalize f.t = t
  generalize f.l = l
  simp only [len0]
  by_cases h0 : a = 0
  · subst h0
    simp only [decide_true, cond_true, if_true, Option.bind_some, ge_iff_le]
    congr 1
    apply Bool.eq_iff_iff.2
    simp [and_assoc]
  · simp only [h0, decide_false, cond_false, if_false]
    by_cases h1 : a = 1
    · subst h1
      simp only [decide_true, cond_true, if_true]
      by_cases hn : t = []
      · subst hn
        simp only [decide_true, Bool.not_true, cond_false, Option.bind_some]
        rw [loopM_done (r := (((1, n, [], l, ()), false, ()), ())) (by simp)]
        simp [wordS]
      · by_cases hl : t.length ≤ 30
        · have e1 : decide ((t.length : Int) ≤ 30) = true := by simp; omega
          have hnum : numericF t = some (numericS t) := by unfold numericF; rw [if_pos (by omega)]
          simp only [hn, decide_false, Bool.not_false, cond_true, e1, hnum, Option.bind_some]
          rw [word_loop (v := Step.done (cond (cond ((!numericS t) && t.all fun c => !outsideS c) (decide (n = 0)) false) (decide (l = [])) false)) _ _ hl (by simp only [len0])]
          simp only [Option.bind_some]
          congr 1
          have ew : wordS t = !numericS t := by simp [wordS, hn, hl]
          rw [ew]
          apply Bool.eq_iff_iff.2
          simp [and_assoc]
        · have e1 : decide ((t.length : Int) ≤ 30) = false := by simp; omega
          simp only [hn, decide_false, Bool.not_false, cond_true, e1, cond_false, Option.bind_some]
          rw [loopM_done (r := (((1, n, t, l, ()), false, ()), ())) (by simp)]
          simp [wordS, hl]
    · simp only [h1, decide_false, cond_false, if_false]
      by_cases h2 : a = 2
      · subst h2
        simp only [decide_true, cond_true, if_true]
        by_cases hl : t.length ≤ 2000
        · have e1 : decide ((t.length : Int) ≤ 2000) = true := by simp; omega
          simp only [e1, cond_true, Option.bind_some, hl, decide_true, Bool.true_and]
          congr 1
          apply Bool.eq_iff_iff.2
          simp [and_assoc]
        · have e1 : decide ((t.length : Int) ≤ 2000) = false := by simp; omega
          simp [e1, hl]
      · simp only [h2, decide_false, cond_false, if_false]
        by_cases h3 : a = 3
        · subst h3
          simp only [decide_true, cond_true, if_true, Option.bind_some]
          congr 1
          apply Bool.eq_iff_iff.2
          simp [and_assoc]
        · simp [h3]
end Go.Ab
