/-
  FORMS: more of the reader's and the parts' functions, and the reference's.
-/
import Derived.Test.YtdagildojaagiaaGreatDoorZ11
import Derived.Test.YtdagildojaagiaaGreatDoorZ12
set_option linter.unusedVariables false
set_option linter.unusedSimpArgs false
set_option maxRecDepth 100000
namespace Go.Ab
open Go Go.RowKit Go.Proofs
noncomputable def G_refSize (k : Nat) (x0 : Fm) : Option (Int) := match k with
| 0 => none
| k + 1 => (
 Option.bind (α := (Int × Unit) × (Unit))
 (loopM (L := ((Int × Int × (List UInt8) × (List Fm) × Unit) × Int × Int × Unit) × (Unit)) (R := (Int × Unit) × (Unit)) (fun d1 => (
 let v3_2 := d1.1.2.1
 let v4_3 := d1.1.2.2.1
 cond (cond (decide (d1.1.1.1 = 3)) (decide (v4_3 < (d1.1.1.2.2.2.1.length : Int))) false) (cond (ixOK v4_3 d1.1.1.2.2.2.1.length) (Option.bind (α := Int) (G_refSize k (Fm.eta (d1.1.1.2.2.2.1.getD v4_3.toNat (Fm.mk 0 0 [] [])))) fun r4 => (
 some (Step.next (((d1.1.1.1, d1.1.1.2.1, d1.1.1.2.2.1, d1.1.1.2.2.2.1, ()), IntKind.wrap .i64 (v3_2 + r4), IntKind.wrap .i64 (v4_3 + 1), ()), ())))) none) (some (Step.done ((v3_2, ()), ()))))) (((x0.k, x0.n, x0.t, x0.l, ()), 1, 0, ()), ())) fun d5 => (
 let v3_6 := d5.1.1
 some v3_6))
def A_refSize : An := .seq (.leaf) (.seq (.leaf) (.join false { env := [(3, (.d (.int .i64)))], objs := [] } (.seq (.leaf) (.block (.loop { env := [(1, (.rptr [(.d (.int .i64)), (.d (.int .i64)), (.d .str), (.d (.slice .form))])), (3, (.d (.int .i64))), (4, (.d (.int .i64)))], objs := [] } (.leaf)))) (.leaf)))
def H_refSize : Nat → RH := fun _ => {}
noncomputable def S_refSize (k : Nat) : Sig := .n [(.d .form)] (.d (.int .i64)) (fun x => G_refSize k x.1)
theorem S_refSize_rec : ∀ k, SigOK CX 10 (S_refSize k)
| 0 => fun x r h => by cases h
| k + 1 => by
 have ih := S_refSize_rec k
 exact sigN_of (l := [(10, (S_refSize k))]) ⟨ih, trivial⟩ (hint := H_refSize) (an := A_refSize) (fun x => by kernel_rfl)
theorem S_refSize_ok : ∀ k, SigOK CX 10 (S_refSize k) := fun k => S_refSize_rec k
noncomputable def L_refSize (x0 : Fm) : Option (Int) := limF fun k => G_refSize k x0
noncomputable def S_refSize_l : Sig := .n [(.d .form)] (.d (.int .i64)) (fun x => L_refSize x.1)
theorem S_refSize_l_ok : SigOK CX 10 S_refSize_l := SigOK.limN S_refSize_ok fun x r h => limF_ex h
noncomputable def G_refNum (x0 : Int) : Option (Fm) := (
 some (Fm.mk 0 x0 ([]) ([] : List Fm)))
def A_refNum : An := .leaf
def H_refNum : Nat → RH := fun _ => {}
noncomputable def S_refNum : Sig := .n [(.d (.int .i64))] (.d .form) (fun x => G_refNum x.1)
theorem S_refNum_ok : SigOK CX 48 S_refNum := sigN_of (l := []) trivial (hint := H_refNum) (an := A_refNum) (fun x => by kernel_rfl)
noncomputable def G_leaf (x0 : Fm) : Option (Bool) := (
 Option.bind (α := Step ((Unit) × (Unit)) (Bool))
 (cond (decide (x0.k = 0)) (some (Step.done (cond (cond (cond (decide (x0.t = [])) (decide ((x0.l.length : Int) = 0)) false) (decide (x0.n ≥ (-1152921504606846976))) false) (decide (x0.n ≤ 1152921504606846976)) false))) (cond (decide (x0.k = 1)) (Option.bind (α := Bool) (cond (cond (!decide (x0.t = [])) (decide ((x0.t.length : Int) ≤ 30)) false) (numericF (x0.t)) (some false)) fun r1 => (
 Option.bind (α := ((Int × Int × (List UInt8) × (List Fm) × Unit) × Bool × Unit) × (Unit))
 (loopM (L := ((Int × Int × (List UInt8) × (List Fm) × Unit) × Bool × Int × Unit) × (Unit)) (R := ((Int × Int × (List UInt8) × (List Fm) × Unit) × Bool × Unit) × (Unit)) (fun d2 => (
 let v3_3 := d2.1.2.1
 let v4_4 := d2.1.2.2.1
 cond (cond (decide (v4_4 < (d2.1.1.2.2.1.length : Int))) v3_3 false) (cond (ixOK v4_4 d2.1.1.2.2.1.length) (Option.bind (α := Bool) (outsideF (byteAt d2.1.1.2.2.1 v4_4)) fun r5 => (
 some (Step.next (((d2.1.1.1, d2.1.1.2.1, d2.1.1.2.2.1, d2.1.1.2.2.2.1, ()), !r5, IntKind.wrap .i64 (v4_4 + 1), ()), ())))) none) (some (Step.done (((d2.1.1.1, d2.1.1.2.1, d2.1.1.2.2.1, d2.1.1.2.2.2.1, ()), v3_3, ()), ()))))) (((x0.k, x0.n, x0.t, x0.l, ()), cond (cond (!decide (x0.t = [])) (decide ((x0.t.length : Int) ≤ 30)) false) (!r1) false, 0, ()), ())) fun d6 => (
 let v3_7 := d6.1.2.1
 some (Step.done (cond (cond v3_7 (decide (d6.1.1.2.1 = 0)) false) (decide ((d6.1.1.2.2.2.1.length : Int) = 0)) false))))) (cond (decide (x0.k = 2)) (Option.bind (α := Bool) (cond (decide ((x0.t.length : Int) ≤ 2000)) (some (badT (x0.t))) (some false)) fun r8 => (
 some (Step.done (cond (cond (cond (decide ((x0.t.length : Int) ≤ 2000)) (!r8) false) (decide (x0.n = 0)) false) (decide ((x0.l.length : Int) = 0)) false)))) (cond (decide (x0.k = 3)) (some (Step.done (cond (decide (x0.t = [])) (decide (x0.n = 0)) false))) (some (Step.next ((), ()))))))) fun qd9 => match qd9 with
 | .next d9 => (
 some false)
 | .done r => some r)
def A_leaf : An := .seq (.leaf) (.join true { env := [], objs := [] } (.seq (.leaf) (.block (.seq (.leaf) (.cond (.leaf) (.seq (.leaf) (.cond (.seq (.leaf) (.join false { env := [(1, (.rptr [(.d (.int .i64)), (.d (.int .i64)), (.d .str), (.d (.slice .form))])), (3, (.d .bool))], objs := [] } (.seq (.leaf) (.block (.loop { env := [(1, (.rptr [(.d (.int .i64)), (.d (.int .i64)), (.d .str), (.d (.slice .form))])), (3, (.d .bool)), (4, (.d (.int .i64)))], objs := [] } (.leaf)))) (.leaf))) (.leaf))))))) (.leaf))
def H_leaf : Nat → RH := fun _ => {}
noncomputable def S_leaf : Sig := .n [(.d .form)] (.d .bool) (fun x => G_leaf x.1)
theorem S_leaf_ok : SigOK CX 123 S_leaf := sigN_of (l := [(140, S_numeric), (139, S_outside), (155, S_containsBad)]) ⟨S_numeric_ok, S_outside_ok, S_containsBad_ok, trivial⟩ (hint := H_leaf) (an := A_leaf) (fun x => by kernel_rfl)
noncomputable def G_valid (k : Nat) (x0 : Fm) (x2 : Int) (o0 : Int × Unit) : Option ((Bool) × ((Int × Unit) × Unit)) := match k with
| 0 => none
| k + 1 => (
 Option.bind (α := Bool) (cond (!(cond (decide (IntKind.wrap .i64 (o0.1 - 1) < 0)) true (decide (x2 = 0)))) (G_leaf (Fm.eta x0)) (some false)) fun r1 => (
 cond (cond (cond (decide (IntKind.wrap .i64 (o0.1 - 1) < 0)) true (decide (x2 = 0))) true (!r1)) (some (false, ((IntKind.wrap .i64 (o0.1 - 1), ()), ()))) (Option.bind (α := Step ((Unit) × ((Int × Unit) × Unit)) ((Bool) × ((Int × Unit) × Unit)))
 (loopM (L := (Unit × Int × (List Fm) × Int × Int × Unit) × ((Int × Unit) × Unit)) (R := Step ((Unit) × ((Int × Unit) × Unit)) ((Bool) × ((Int × Unit) × Unit))) (fun d2 => (
 let c3 := d2.2.1.1
 let v2_4 := d2.1.2.1
 let v28_5 := d2.1.2.2.1
 let v29_6 := d2.1.2.2.2.1
 let v30_7 := d2.1.2.2.2.2.1
 cond (decide (v30_7 < v29_6)) (cond (ixOK v30_7 v28_5.length) (Option.bind (α := (Bool) × ((Int × Unit) × Unit)) (G_valid k (Fm.eta (v28_5.getD v30_7.toNat (Fm.mk 0 0 [] []))) (IntKind.wrap .i64 (v2_4 - 1)) (c3, ())) fun r8 => (
 cond (!r8.1) (some (Step.done (Step.done (false, ((r8.2.1.1, ()), ()))))) (some (Step.next (((), v2_4, v28_5, v29_6, IntKind.wrap .i64 (v30_7 + 1), ()), ((r8.2.1.1, ()), ())))))) none) (some (Step.done (Step.next ((), ((c3, ()), ()))))))) (((), x2, x0.l, (x0.l.length : Int), 0, ()), ((IntKind.wrap .i64 (o0.1 - 1), ()), ()))) fun qd9 => match qd9 with
 | .next d9 => (
 let c10 := d9.2.1.1
 some (true, ((c10, ()), ())))
 | .done r => some r)))
def A_valid : An := .seq (.leaf) (.seq (.leaf) (.seq (.leaf) (.join true { env := [], objs := [(true, .cells 3 [(.d (.int .i64))])] } (.seq (.leaf) (.block (.loop { env := [(1, (.ref 0 0)), (2, (.d (.int .i64))), (28, (.d (.slice .form))), (29, (.d (.int .i64))), (30, (.d (.int .i64)))], objs := [(true, .cells 3 [(.d (.int .i64))])] } (.leaf)))) (.leaf))))
def H_valid : Nat → RH := fun r => match r with
 | 7 => { H := { ac := [38] } }
 | _ => {}
noncomputable def S_valid (k : Nat) : Sig := .o { pre := [(false, .cells 3 [(.d (.int .i64))])], args := [(.d .form), (.ref 0 0), (.d (.int .i64))], post := [(true, .cells 3 [(.d (.int .i64))])], res := (.d .bool), f := fun x => G_valid k x.1.1 x.1.2.2.1 x.2.1 }
theorem S_valid_ok : ∀ k, SigOK CX 78 (S_valid k)
| 0 => ⟨by kernel_rfl, fun x r h => by cases h⟩
| k + 1 => by
 have ih := S_valid_ok k
 exact sigO_of (l := [(123, S_leaf), (78, (S_valid k))]) ⟨S_leaf_ok, ih, trivial⟩ (hint := H_valid) (an := A_valid) (by kernel_rfl) (fun x => by kernel_rfl)
noncomputable def L_valid (x0 : Fm) (x2 : Int) (o0 : Int × Unit) : Option ((Bool) × ((Int × Unit) × Unit)) := limF fun k => G_valid k x0 x2 o0
noncomputable def S_valid_l : Sig := .o { pre := [(false, .cells 3 [(.d (.int .i64))])], args := [(.d .form), (.ref 0 0), (.d (.int .i64))], post := [(true, .cells 3 [(.d (.int .i64))])], res := (.d .bool), f := fun x => L_valid x.1.1 x.1.2.2.1 x.2.1 }
theorem S_valid_l_ok : SigOK CX 78 S_valid_l := SigOK.limO S_valid_ok fun x r h => limF_ex h
noncomputable def G_rvalid (x0 : Fm) : Option (Bool) := (
 Option.bind (α := (Bool) × ((Int × Unit) × Unit)) (L_valid (Fm.eta x0) 100 (20000, ())) fun r1 => (
 some r1.1))
def A_rvalid : An := .leaf
def H_rvalid : Nat → RH := fun r => match r with
 | 2 => { H := { ac := [5] } }
 | _ => {}
noncomputable def S_rvalid : Sig := .n [(.d .form)] (.d .bool) (fun x => G_rvalid x.1)
theorem S_rvalid_ok : SigOK CX 34 S_rvalid := sigN_of (l := [(78, S_valid_l)]) ⟨S_valid_l_ok, trivial⟩ (hint := H_rvalid) (an := A_rvalid) (fun x => by kernel_rfl)
noncomputable def G_rest (x0 : Fm) : Option (List Fm) := (
 cond (decide ((x0.l.length : Int) = 0)) (some ([] : List Fm)) (cond (slOK 1 (x0.l.length : Int) x0.l.length) (some ((x0.l.drop (1 : Int).toNat).take ((x0.l.length : Int).toNat - (1 : Int).toNat))) none))
def A_rest : An := .leaf
def H_rest : Nat → RH := fun _ => {}
noncomputable def S_rest : Sig := .n [(.d .form)] (.d (.slice .form)) (fun x => G_rest x.1)
theorem S_rest_ok : SigOK CX 131 S_rest := sigN_of (l := []) trivial (hint := H_rest) (an := A_rest) (fun x => by kernel_rfl)
noncomputable def G_isp (x0 : Fm) (x1 : List UInt8) (x2 : Int) : Option (Bool) := (
 Option.bind (α := List UInt8) (cond (decide (x0.k = 3)) (G_head (Fm.eta x0)) (some ([] : List UInt8))) fun r1 => (
 some (cond (cond (decide (x0.k = 3)) (decide (r1 = x1)) false) (cond (decide (x2 < 0)) true (decide ((x0.l.length : Int) = IntKind.wrap .i64 (x2 + 1)))) false)))
def A_isp : An := .leaf
def H_isp : Nat → RH := fun _ => {}
noncomputable def S_isp : Sig := .n [(.d .form), (.d .str), (.d (.int .i64))] (.d .bool) (fun x => G_isp x.1 x.2.1 x.2.2.1)
theorem S_isp_ok : SigOK CX 100 S_isp := sigN_of (l := [(41, S_head)]) ⟨S_head_ok, trivial⟩ (hint := H_isp) (an := A_isp) (fun x => by kernel_rfl)
noncomputable def timesP (a b : Int) : Option (Out Int) := if (-9223372036854775808 ≤ a ∧ a ≤ 9223372036854775807) ∧ (-9223372036854775808 ≤ b ∧ b ≤ 9223372036854775807) then some (match timesS a b with
 | some n => .ret n
 | none => .pan) else none
noncomputable def wholeP (a : Int) : Option (Out Int) := some (match wholeS a with
 | some n => .ret n
 | none => .pan)
noncomputable def S_times : Sig := .p [.d (.int .i64), .d (.int .i64)] (.d (.int .i64)) beyondA (fun x => timesP x.1 x.2.1)
theorem S_times_ok : SigOK CX 135 S_times := fun x o h => by
 have h : timesP x.1 x.2.1 = some o := h
 unfold timesP at h
 split at h
 ·rename_i hb
  cases h
  refine (times_call x.1 x.2.1 hb.1.1 hb.1.2 hb.2.1 hb.2.2).mono fun r hr => ?_
  subst hr
  cases timesS x.1 x.2.1 <;> rfl
 ·cases h
noncomputable def S_whole : Sig := .p [.d (.int .i64)] (.d (.int .i64)) beyondA (fun x => wholeP x.1)
theorem S_whole_ok : SigOK CX 134 S_whole := fun x o h => by
 have h : wholeP x.1 = some o := h
 cases h
 refine (whole_call x.1).mono fun r hr => ?_
 subst hr
 cases wholeS x.1 <;> rfl
noncomputable def copyU (f : Fm) : Option Fm := match Classical.propDecidable (PCall CX 98 [.agg (E.cells .form f)] (· = .ret (.agg (E.cells .form f)))) with
 | .isTrue _ => some f
 | .isFalse _ => none
noncomputable def S_copyU : Sig := .n [.d .form] (.d .form) (fun x => copyU x.1)
theorem S_copyU_ok : SigOK CX 98 S_copyU := fun x r h => by
 have h : copyU x.1 = some r := h
 unfold copyU at h
 split at h
 ·rename_i hp _; cases h; exact hp
 ·cases h
theorem copyU_of {f : Fm} (h : PCall CX 98 [.agg (E.cells .form f)] (· = .ret (.agg (E.cells .form f)))) : copyU f = some f := by
 unfold copyU
 split
 ·rfl
 ·rename_i hp _; exact absurd h hp
noncomputable def G_copies (x0 : List Fm) : Option (List Fm) := (
 cond (decide ((0 : Int) ≤ (x0.length : Int) ∧ ((x0.length : Int) : Int) ≤ (x0.length : Int) ∧ ((x0.length : Int) : Int) * 56 ≤ 281474976710656)) (Option.bind (α := (Unit × Unit) × ((List Fm) × Unit))
 (loopM (L := (Unit × (List Fm) × Int × Int × Unit) × ((List Fm) × Unit)) (R := (Unit × Unit) × ((List Fm) × Unit)) (fun d1 => (
 let l2 := d1.2.1
 let v9_3 := d1.1.2.1
 let v10_4 := d1.1.2.2.1
 let v11_5 := d1.1.2.2.2.1
 cond (decide (v11_5 < v10_4)) (cond (ixOK v11_5 v9_3.length) (Option.bind (α := Fm) (copyU ((Fm.eta (v9_3.getD v11_5.toNat (Fm.mk 0 0 [] []))))) fun r6 => (
 cond (ixOK v11_5 l2.length) (cond (decide (v11_5.toNat < l2.length)) (some (Step.next (((), v9_3, v10_4, IntKind.wrap .i64 (v11_5 + 1), ()), (l2.set v11_5.toNat (Fm.eta r6), ())))) none) none)) none) (some (Step.done (((), ()), (l2, ())))))) (((), x0, (x0.length : Int), 0, ()), (List.replicate (x0.length : Int).toNat (Fm.mk 0 0 ([]) ([] : List Fm)), ()))) fun d7 => (
 let l8 := d7.2.1
 some l8)) none)
def A_copies : An := .seq (.leaf) (.seq (.leaf) (.join false { env := [(3, (.gs 0 .form))], objs := [(false, .tg .form 26)] } (.seq (.leaf) (.block (.loop { env := [(3, (.gs 0 .form)), (9, (.d (.slice .form))), (10, (.d (.int .i64))), (11, (.d (.int .i64)))], objs := [(false, .tg .form 26)] } (.leaf)))) (.leaf)))
def H_copies : Nat → RH := fun r => match r with
 | 1 => { H := { ty := [(8, .form)] } }
 | _ => {}
noncomputable def S_copies : Sig := .n [(.d (.slice .form))] (.d (.slice .form)) (fun x => G_copies x.1)
theorem S_copies_ok : SigOK CX 54 S_copies := sigN_of (l := [(98, S_copyU)]) ⟨S_copyU_ok, trivial⟩ (hint := H_copies) (an := A_copies) (fun x => by kernel_rfl)
noncomputable def G_copyNe (x0 : Fm) : Option (Fm) := (
 cond (!x0.l.isEmpty) (Option.bind (α := List Fm) (G_copies x0.l) fun r1 => (
 some (Fm.mk x0.k x0.n x0.t r1))) none)
def A_copyNe : An := .leaf
def H_copyNe : Nat → RH := fun r => match r with
 | 0 => { H := { mb := [1] } }
 | _ => {}
noncomputable def S_copyNe : Sig := .n [(.d .form)] (.d .form) (fun x => G_copyNe x.1)
theorem S_copyNe_ok : SigOK CX 98 S_copyNe := sigN_of (l := [(54, S_copies)]) ⟨S_copies_ok, trivial⟩ (hint := H_copyNe) (an := A_copyNe) (fun x => by kernel_rfl)
noncomputable def G_copyNil (x0 : Int × Int × (List UInt8) × Unit × Unit) : Option (Fm) := (
 some (Fm.mk x0.1 x0.2.1 x0.2.2.1 ([] : List Fm)))
def A_copyNil : An := .leaf
def H_copyNil : Nat → RH := fun r => match r with
 | 0 => { H := { mb := [1] } }
 | _ => {}
noncomputable def S_copyNil : Sig := .n [(.agg [(.d (.int .i64)), (.d (.int .i64)), (.d .str), (.c (.base (.slice none 0 0)))])] (.d .form) (fun x => G_copyNil x.1)
theorem S_copyNil_ok : SigOK CX 98 S_copyNil := sigN_of (l := []) trivial (hint := H_copyNil) (an := A_copyNil) (fun x => by kernel_rfl)
noncomputable def G_copyEmp (x0 : Int × Int × (List UInt8) × Unit × Unit) : Option (Fm) := (
 Option.bind (α := List Fm) (G_copies ([] : List Fm)) fun r1 => (
 some (Fm.mk x0.1 x0.2.1 x0.2.2.1 r1)))
def A_copyEmp : An := .leaf
def H_copyEmp : Nat → RH := fun r => match r with
 | 0 => { H := { mb := [1] } }
 | _ => {}
noncomputable def S_copyEmp (a : Addr) (cap : Nat) : Sig := .n [(.agg [(.d (.int .i64)), (.d (.int .i64)), (.d .str), (.c (.base (.slice (some a) 0 cap)))])] (.d .form) (fun x => G_copyEmp x.1)
theorem S_copyEmp_ok (a : Addr) (cap : Nat) : SigOK CX 98 (S_copyEmp a cap) := sigN_of (l := [(54, S_copies)]) ⟨S_copies_ok, trivial⟩ (hint := H_copyEmp) (an := A_copyEmp) (fun x => by kernel_rfl)
noncomputable def G_plus (x0 : Int × List (Int × Fm)) (x1 : Int × List (Int × Fm)) (x2 : Int) : Option (Out (Int × List (Int × Fm))) := (
 Option.bind (α := Out Int) (timesP (x1.1) (x2)) fun or1 => match or1 with
 | .ret r1 => (
 Option.bind (α := Out Int) (wholeP (IntKind.wrap .i64 (x0.1 + r1))) fun or2 => match or2 with
 | .ret r2 => (
 Option.bind (α := Step ((Unit × Unit × Unit) × ((Int × Unit × Unit) × (Int × Unit × Unit) × (List (Int × Fm)) × Unit)) (Out (Int × List (Int × Fm))))
 (loopM (L := (Int × (Int × (List (Int × Fm)) × Unit) × (Int × (List (Int × Fm)) × Unit) × Unit × Unit × Int × Int × Unit) × ((Int × Unit × Unit) × (Int × Unit × Unit) × (List (Int × Fm)) × Unit)) (R := Step ((Unit × Unit × Unit) × ((Int × Unit × Unit) × (Int × Unit × Unit) × (List (Int × Fm)) × Unit)) (Out (Int × List (Int × Fm)))) (fun d3 => (
 let l4 := d3.2.2.2.1
 let v2_5 := d3.1.1
 let v8_6 := d3.1.2.2.2.2.2.1
 let v9_7 := d3.1.2.2.2.2.2.2.1
 cond (cond (decide (v8_6 < (d3.1.2.1.2.1.length : Int))) true (decide (v9_7 < (d3.1.2.2.1.2.1.length : Int)))) (Option.bind (α := (Int × (Int × (List (Int × Fm)) × Unit) × (Int × (List (Int × Fm)) × Unit) × Unit × Unit × Int × Int × Int × Unit) × ((Int × Unit × Unit) × (Int × Unit × Unit) × (List (Int × Fm)) × Unit))
 (cond (decide (v8_6 = (d3.1.2.1.2.1.length : Int))) (some ((v2_5, (d3.1.2.1.1, d3.1.2.1.2.1, ()), (d3.1.2.2.1.1, d3.1.2.2.1.2.1, ()), (), (), v8_6, v9_7, 1, ()), ((d3.2.1.1, (), ()), (d3.2.2.1.1, (), ()), l4, ()))) (cond (decide (v9_7 = (d3.1.2.2.1.2.1.length : Int))) (some ((v2_5, (d3.1.2.1.1, d3.1.2.1.2.1, ()), (d3.1.2.2.1.1, d3.1.2.2.1.2.1, ()), (), (), v8_6, v9_7, (-1), ()), ((d3.2.1.1, (), ()), (d3.2.2.1.1, (), ()), l4, ()))) (cond (ixOK v8_6 d3.1.2.1.2.1.length) (cond (ixOK v9_7 d3.1.2.2.1.2.1.length) (Option.bind (α := Int) (L_compare (Fm.eta ((d3.1.2.1.2.1.getD v8_6.toNat ((0 : Int), (Fm.mk 0 0 [] []))).2)) (Fm.eta ((d3.1.2.2.1.2.1.getD v9_7.toNat ((0 : Int), (Fm.mk 0 0 [] []))).2))) fun r8 => (
 some ((v2_5, (d3.1.2.1.1, d3.1.2.1.2.1, ()), (d3.1.2.2.1.1, d3.1.2.2.1.2.1, ()), (), (), v8_6, v9_7, r8, ()), ((d3.2.1.1, (), ()), (d3.2.2.1.1, (), ()), l4, ())))) none) none))) fun d9 => (
 let l10 := d9.2.2.2.1
 let v2_11 := d9.1.1
 let v8_12 := d9.1.2.2.2.2.2.1
 let v9_13 := d9.1.2.2.2.2.2.2.1
 let v10_14 := d9.1.2.2.2.2.2.2.2.1
 Option.bind (α := (Int × (Int × (List (Int × Fm)) × Unit) × (Int × (List (Int × Fm)) × Unit) × Unit × Unit × Int × Int × Int × Int × Unit × Unit) × ((Int × Unit × Unit) × (Int × Unit × Unit) × (Int × Int × (List UInt8) × (List Fm) × Unit) × (List (Int × Fm)) × Unit))
 (cond (decide (v10_14 ≤ 0)) (cond (ixOK v8_12 d9.1.2.1.2.1.length) (cond (ixOK v8_12 d9.1.2.1.2.1.length) (some ((v2_11, (d9.1.2.1.1, d9.1.2.1.2.1, ()), (d9.1.2.2.1.1, d9.1.2.2.1.2.1, ()), (), (), IntKind.wrap .i64 (v8_12 + 1), v9_13, v10_14, (d9.1.2.1.2.1.getD v8_12.toNat ((0 : Int), (Fm.mk 0 0 [] []))).1, (), ()), ((d9.2.1.1, (), ()), (d9.2.2.1.1, (), ()), (((d9.1.2.1.2.1.getD v8_12.toNat ((0 : Int), (Fm.mk 0 0 [] []))).2).k, ((d9.1.2.1.2.1.getD v8_12.toNat ((0 : Int), (Fm.mk 0 0 [] []))).2).n, ((d9.1.2.1.2.1.getD v8_12.toNat ((0 : Int), (Fm.mk 0 0 [] []))).2).t, ((d9.1.2.1.2.1.getD v8_12.toNat ((0 : Int), (Fm.mk 0 0 [] []))).2).l, ()), l10, ()))) none) none) (some ((v2_11, (d9.1.2.1.1, d9.1.2.1.2.1, ()), (d9.1.2.2.1.1, d9.1.2.2.1.2.1, ()), (), (), v8_12, v9_13, v10_14, 0, (), ()), ((d9.2.1.1, (), ()), (d9.2.2.1.1, (), ()), (0, 0, [], ([] : List Fm), ()), l10, ())))) fun d15 => (
 let c16 := d15.2.2.2.1.1
 let c17 := d15.2.2.2.1.2.1
 let c18 := d15.2.2.2.1.2.2.1
 let c19 := d15.2.2.2.1.2.2.2.1
 let l20 := d15.2.2.2.2.1
 let v2_21 := d15.1.1
 let v8_22 := d15.1.2.2.2.2.2.1
 let v9_23 := d15.1.2.2.2.2.2.2.1
 let v10_24 := d15.1.2.2.2.2.2.2.2.1
 let v11_25 := d15.1.2.2.2.2.2.2.2.2.1
 Option.bind (α := Step ((Int × (Int × (List (Int × Fm)) × Unit) × (Int × (List (Int × Fm)) × Unit) × Unit × Unit × Int × Int × Int × Unit × Unit) × ((Int × Unit × Unit) × (Int × Unit × Unit) × (Int × Int × (List UInt8) × (List Fm) × Unit) × (List (Int × Fm)) × Unit)) (Step ((Int × (Int × (List (Int × Fm)) × Unit) × (Int × (List (Int × Fm)) × Unit) × Unit × Unit × Int × Int × Unit) × ((Int × Unit × Unit) × (Int × Unit × Unit) × (List (Int × Fm)) × Unit)) (Step ((Unit × Unit × Unit) × ((Int × Unit × Unit) × (Int × Unit × Unit) × (List (Int × Fm)) × Unit)) (Out (Int × List (Int × Fm))))))
 (cond (decide (v10_24 ≥ 0)) (cond (ixOK v9_23 d15.1.2.2.1.2.1.length) (cond (ixOK v9_23 d15.1.2.2.1.2.1.length) (Option.bind (α := Out Int) (timesP ((d15.1.2.2.1.2.1.getD v9_23.toNat ((0 : Int), (Fm.mk 0 0 [] []))).1) (v2_21)) fun or26 => match or26 with
 | .ret r26 => (
 Option.bind (α := Out Int) (wholeP (IntKind.wrap .i64 (v11_25 + r26))) fun or27 => match or27 with
 | .ret r27 => (
 some (Step.next ((v2_21, (d15.1.2.1.1, d15.1.2.1.2.1, ()), (d15.1.2.2.1.1, d15.1.2.2.1.2.1, ()), (), (), v8_22, IntKind.wrap .i64 (v9_23 + 1), r27, (), ()), ((d15.2.1.1, (), ()), (d15.2.2.1.1, (), ()), (((d15.1.2.2.1.2.1.getD v9_23.toNat ((0 : Int), (Fm.mk 0 0 [] []))).2).k, ((d15.1.2.2.1.2.1.getD v9_23.toNat ((0 : Int), (Fm.mk 0 0 [] []))).2).n, ((d15.1.2.2.1.2.1.getD v9_23.toNat ((0 : Int), (Fm.mk 0 0 [] []))).2).t, ((d15.1.2.2.1.2.1.getD v9_23.toNat ((0 : Int), (Fm.mk 0 0 [] []))).2).l, ()), l20, ()))))
 | .pan => (some (Step.done (Step.done (Step.done Out.pan)))))
 | .pan => (some (Step.done (Step.done (Step.done Out.pan))))) none) none) (some (Step.next ((v2_21, (d15.1.2.1.1, d15.1.2.1.2.1, ()), (d15.1.2.2.1.1, d15.1.2.2.1.2.1, ()), (), (), v8_22, v9_23, v11_25, (), ()), ((d15.2.1.1, (), ()), (d15.2.2.1.1, (), ()), (c16, c17, c18, c19, ()), l20, ()))))) fun qd28 => match qd28 with
 | .next d28 => (
 let c29 := d28.2.2.2.1.1
 let c30 := d28.2.2.2.1.2.1
 let c31 := d28.2.2.2.1.2.2.1
 let c32 := d28.2.2.2.1.2.2.2.1
 let l33 := d28.2.2.2.2.1
 let v2_34 := d28.1.1
 let v8_35 := d28.1.2.2.2.2.2.1
 let v9_36 := d28.1.2.2.2.2.2.2.1
 let v11_37 := d28.1.2.2.2.2.2.2.2.1
 cond (!decide (v11_37 = 0)) (Option.bind (α := Fm) (copyU ((Fm.mk c29 c30 c31 c32))) fun r38 => (
 cond (decide ((l33.length + ([(v11_37, (Fm.eta r38))]).length) * 64 ≤ 140737488355328)) (some (Step.next ((v2_34, (d28.1.2.1.1, d28.1.2.1.2.1, ()), (d28.1.2.2.1.1, d28.1.2.2.1.2.1, ()), (), (), v8_35, v9_36, ()), ((d28.2.1.1, (), ()), (d28.2.2.1.1, (), ()), l33 ++ ([(v11_37, (Fm.eta r38))]), ())))) none)) (some (Step.next ((v2_34, (d28.1.2.1.1, d28.1.2.1.2.1, ()), (d28.1.2.2.1.1, d28.1.2.2.1.2.1, ()), (), (), v8_35, v9_36, ()), ((d28.2.1.1, (), ()), (d28.2.2.1.1, (), ()), l33, ())))))
 | .done r => some r))) (some (Step.done (Step.next (((), (), ()), ((d3.2.1.1, (), ()), (d3.2.2.1.1, (), ()), l4, ()))))))) ((x2, (x0.1, x0.2, ()), (x1.1, x1.2, ()), (), (), 0, 0, ()), ((0, (), ()), (r2, (), ()), ([] : List (Int × Fm)), ()))) fun qd39 => match qd39 with
 | .next d39 => (
 let l40 := d39.2.2.2.1
 some (Out.ret (d39.2.2.1.1, l40)))
 | .done r => some r)
 | .pan => (some Out.pan))
 | .pan => (some Out.pan))
def A_plus : An := .seq (.leaf) (.seq (.leaf) (.seq (.leaf) (.join true { env := [(6, (.ref 0 0)), (7, (.ref 1 0))], objs := [(false, .cells 66 [(.d (.int .i64)), (.c (.base (.slice none 0 0)))]), (false, .cells 66 [(.d (.int .i64)), (.gs 2 (.pr (.int .i64) .form))]), (false, .tg (.pr (.int .i64) .form) 124)] } (.block (.loop { env := [(2, (.d (.int .i64))), (3, (.rptr [(.d (.int .i64)), (.d (.slice (.pr (.int .i64) .form)))])), (4, (.rptr [(.d (.int .i64)), (.d (.slice (.pr (.int .i64) .form)))])), (6, (.ref 0 0)), (7, (.ref 1 0)), (8, (.d (.int .i64))), (9, (.d (.int .i64)))], objs := [(false, .cells 66 [(.d (.int .i64)), (.c (.base (.slice none 0 0)))]), (false, .cells 66 [(.d (.int .i64)), (.gs 2 (.pr (.int .i64) .form))]), (false, .tg (.pr (.int .i64) .form) 124)] } (.seq (.leaf) (.block (.seq (.leaf) (.join false { env := [(2, (.d (.int .i64))), (3, (.rptr [(.d (.int .i64)), (.d (.slice (.pr (.int .i64) .form)))])), (4, (.rptr [(.d (.int .i64)), (.d (.slice (.pr (.int .i64) .form)))])), (6, (.ref 0 0)), (7, (.ref 1 0)), (8, (.d (.int .i64))), (9, (.d (.int .i64))), (10, (.d (.int .i64)))], objs := [(false, .cells 66 [(.d (.int .i64)), (.c (.base (.slice none 0 0)))]), (false, .cells 66 [(.d (.int .i64)), (.gs 2 (.pr (.int .i64) .form))]), (false, .tg (.pr (.int .i64) .form) 124)] } (.leaf) (.seq (.leaf) (.join false { env := [(2, (.d (.int .i64))), (3, (.rptr [(.d (.int .i64)), (.d (.slice (.pr (.int .i64) .form)))])), (4, (.rptr [(.d (.int .i64)), (.d (.slice (.pr (.int .i64) .form)))])), (6, (.ref 0 0)), (7, (.ref 1 0)), (8, (.d (.int .i64))), (9, (.d (.int .i64))), (10, (.d (.int .i64))), (11, (.d (.int .i64))), (12, (.ref 2 0))], objs := [(false, .cells 66 [(.d (.int .i64)), (.c (.base (.slice none 0 0)))]), (false, .cells 66 [(.d (.int .i64)), (.gs 3 (.pr (.int .i64) .form))]), (false, .cells 26 [(.d (.int .i64)), (.d (.int .i64)), (.d .str), (.d (.slice .form))]), (false, .tg (.pr (.int .i64) .form) 124)] } (.leaf) (.join true { env := [(2, (.d (.int .i64))), (3, (.rptr [(.d (.int .i64)), (.d (.slice (.pr (.int .i64) .form)))])), (4, (.rptr [(.d (.int .i64)), (.d (.slice (.pr (.int .i64) .form)))])), (6, (.ref 0 0)), (7, (.ref 1 0)), (8, (.d (.int .i64))), (9, (.d (.int .i64))), (11, (.d (.int .i64))), (12, (.ref 2 0))], objs := [(false, .cells 66 [(.d (.int .i64)), (.c (.base (.slice none 0 0)))]), (false, .cells 66 [(.d (.int .i64)), (.gs 3 (.pr (.int .i64) .form))]), (false, .cells 26 [(.d (.int .i64)), (.d (.int .i64)), (.d .str), (.d (.slice .form))]), (false, .tg (.pr (.int .i64) .form) 124)] } (.leaf) (.leaf)))))))))) (.leaf))))
def H_plus : Nat → RH := fun r => match r with
 | 1 => { H := { pl := [14, 16] }, π := [0, 1, 2, 3, 4, 9, 5, 6, 7, 8, 10], tl := [6, 8] }
 | 5 => { H := { pl := [35, 39, 41, 45] } }
 | 12 => { H := { pl := [63, 67, 69, 73] } }
 | 15 => { H := { pl := [80, 84, 90, 94] }, π := [0, 1, 2, 3, 4, 5, 6, 7, 11, 12, 13, 14, 15, 16, 8, 9, 10, 17, 18], tl := [14, 16] }
 | 18 => { H := { ty := [(106, (.pr (.int .i64) .form))] } }
 | _ => {}
noncomputable def S_plus : Sig := .p [(.d (.pr (.int .i64) (.slice (.pr (.int .i64) .form)))), (.d (.pr (.int .i64) (.slice (.pr (.int .i64) .form)))), (.d (.int .i64))] (.d (.pr (.int .i64) (.slice (.pr (.int .i64) .form)))) (.iface 142 (.agg [])) (fun x => G_plus x.1 x.2.1 x.2.2.1)
theorem S_plus_ok : SigOK CX 96 S_plus := sigP_of (l := [(135, S_times), (134, S_whole), (84, S_compare_l), (98, S_copyU)]) ⟨S_times_ok, S_whole_ok, S_compare_l_ok, S_copyU_ok, trivial⟩ (hint := H_plus) (an := A_plus) (fun x => by kernel_rfl)
noncomputable def G_lof (k : Nat) (x0 : Fm) : Option (Out (Int × List (Int × Fm))) := match k with
| 0 => none
| k + 1 => (
 Option.bind (α := List Fm) (G_rest (Fm.eta x0)) fun r1 => (
 Option.bind (α := Step (((Int × Int × (List UInt8) × (List Fm) × Unit) × Unit × Unit) × ((Int × Unit × Unit) × Unit)) (Out (Int × List (Int × Fm))))
 (cond (decide (x0.k = 0)) (some (Step.done (Out.ret (x0.n, ([] : List (Int × Fm)))))) (Option.bind (α := Bool) (G_isp (Fm.eta x0) ([43]) 2) fun r2 => (
 cond r2 (cond (ixOK 0 r1.length) (cond (ixOK 1 r1.length) (Option.bind (α := Out (Int × List (Int × Fm))) (G_lof k (Fm.eta (r1.getD (0 : Int).toNat (Fm.mk 0 0 [] [])))) fun or3 => match or3 with
 | .ret r3 => (
 Option.bind (α := Out (Int × List (Int × Fm))) (G_lof k (Fm.eta (r1.getD (1 : Int).toNat (Fm.mk 0 0 [] [])))) fun or4 => match or4 with
 | .ret r4 => (
 Option.bind (α := Out (Int × List (Int × Fm))) (G_plus r3 r4 1) fun or5 => match or5 with
 | .ret r5 => (
 some (Step.done (Out.ret r5)))
 | .pan => (some (Step.done Out.pan)))
 | .pan => (some (Step.done Out.pan)))
 | .pan => (some (Step.done Out.pan))) none) none) (Option.bind (α := Bool) (G_isp (Fm.eta x0) ([45]) 2) fun r6 => (
 cond r6 (cond (ixOK 0 r1.length) (cond (ixOK 1 r1.length) (Option.bind (α := Out (Int × List (Int × Fm))) (G_lof k (Fm.eta (r1.getD (0 : Int).toNat (Fm.mk 0 0 [] [])))) fun or7 => match or7 with
 | .ret r7 => (
 Option.bind (α := Out (Int × List (Int × Fm))) (G_lof k (Fm.eta (r1.getD (1 : Int).toNat (Fm.mk 0 0 [] [])))) fun or8 => match or8 with
 | .ret r8 => (
 Option.bind (α := Out (Int × List (Int × Fm))) (G_plus r7 r8 (-1)) fun or9 => match or9 with
 | .ret r9 => (
 some (Step.done (Out.ret r9)))
 | .pan => (some (Step.done Out.pan)))
 | .pan => (some (Step.done Out.pan)))
 | .pan => (some (Step.done Out.pan))) none) none) (Option.bind (α := Bool) (G_isp (Fm.eta x0) ([110, 101, 103]) 1) fun r10 => (
 cond r10 (cond (ixOK 0 r1.length) (Option.bind (α := Out (Int × List (Int × Fm))) (G_lof k (Fm.eta (r1.getD (0 : Int).toNat (Fm.mk 0 0 [] [])))) fun or11 => match or11 with
 | .ret r11 => (
 Option.bind (α := Out (Int × List (Int × Fm))) (G_plus (0, ([] : List (Int × Fm))) r11 (-1)) fun or12 => match or12 with
 | .ret r12 => (
 some (Step.done (Out.ret r12)))
 | .pan => (some (Step.done Out.pan)))
 | .pan => (some (Step.done Out.pan))) none) (Option.bind (α := Bool) (G_isp (Fm.eta x0) ([42]) 2) fun r13 => (
 cond r13 (cond (ixOK 0 r1.length) (cond (ixOK 1 r1.length) (Option.bind (α := Out (Int × List (Int × Fm))) (G_lof k (Fm.eta (r1.getD (0 : Int).toNat (Fm.mk 0 0 [] [])))) fun or14 => match or14 with
 | .ret r14 => (
 Option.bind (α := Out (Int × List (Int × Fm))) (G_lof k (Fm.eta (r1.getD (1 : Int).toNat (Fm.mk 0 0 [] [])))) fun or15 => match or15 with
 | .ret r15 => (
 cond (decide ((r14.2.length : Int) = 0)) (Option.bind (α := Out (Int × List (Int × Fm))) (G_plus (0, ([] : List (Int × Fm))) r15 r14.1) fun or16 => match or16 with
 | .ret r16 => (
 some (Step.done (Out.ret r16)))
 | .pan => (some (Step.done Out.pan))) (cond (decide ((r15.2.length : Int) = 0)) (Option.bind (α := Out (Int × List (Int × Fm))) (G_plus (0, ([] : List (Int × Fm))) r14 r15.1) fun or17 => match or17 with
 | .ret r17 => (
 some (Step.done (Out.ret r17)))
 | .pan => (some (Step.done Out.pan))) (some (Step.next (((x0.k, x0.n, x0.t, x0.l, ()), (), ()), ((0, (), ()), ()))))))
 | .pan => (some (Step.done Out.pan)))
 | .pan => (some (Step.done Out.pan))) none) none) (some (Step.next (((x0.k, x0.n, x0.t, x0.l, ()), (), ()), ((0, (), ()), ()))))))))))))) fun qd18 => match qd18 with
 | .next d18 => (
 Option.bind (α := Fm) (copyU ((Fm.mk d18.1.1.1 d18.1.1.2.1 d18.1.1.2.2.1 d18.1.1.2.2.2.1))) fun r19 => (
 some (Out.ret (0, [(1, (Fm.eta r19))]))))
 | .done r => some r))
def A_lof : An := .seq (.leaf) (.seq (.leaf) (.join true { env := [(1, (.rptr [(.d (.int .i64)), (.d (.int .i64)), (.d .str), (.d (.slice .form))])), (2, (.ref 0 0))], objs := [(false, .cells 66 [(.d (.int .i64)), (.c (.base (.slice none 0 0)))])] } (.leaf) (.leaf)))
def H_lof : Nat → RH := fun r => match r with
 | 5 => { H := { pl := [20, 24] }, π := [0, 1, 2, 4, 5, 6, 3, 7, 8, 9], tl := [6, 7, 8] }
 | 7 => { H := { pl := [32, 36] }, π := [0, 1, 2, 4, 5, 6, 3, 7, 8, 9], tl := [6, 7, 8] }
 | 11 => { H := { pl := [53, 57] }, π := [0, 1, 2, 4, 5, 6, 8, 9, 3, 7, 10, 11], tl := [8, 9] }
 | _ => {}
noncomputable def S_lof (k : Nat) : Sig := .p [(.d .form)] (.d (.pr (.int .i64) (.slice (.pr (.int .i64) .form)))) (.iface 142 (.agg [])) (fun x => G_lof k x.1)
theorem S_lof_rec : ∀ k, SigOK CX 89 (S_lof k)
| 0 => fun x r h => by cases h
| k + 1 => by
 have ih := S_lof_rec k
 exact sigP_of (l := [(131, S_rest), (100, S_isp), (89, (S_lof k)), (96, S_plus), (98, S_copyU)]) ⟨S_rest_ok, S_isp_ok, ih, S_plus_ok, S_copyU_ok, trivial⟩ (hint := H_lof) (an := A_lof) (fun x => by kernel_rfl)
theorem S_lof_ok : ∀ k, SigOK CX 89 (S_lof k) := fun k => S_lof_rec k
noncomputable def L_lof (x0 : Fm) : Option (Out (Int × List (Int × Fm))) := limF fun k => G_lof k x0
noncomputable def S_lof_l : Sig := .p [(.d .form)] (.d (.pr (.int .i64) (.slice (.pr (.int .i64) .form)))) (.iface 142 (.agg [])) (fun x => L_lof x.1)
theorem S_lof_l_ok : SigOK CX 89 S_lof_l := SigOK.limP S_lof_ok fun x r h => limF_ex h
noncomputable def G_visible (x0 : Int) : Option (Bool) := (
 some (cond (cond (cond (cond (cond (decide (x0 ≥ 33)) (decide (x0 ≤ 126)) false) (!decide (x0 = 40)) false) (!decide (x0 = 41)) false) (!decide (x0 = 34)) false) (!decide (x0 = 59)) false))
def A_visible : An := .leaf
def H_visible : Nat → RH := fun _ => {}
noncomputable def S_visible : Sig := .n [(.d (.int .u8))] (.d .bool) (fun x => G_visible x.1)
theorem S_visible_ok : SigOK CX 109 S_visible := sigN_of (l := []) trivial (hint := H_visible) (an := A_visible) (fun x => by kernel_rfl)
noncomputable def G_digits (x0 : List UInt8) : Option (Bool) := (
 Option.bind (α := ((List UInt8) × Unit) × (Unit))
 (cond ((ixOK 0 x0.length) || !(decide ((x0.length : Int) > 1))) (cond (cond (decide ((x0.length : Int) > 1)) (decide (byteAt x0 0 = 45)) false) (cond (slOK 1 (x0.length : Int) x0.length) (some (((x0.drop (1 : Int).toNat).take ((x0.length : Int).toNat - (1 : Int).toNat), ()), ())) none) (some ((x0, ()), ()))) none) fun d1 => (
 let v0_2 := d1.1.1
 Option.bind (α := Step (((List UInt8) × Unit) × (Unit)) (Bool))
 (loopM (L := ((List UInt8) × Int × Unit) × (Unit)) (R := Step (((List UInt8) × Unit) × (Unit)) (Bool)) (fun d3 => (
 let v0_4 := d3.1.1
 let v3_5 := d3.1.2.1
 cond (decide (v3_5 < (v0_4.length : Int))) (cond (ixOK v3_5 v0_4.length) (cond ((ixOK v3_5 v0_4.length) || !(!(decide (byteAt v0_4 v3_5 < 48)))) (cond (cond (decide (byteAt v0_4 v3_5 < 48)) true (decide (byteAt v0_4 v3_5 > 57))) (some (Step.done (Step.done false))) (some (Step.next ((v0_4, IntKind.wrap .i64 (v3_5 + 1), ()), ())))) none) none) (some (Step.done (Step.next ((v0_4, ()), ())))))) ((v0_2, 0, ()), ())) fun qd6 => match qd6 with
 | .next d6 => (
 let v0_7 := d6.1.1
 some (!decide (v0_7 = [])))
 | .done r => some r))
def A_digits : An := .seq (.leaf) (.join false { env := [(0, (.d .str))], objs := [] } (.leaf) (.join true { env := [(0, (.d .str))], objs := [] } (.seq (.leaf) (.block (.loop { env := [(0, (.d .str)), (3, (.d (.int .i64)))], objs := [] } (.leaf)))) (.leaf)))
def H_digits : Nat → RH := fun _ => {}
noncomputable def S_digits : Sig := .n [(.d .str)] (.d .bool) (fun x => G_digits x.1)
theorem S_digits_ok : SigOK CX 142 S_digits := sigN_of (l := []) trivial (hint := H_digits) (an := A_digits) (fun x => by kernel_rfl)
noncomputable def G_isWord (x0 : List UInt8) : Option (Bool) := (
 Option.bind (α := Step (((List UInt8) × Unit) × (Unit)) (Bool))
 (loopM (L := ((List UInt8) × Int × Unit) × (Unit)) (R := Step (((List UInt8) × Unit) × (Unit)) (Bool)) (fun d1 => (
 let v0_2 := d1.1.1
 let v3_3 := d1.1.2.1
 cond (decide (v3_3 < (v0_2.length : Int))) (cond (ixOK v3_3 v0_2.length) (Option.bind (α := Bool) (G_visible (byteAt v0_2 v3_3)) fun r4 => (
 cond (!r4) (some (Step.done (Step.done false))) (some (Step.next ((v0_2, IntKind.wrap .i64 (v3_3 + 1), ()), ()))))) none) (some (Step.done (Step.next ((v0_2, ()), ())))))) ((x0, 0, ()), ())) fun qd5 => match qd5 with
 | .next d5 => (
 let v0_6 := d5.1.1
 Option.bind (α := Bool) (cond (cond (decide ((v0_6.length : Int) ≥ 1)) (decide ((v0_6.length : Int) ≤ 30)) false) (G_digits v0_6) (some false)) fun r7 => (
 some (cond (cond (decide ((v0_6.length : Int) ≥ 1)) (decide ((v0_6.length : Int) ≤ 30)) false) (!r7) false)))
 | .done r => some r)
def A_isWord : An := .seq (.leaf) (.join true { env := [(0, (.d .str))], objs := [] } (.seq (.leaf) (.block (.loop { env := [(0, (.d .str)), (3, (.d (.int .i64)))], objs := [] } (.leaf)))) (.leaf))
def H_isWord : Nat → RH := fun _ => {}
noncomputable def S_isWord : Sig := .n [(.d .str)] (.d .bool) (fun x => G_isWord x.1)
theorem S_isWord_ok : SigOK CX 124 S_isWord := sigN_of (l := [(109, S_visible), (142, S_digits)]) ⟨S_visible_ok, S_digits_ok, trivial⟩ (hint := H_isWord) (an := A_isWord) (fun x => by kernel_rfl)
noncomputable def G_isText (x0 : List UInt8) : Option (Bool) := (
 Option.bind (α := Step (((List UInt8) × Unit) × (Unit)) (Bool))
 (loopM (L := ((List UInt8) × Int × Unit) × (Unit)) (R := Step (((List UInt8) × Unit) × (Unit)) (Bool)) (fun d1 => (
 let v0_2 := d1.1.1
 let v3_3 := d1.1.2.1
 cond (decide (v3_3 < (v0_2.length : Int))) (cond (ixOK v3_3 v0_2.length) (cond ((ixOK v3_3 v0_2.length) || !(!decide (byteAt v0_2 v3_3 = 10))) (cond ((ixOK v3_3 v0_2.length) || !((!decide (byteAt v0_2 v3_3 = 10)) && !(decide (byteAt v0_2 v3_3 < 32)))) (cond (cond (!decide (byteAt v0_2 v3_3 = 10)) (cond (decide (byteAt v0_2 v3_3 < 32)) true (decide (byteAt v0_2 v3_3 > 126))) false) (some (Step.done (Step.done false))) (some (Step.next ((v0_2, IntKind.wrap .i64 (v3_3 + 1), ()), ())))) none) none) none) (some (Step.done (Step.next ((v0_2, ()), ())))))) ((x0, 0, ()), ())) fun qd4 => match qd4 with
 | .next d4 => (
 let v0_5 := d4.1.1
 some (decide ((v0_5.length : Int) ≤ 2000)))
 | .done r => some r)
def A_isText : An := .seq (.leaf) (.join true { env := [(0, (.d .str))], objs := [] } (.seq (.leaf) (.block (.loop { env := [(0, (.d .str)), (3, (.d (.int .i64)))], objs := [] } (.leaf)))) (.leaf))
def H_isText : Nat → RH := fun _ => {}
noncomputable def S_isText : Sig := .n [(.d .str)] (.d .bool) (fun x => G_isText x.1)
theorem S_isText_ok : SigOK CX 125 S_isText := sigN_of (l := []) trivial (hint := H_isText) (an := A_isText) (fun x => by kernel_rfl)
noncomputable def G_fields (k : Nat) (x0 : Fm) : Option (Bool) := match k with
| 0 => none
| k + 1 => (
 cond (cond (cond (cond (!decide (x0.k = 0)) (!decide (x0.n = 0)) false) true (cond (!decide (x0.k = 3)) (decide ((x0.l.length : Int) > 0)) false)) true (cond (cond (!decide (x0.k = 1)) (!decide (x0.k = 2)) false) (!decide (x0.t = [])) false)) (some false) (Option.bind (α := Step ((Unit) × (Unit)) (Bool))
 (cond (decide (x0.k = 0)) (some (Step.done (cond (decide (x0.n ≥ (-1152921504606846976))) (decide (x0.n ≤ 1152921504606846976)) false))) (cond (decide (x0.k = 1)) (Option.bind (α := Bool) (G_isWord x0.t) fun r1 => (
 some (Step.done r1))) (cond (decide (x0.k = 2)) (Option.bind (α := Bool) (G_isText x0.t) fun r2 => (
 some (Step.done r2))) (cond (decide (x0.k = 3)) (Option.bind (α := Step ((Unit) × (Unit)) (Step ((Unit) × (Unit)) (Bool)))
 (loopM (L := ((Int × Int × (List UInt8) × (List Fm) × Unit) × Int × Unit) × (Unit)) (R := Step ((Unit) × (Unit)) (Step ((Unit) × (Unit)) (Bool))) (fun d3 => (
 let v3_4 := d3.1.2.1
 cond (decide (v3_4 < (d3.1.1.2.2.2.1.length : Int))) (cond (ixOK v3_4 d3.1.1.2.2.2.1.length) (Option.bind (α := Bool) (G_fields k (Fm.eta (d3.1.1.2.2.2.1.getD v3_4.toNat (Fm.mk 0 0 [] [])))) fun r5 => (
 cond (!r5) (some (Step.done (Step.done (Step.done false)))) (some (Step.next (((d3.1.1.1, d3.1.1.2.1, d3.1.1.2.2.1, d3.1.1.2.2.2.1, ()), IntKind.wrap .i64 (v3_4 + 1), ()), ()))))) none) (some (Step.done (Step.next ((), ())))))) (((x0.k, x0.n, x0.t, x0.l, ()), 0, ()), ())) fun qd6 => match qd6 with
 | .next d6 => (
 some (Step.done true))
 | .done r => some r) (some (Step.next ((), ()))))))) fun qd7 => match qd7 with
 | .next d7 => (
 some false)
 | .done r => some r))
def A_fields : An := .seq (.leaf) (.seq (.leaf) (.join true { env := [], objs := [] } (.seq (.leaf) (.block (.seq (.leaf) (.cond (.leaf) (.seq (.leaf) (.cond (.leaf) (.seq (.leaf) (.cond (.leaf) (.seq (.leaf) (.cond (.join true { env := [], objs := [] } (.seq (.leaf) (.block (.loop { env := [(1, (.rptr [(.d (.int .i64)), (.d (.int .i64)), (.d .str), (.d (.slice .form))])), (3, (.d (.int .i64)))], objs := [] } (.leaf)))) (.leaf)) (.leaf))))))))))) (.leaf)))
def H_fields : Nat → RH := fun _ => {}
noncomputable def S_fields (k : Nat) : Sig := .n [(.d .form)] (.d .bool) (fun x => G_fields k x.1)
theorem S_fields_rec : ∀ k, SigOK CX 79 (S_fields k)
| 0 => fun x r h => by cases h
| k + 1 => by
 have ih := S_fields_rec k
 exact sigN_of (l := [(124, S_isWord), (125, S_isText), (79, (S_fields k))]) ⟨S_isWord_ok, S_isText_ok, ih, trivial⟩ (hint := H_fields) (an := A_fields) (fun x => by kernel_rfl)
theorem S_fields_ok : ∀ k, SigOK CX 79 (S_fields k) := fun k => S_fields_rec k
noncomputable def L_fields (x0 : Fm) : Option (Bool) := limF fun k => G_fields k x0
noncomputable def S_fields_l : Sig := .n [(.d .form)] (.d .bool) (fun x => L_fields x.1)
theorem S_fields_l_ok : SigOK CX 79 S_fields_l := SigOK.limN S_fields_ok fun x r h => limF_ex h
noncomputable def G_refDepth (k : Nat) (x0 : Fm) : Option (Int) := match k with
| 0 => none
| k + 1 => (
 Option.bind (α := (Int × Unit) × (Unit))
 (loopM (L := ((Int × Int × (List UInt8) × (List Fm) × Unit) × Int × Int × Unit) × (Unit)) (R := (Int × Unit) × (Unit)) (fun d1 => (
 let v3_2 := d1.1.2.1
 let v4_3 := d1.1.2.2.1
 cond (cond (decide (d1.1.1.1 = 3)) (decide (v4_3 < (d1.1.1.2.2.2.1.length : Int))) false) (cond (ixOK v4_3 d1.1.1.2.2.2.1.length) (Option.bind (α := Int) (G_refDepth k (Fm.eta (d1.1.1.2.2.2.1.getD v4_3.toNat (Fm.mk 0 0 [] [])))) fun r4 => (
 some (Step.next (((d1.1.1.1, d1.1.1.2.1, d1.1.1.2.2.1, d1.1.1.2.2.2.1, ()), (if r4 > v3_2 then r4 else v3_2), IntKind.wrap .i64 (v4_3 + 1), ()), ())))) none) (some (Step.done ((v3_2, ()), ()))))) (((x0.k, x0.n, x0.t, x0.l, ()), 0, 0, ()), ())) fun d5 => (
 let v3_6 := d5.1.1
 some (IntKind.wrap .i64 (v3_6 + 1))))
def A_refDepth : An := .seq (.leaf) (.seq (.leaf) (.join false { env := [(3, (.d (.int .i64)))], objs := [] } (.seq (.leaf) (.block (.loop { env := [(1, (.rptr [(.d (.int .i64)), (.d (.int .i64)), (.d .str), (.d (.slice .form))])), (3, (.d (.int .i64))), (4, (.d (.int .i64)))], objs := [] } (.leaf)))) (.leaf)))
def H_refDepth : Nat → RH := fun _ => {}
noncomputable def S_refDepth (k : Nat) : Sig := .n [(.d .form)] (.d (.int .i64)) (fun x => G_refDepth k x.1)
theorem S_refDepth_rec : ∀ k, SigOK CX 38 (S_refDepth k)
| 0 => fun x r h => by cases h
| k + 1 => by
 have ih := S_refDepth_rec k
 exact sigN_of (l := [(38, (S_refDepth k))]) ⟨ih, trivial⟩ (hint := H_refDepth) (an := A_refDepth) (fun x => by kernel_rfl)
theorem S_refDepth_ok : ∀ k, SigOK CX 38 (S_refDepth k) := fun k => S_refDepth_rec k
noncomputable def L_refDepth (x0 : Fm) : Option (Int) := limF fun k => G_refDepth k x0
noncomputable def S_refDepth_l : Sig := .n [(.d .form)] (.d (.int .i64)) (fun x => L_refDepth x.1)
theorem S_refDepth_l_ok : SigOK CX 38 S_refDepth_l := SigOK.limN S_refDepth_ok fun x r h => limF_ex h
noncomputable def G_small1 (x0 : Fm) : Option (Bool) := (
 Option.bind (α := Int) (L_refSize (Fm.eta x0)) fun r1 => (
 Option.bind (α := Int) (cond (decide (r1 ≤ 20000)) (L_refDepth (Fm.eta x0)) (some (0 : Int))) fun r2 => (
 some (cond (decide (r1 ≤ 20000)) (decide (r2 ≤ 100)) false))))
def A_small1 : An := .leaf
def H_small1 : Nat → RH := fun _ => {}
noncomputable def S_small1 : Sig := .n [(.d .form)] (.d .bool) (fun x => G_small1 x.1)
theorem S_small1_ok : SigOK CX 63 S_small1 := sigN_of (l := [(10, S_refSize_l), (38, S_refDepth_l)]) ⟨S_refSize_l_ok, S_refDepth_l_ok, trivial⟩ (hint := H_small1) (an := A_small1) (fun x => by kernel_rfl)
noncomputable def G_refValid (x0 : Fm) : Option (Bool) := (
 Option.bind (α := Bool) (L_fields (Fm.eta x0)) fun r1 => (
 Option.bind (α := Bool) (cond r1 (G_small1 (Fm.eta x0)) (some false)) fun r2 => (
 some (cond r1 r2 false))))
def A_refValid : An := .leaf
def H_refValid : Nat → RH := fun _ => {}
noncomputable def S_refValid : Sig := .n [(.d .form)] (.d .bool) (fun x => G_refValid x.1)
theorem S_refValid_ok : SigOK CX 35 S_refValid := sigN_of (l := [(79, S_fields_l), (63, S_small1)]) ⟨S_fields_l_ok, S_small1_ok, trivial⟩ (hint := H_refValid) (an := A_refValid) (fun x => by kernel_rfl)
noncomputable def G_refHead (x0 : Fm) : Option (List UInt8) := (
 cond ((ixOK 0 x0.l.length) || !(!(cond (!decide (x0.k = 3)) true (decide ((x0.l.length : Int) = 0))))) (cond (cond (cond (!decide (x0.k = 3)) true (decide ((x0.l.length : Int) = 0))) true (!decide ((x0.l.getD (0 : Int).toNat (Fm.mk 0 0 [] [])).k = 1))) (some ([])) (cond (ixOK 0 x0.l.length) (some ((x0.l.getD (0 : Int).toNat (Fm.mk 0 0 [] [])).t)) none)) none)
def A_refHead : An := .leaf
def H_refHead : Nat → RH := fun _ => {}
noncomputable def S_refHead : Sig := .n [(.d .form)] (.d .str) (fun x => G_refHead x.1)
theorem S_refHead_ok : SigOK CX 42 S_refHead := sigN_of (l := []) trivial (hint := H_refHead) (an := A_refHead) (fun x => by kernel_rfl)
noncomputable def G_size34 (x0 : Int) : Option (Int) := (
 cond (decide (x0 < 0)) (some (if IntKind.wrap .i64 (0 - IntKind.wrap .i64 (x0 + 1)) > IntKind.wrap .i64 (0 - x0) then IntKind.wrap .i64 (0 - IntKind.wrap .i64 (x0 + 1)) else IntKind.wrap .i64 (0 - x0))) (some x0))
def A_size34 : An := .leaf
def H_size34 : Nat → RH := fun _ => {}
noncomputable def S_size34 : Sig := .n [(.d (.int .i64))] (.d (.int .i64)) (fun x => G_size34 x.1)
theorem S_size34_ok : SigOK CX 74 S_size34 := sigN_of (l := []) trivial (hint := H_size34) (an := A_size34) (fun x => by kernel_rfl)
noncomputable def G_times34 (x0 : Int) (x1 : Int) : Option (Int × Bool × Unit) := (
 Option.bind (α := Int) (cond (!decide (x0 = 0)) (G_size34 x1) (some (0 : Int))) fun r1 => (
 Option.bind (α := Int) (cond (!decide (x0 = 0)) (G_size34 x0) (some (0 : Int))) fun r2 => (
 cond ((!decide (r2 = 0)) || !(!decide (x0 = 0))) (cond (cond (!decide (x0 = 0)) (decide (r1 > IntKind.wrap .i64 (Int.tdiv 1152921504606846976 r2))) false) (some (0, false, ())) (some (IntKind.wrap .i64 (x0 * x1), true, ()))) none)))
def A_times34 : An := .leaf
def H_times34 : Nat → RH := fun _ => {}
noncomputable def S_times34 : Sig := .n [(.d (.int .i64)), (.d (.int .i64))] (.tup [(.d (.int .i64)), (.d .bool)]) (fun x => G_times34 x.1 x.2.1)
theorem S_times34_ok : SigOK CX 71 S_times34 := sigN_of (l := [(74, S_size34)]) ⟨S_size34_ok, trivial⟩ (hint := H_times34) (an := A_times34) (fun x => by kernel_rfl)
noncomputable def G_small34 (x0 : Int) : Option (Bool) := (
 some (cond (decide (x0 ≥ (-1152921504606846976))) (decide (x0 ≤ 1152921504606846976)) false))
def A_small34 : An := .leaf
def H_small34 : Nat → RH := fun _ => {}
noncomputable def S_small34 : Sig := .n [(.d (.int .i64))] (.d .bool) (fun x => G_small34 x.1)
theorem S_small34_ok : SigOK CX 72 S_small34 := sigN_of (l := []) trivial (hint := H_small34) (an := A_small34) (fun x => by kernel_rfl)
noncomputable def G_sum34 (x0 : Int × List (Int × Fm)) (x1 : Int × List (Int × Fm)) (x2 : Int) : Option ((Int × List (Int × Fm)) × Bool × Unit) := (
 Option.bind (α := Int × Bool × Unit) (G_times34 x1.1 x2) fun r1 => (
 Option.bind (α := Bool) (cond r1.2.1 (G_small34 (IntKind.wrap .i64 (x0.1 + r1.1))) (some false)) fun r2 => (
 Option.bind (α := (Unit × Bool × Unit × Unit) × ((Int × Unit × Unit) × (Int × Unit × Unit) × (List (Int × Fm)) × Unit))
 (loopM (L := (Int × (Int × (List (Int × Fm)) × Unit) × (Int × (List (Int × Fm)) × Unit) × Unit × Bool × Unit × Int × Int × Unit) × ((Int × Unit × Unit) × (Int × Unit × Unit) × (List (Int × Fm)) × Unit)) (R := (Unit × Bool × Unit × Unit) × ((Int × Unit × Unit) × (Int × Unit × Unit) × (List (Int × Fm)) × Unit)) (fun d3 => (
 let l4 := d3.2.2.2.1
 let v2_5 := d3.1.1
 let v9_6 := d3.1.2.2.2.2.1
 let v11_7 := d3.1.2.2.2.2.2.2.1
 let v12_8 := d3.1.2.2.2.2.2.2.2.1
 cond (cond v9_6 (cond (decide (v11_7 < (d3.1.2.1.2.1.length : Int))) true (decide (v12_8 < (d3.1.2.2.1.2.1.length : Int)))) false) (Option.bind (α := (Int × (Int × (List (Int × Fm)) × Unit) × (Int × (List (Int × Fm)) × Unit) × Unit × Bool × Unit × Int × Int × Int × Unit) × ((Int × Unit × Unit) × (Int × Unit × Unit) × (List (Int × Fm)) × Unit))
 (cond (decide (v11_7 = (d3.1.2.1.2.1.length : Int))) (some ((v2_5, (d3.1.2.1.1, d3.1.2.1.2.1, ()), (d3.1.2.2.1.1, d3.1.2.2.1.2.1, ()), (), v9_6, (), v11_7, v12_8, 1, ()), ((d3.2.1.1, (), ()), (d3.2.2.1.1, (), ()), l4, ()))) (cond (decide (v12_8 = (d3.1.2.2.1.2.1.length : Int))) (some ((v2_5, (d3.1.2.1.1, d3.1.2.1.2.1, ()), (d3.1.2.2.1.1, d3.1.2.2.1.2.1, ()), (), v9_6, (), v11_7, v12_8, (-1), ()), ((d3.2.1.1, (), ()), (d3.2.2.1.1, (), ()), l4, ()))) (cond (ixOK v11_7 d3.1.2.1.2.1.length) (cond (ixOK v12_8 d3.1.2.2.1.2.1.length) (Option.bind (α := Int) (L_refCompare (Fm.eta ((d3.1.2.1.2.1.getD v11_7.toNat ((0 : Int), (Fm.mk 0 0 [] []))).2)) (Fm.eta ((d3.1.2.2.1.2.1.getD v12_8.toNat ((0 : Int), (Fm.mk 0 0 [] []))).2))) fun r9 => (
 some ((v2_5, (d3.1.2.1.1, d3.1.2.1.2.1, ()), (d3.1.2.2.1.1, d3.1.2.2.1.2.1, ()), (), v9_6, (), v11_7, v12_8, r9, ()), ((d3.2.1.1, (), ()), (d3.2.2.1.1, (), ()), l4, ())))) none) none))) fun d10 => (
 let l11 := d10.2.2.2.1
 let v2_12 := d10.1.1
 let v9_13 := d10.1.2.2.2.2.1
 let v11_14 := d10.1.2.2.2.2.2.2.1
 let v12_15 := d10.1.2.2.2.2.2.2.2.1
 let v13_16 := d10.1.2.2.2.2.2.2.2.2.1
 Option.bind (α := (Int × (Int × (List (Int × Fm)) × Unit) × (Int × (List (Int × Fm)) × Unit) × Unit × Bool × Unit × Int × Int × Int × Unit × Unit) × ((Int × Unit × Unit) × (Int × Unit × Unit) × (Int × Int × Int × (List UInt8) × (List Fm) × Unit) × (List (Int × Fm)) × Unit))
 (cond (decide (v13_16 ≤ 0)) (cond (ixOK v11_14 d10.1.2.1.2.1.length) (some ((v2_12, (d10.1.2.1.1, d10.1.2.1.2.1, ()), (d10.1.2.2.1.1, d10.1.2.2.1.2.1, ()), (), v9_13, (), IntKind.wrap .i64 (v11_14 + 1), v12_15, v13_16, (), ()), ((d10.2.1.1, (), ()), (d10.2.2.1.1, (), ()), ((d10.1.2.1.2.1.getD v11_14.toNat ((0 : Int), (Fm.mk 0 0 [] []))).1, ((d10.1.2.1.2.1.getD v11_14.toNat ((0 : Int), (Fm.mk 0 0 [] []))).2).k, ((d10.1.2.1.2.1.getD v11_14.toNat ((0 : Int), (Fm.mk 0 0 [] []))).2).n, ((d10.1.2.1.2.1.getD v11_14.toNat ((0 : Int), (Fm.mk 0 0 [] []))).2).t, ((d10.1.2.1.2.1.getD v11_14.toNat ((0 : Int), (Fm.mk 0 0 [] []))).2).l, ()), l11, ()))) none) (some ((v2_12, (d10.1.2.1.1, d10.1.2.1.2.1, ()), (d10.1.2.2.1.1, d10.1.2.2.1.2.1, ()), (), v9_13, (), v11_14, v12_15, v13_16, (), ()), ((d10.2.1.1, (), ()), (d10.2.2.1.1, (), ()), (0, 0, 0, [], ([] : List Fm), ()), l11, ())))) fun d17 => (
 let c18 := d17.2.2.2.1.1
 let c19 := d17.2.2.2.1.2.1
 let c20 := d17.2.2.2.1.2.2.1
 let c21 := d17.2.2.2.1.2.2.2.1
 let c22 := d17.2.2.2.1.2.2.2.2.1
 let l23 := d17.2.2.2.2.1
 let v2_24 := d17.1.1
 let v9_25 := d17.1.2.2.2.2.1
 let v11_26 := d17.1.2.2.2.2.2.2.1
 let v12_27 := d17.1.2.2.2.2.2.2.2.1
 let v13_28 := d17.1.2.2.2.2.2.2.2.2.1
 Option.bind (α := (Int × (Int × (List (Int × Fm)) × Unit) × (Int × (List (Int × Fm)) × Unit) × Unit × Bool × Unit × Int × Int × Unit × Unit) × ((Int × Unit × Unit) × (Int × Unit × Unit) × (Int × Int × Int × (List UInt8) × (List Fm) × Unit) × (List (Int × Fm)) × Unit))
 (cond (decide (v13_28 ≥ 0)) (cond (ixOK v12_27 d17.1.2.2.1.2.1.length) (Option.bind (α := Int × Bool × Unit) (G_times34 ((d17.1.2.2.1.2.1.getD v12_27.toNat ((0 : Int), (Fm.mk 0 0 [] []))).1) v2_24) fun r29 => (
 Option.bind (α := Bool) (cond r29.2.1 (G_small34 (IntKind.wrap .i64 (c18 + r29.1))) (some false)) fun r30 => (
 cond (ixOK v12_27 d17.1.2.2.1.2.1.length) (some ((v2_24, (d17.1.2.1.1, d17.1.2.1.2.1, ()), (d17.1.2.2.1.1, d17.1.2.2.1.2.1, ()), (), cond r29.2.1 r30 false, (), v11_26, IntKind.wrap .i64 (v12_27 + 1), (), ()), ((d17.2.1.1, (), ()), (d17.2.2.1.1, (), ()), (IntKind.wrap .i64 (c18 + r29.1), ((d17.1.2.2.1.2.1.getD v12_27.toNat ((0 : Int), (Fm.mk 0 0 [] []))).2).k, ((d17.1.2.2.1.2.1.getD v12_27.toNat ((0 : Int), (Fm.mk 0 0 [] []))).2).n, ((d17.1.2.2.1.2.1.getD v12_27.toNat ((0 : Int), (Fm.mk 0 0 [] []))).2).t, ((d17.1.2.2.1.2.1.getD v12_27.toNat ((0 : Int), (Fm.mk 0 0 [] []))).2).l, ()), l23, ()))) none))) none) (some ((v2_24, (d17.1.2.1.1, d17.1.2.1.2.1, ()), (d17.1.2.2.1.1, d17.1.2.2.1.2.1, ()), (), v9_25, (), v11_26, v12_27, (), ()), ((d17.2.1.1, (), ()), (d17.2.2.1.1, (), ()), (c18, c19, c20, c21, c22, ()), l23, ())))) fun d31 => (
 let c32 := d31.2.2.2.1.1
 let c33 := d31.2.2.2.1.2.1
 let c34 := d31.2.2.2.1.2.2.1
 let c35 := d31.2.2.2.1.2.2.2.1
 let c36 := d31.2.2.2.1.2.2.2.2.1
 let l37 := d31.2.2.2.2.1
 let v2_38 := d31.1.1
 let v9_39 := d31.1.2.2.2.2.1
 let v11_40 := d31.1.2.2.2.2.2.2.1
 let v12_41 := d31.1.2.2.2.2.2.2.2.1
 cond (!decide (c32 = 0)) (cond (decide ((l37.length + ([(c32, (Fm.mk c33 c34 c35 c36))]).length) * 64 ≤ 140737488355328)) (some (Step.next ((v2_38, (d31.1.2.1.1, d31.1.2.1.2.1, ()), (d31.1.2.2.1.1, d31.1.2.2.1.2.1, ()), (), v9_39, (), v11_40, v12_41, ()), ((d31.2.1.1, (), ()), (d31.2.2.1.1, (), ()), l37 ++ ([(c32, (Fm.mk c33 c34 c35 c36))]), ())))) none) (some (Step.next ((v2_38, (d31.1.2.1.1, d31.1.2.1.2.1, ()), (d31.1.2.2.1.1, d31.1.2.2.1.2.1, ()), (), v9_39, (), v11_40, v12_41, ()), ((d31.2.1.1, (), ()), (d31.2.2.1.1, (), ()), l37, ())))))))) (some (Step.done (((), v9_6, (), ()), ((d3.2.1.1, (), ()), (d3.2.2.1.1, (), ()), l4, ())))))) ((x2, (x0.1, x0.2, ()), (x1.1, x1.2, ()), (), cond r1.2.1 r2 false, (), 0, 0, ()), ((0, (), ()), (IntKind.wrap .i64 (x0.1 + r1.1), (), ()), ([] : List (Int × Fm)), ()))) fun d42 => (
 let l43 := d42.2.2.2.1
 let v9_44 := d42.1.2.1
 some ((d42.2.2.1.1, l43), v9_44, ())))))
def A_sum34 : An := .seq (.leaf) (.seq (.leaf) (.seq (.leaf) (.seq (.leaf) (.seq (.leaf) (.join false { env := [(6, (.ref 0 0)), (9, (.d .bool)), (10, (.ref 1 0))], objs := [(false, .cells 63 [(.d (.int .i64)), (.c (.base (.slice none 0 0)))]), (false, .cells 63 [(.d (.int .i64)), (.gs 2 (.pr (.int .i64) .form))]), (false, .tg (.pr (.int .i64) .form) 85)] } (.block (.loop { env := [(2, (.d (.int .i64))), (3, (.rptr [(.d (.int .i64)), (.d (.slice (.pr (.int .i64) .form)))])), (4, (.rptr [(.d (.int .i64)), (.d (.slice (.pr (.int .i64) .form)))])), (6, (.ref 0 0)), (9, (.d .bool)), (10, (.ref 1 0)), (11, (.d (.int .i64))), (12, (.d (.int .i64)))], objs := [(false, .cells 63 [(.d (.int .i64)), (.c (.base (.slice none 0 0)))]), (false, .cells 63 [(.d (.int .i64)), (.gs 2 (.pr (.int .i64) .form))]), (false, .tg (.pr (.int .i64) .form) 85)] } (.seq (.leaf) (.block (.seq (.leaf) (.join false { env := [(2, (.d (.int .i64))), (3, (.rptr [(.d (.int .i64)), (.d (.slice (.pr (.int .i64) .form)))])), (4, (.rptr [(.d (.int .i64)), (.d (.slice (.pr (.int .i64) .form)))])), (6, (.ref 0 0)), (9, (.d .bool)), (10, (.ref 1 0)), (11, (.d (.int .i64))), (12, (.d (.int .i64))), (13, (.d (.int .i64)))], objs := [(false, .cells 63 [(.d (.int .i64)), (.c (.base (.slice none 0 0)))]), (false, .cells 63 [(.d (.int .i64)), (.gs 2 (.pr (.int .i64) .form))]), (false, .tg (.pr (.int .i64) .form) 85)] } (.leaf) (.seq (.leaf) (.join false { env := [(2, (.d (.int .i64))), (3, (.rptr [(.d (.int .i64)), (.d (.slice (.pr (.int .i64) .form)))])), (4, (.rptr [(.d (.int .i64)), (.d (.slice (.pr (.int .i64) .form)))])), (6, (.ref 0 0)), (9, (.d .bool)), (10, (.ref 1 0)), (11, (.d (.int .i64))), (12, (.d (.int .i64))), (13, (.d (.int .i64))), (14, (.ref 2 0))], objs := [(false, .cells 63 [(.d (.int .i64)), (.c (.base (.slice none 0 0)))]), (false, .cells 63 [(.d (.int .i64)), (.gs 3 (.pr (.int .i64) .form))]), (false, .cells 85 [(.d (.int .i64)), (.d (.int .i64)), (.d (.int .i64)), (.d .str), (.d (.slice .form))]), (false, .tg (.pr (.int .i64) .form) 85)] } (.leaf) (.join false { env := [(2, (.d (.int .i64))), (3, (.rptr [(.d (.int .i64)), (.d (.slice (.pr (.int .i64) .form)))])), (4, (.rptr [(.d (.int .i64)), (.d (.slice (.pr (.int .i64) .form)))])), (6, (.ref 0 0)), (9, (.d .bool)), (10, (.ref 1 0)), (11, (.d (.int .i64))), (12, (.d (.int .i64))), (14, (.ref 2 0))], objs := [(false, .cells 63 [(.d (.int .i64)), (.c (.base (.slice none 0 0)))]), (false, .cells 63 [(.d (.int .i64)), (.gs 3 (.pr (.int .i64) .form))]), (false, .cells 85 [(.d (.int .i64)), (.d (.int .i64)), (.d (.int .i64)), (.d .str), (.d (.slice .form))]), (false, .tg (.pr (.int .i64) .form) 85)] } (.leaf) (.leaf)))))))))) (.leaf))))))
def H_sum34 : Nat → RH := fun r => match r with
 | 7 => { H := { pl := [51, 55, 57, 61] } }
 | 19 => { H := { pl := [110, 114] } }
 | 22 => { H := { ty := [(125, (.pr (.int .i64) .form))] } }
 | _ => {}
noncomputable def S_sum34 : Sig := .n [(.d (.pr (.int .i64) (.slice (.pr (.int .i64) .form)))), (.d (.pr (.int .i64) (.slice (.pr (.int .i64) .form)))), (.d (.int .i64))] (.tup [(.d (.pr (.int .i64) (.slice (.pr (.int .i64) .form)))), (.d .bool)]) (fun x => G_sum34 x.1 x.2.1 x.2.2.1)
theorem S_sum34_ok : SigOK CX 97 S_sum34 := sigN_of (l := [(71, S_times34), (72, S_small34), (64, S_refCompare_l)]) ⟨S_times34_ok, S_small34_ok, S_refCompare_l_ok, trivial⟩ (hint := H_sum34) (an := A_sum34) (fun x => by kernel_rfl)
noncomputable def G_mine34 (x0 : Int × List (Int × Fm)) : Option (Int × List (Int × Fm)) := (
 Option.bind (α := (Unit × Unit × Unit) × ((Int × Unit × Unit) × (Int × Unit × Unit) × (List (Int × Fm)) × Unit))
 (loopM (L := ((Int × (List (Int × Fm)) × Unit) × Unit × Unit × Int × Unit) × ((Int × Unit × Unit) × (Int × Unit × Unit) × (List (Int × Fm)) × Unit)) (R := (Unit × Unit × Unit) × ((Int × Unit × Unit) × (Int × Unit × Unit) × (List (Int × Fm)) × Unit)) (fun d1 => (
 let l2 := d1.2.2.2.1
 let v4_3 := d1.1.2.2.2.1
 cond (decide (v4_3 < (d1.1.1.2.1.length : Int))) (cond (ixOK v4_3 d1.1.1.2.1.length) (cond (ixOK v4_3 d1.1.1.2.1.length) (cond (decide ((l2.length + ([((d1.1.1.2.1.getD v4_3.toNat ((0 : Int), (Fm.mk 0 0 [] []))).1, (Fm.eta ((d1.1.1.2.1.getD v4_3.toNat ((0 : Int), (Fm.mk 0 0 [] []))).2)))]).length) * 64 ≤ 140737488355328)) (some (Step.next (((d1.1.1.1, d1.1.1.2.1, ()), (), (), IntKind.wrap .i64 (v4_3 + 1), ()), ((d1.2.1.1, (), ()), (d1.2.2.1.1, (), ()), l2 ++ ([((d1.1.1.2.1.getD v4_3.toNat ((0 : Int), (Fm.mk 0 0 [] []))).1, (Fm.eta ((d1.1.1.2.1.getD v4_3.toNat ((0 : Int), (Fm.mk 0 0 [] []))).2)))]), ())))) none) none) none) (some (Step.done (((), (), ()), ((d1.2.1.1, (), ()), (d1.2.2.1.1, (), ()), l2, ())))))) (((x0.1, x0.2, ()), (), (), 0, ()), ((0, (), ()), (x0.1, (), ()), ([] : List (Int × Fm)), ()))) fun d4 => (
 let l5 := d4.2.2.2.1
 some (d4.2.2.1.1, l5)))
def A_mine34 : An := .seq (.leaf) (.seq (.leaf) (.join false { env := [(2, (.ref 0 0)), (3, (.ref 1 0))], objs := [(false, .cells 66 [(.d (.int .i64)), (.c (.base (.slice none 0 0)))]), (false, .cells 66 [(.d (.int .i64)), (.gs 2 (.pr (.int .i64) .form))]), (false, .tg (.pr (.int .i64) .form) 124)] } (.seq (.leaf) (.block (.loop { env := [(1, (.rptr [(.d (.int .i64)), (.d (.slice (.pr (.int .i64) .form)))])), (2, (.ref 0 0)), (3, (.ref 1 0)), (4, (.d (.int .i64)))], objs := [(false, .cells 66 [(.d (.int .i64)), (.c (.base (.slice none 0 0)))]), (false, .cells 66 [(.d (.int .i64)), (.gs 2 (.pr (.int .i64) .form))]), (false, .tg (.pr (.int .i64) .form) 124)] } (.leaf)))) (.leaf)))
def H_mine34 : Nat → RH := fun r => match r with
 | 5 => { H := { pl := [18, 22, 24, 28], ty := [(31, (.pr (.int .i64) .form))] } }
 | _ => {}
noncomputable def S_mine34 : Sig := .n [(.d (.pr (.int .i64) (.slice (.pr (.int .i64) .form))))] (.d (.pr (.int .i64) (.slice (.pr (.int .i64) .form)))) (fun x => G_mine34 x.1)
theorem S_mine34_ok : SigOK CX 51 S_mine34 := sigN_of (l := []) trivial (hint := H_mine34) (an := A_mine34) (fun x => by kernel_rfl)
noncomputable def G_within (x0 : Int) : Option (Bool) := (
 some (cond (decide (x0 ≥ (-1152921504606846976))) (decide (x0 ≤ 1152921504606846976)) false))
def A_within : An := .leaf
def H_within : Nat → RH := fun _ => {}
noncomputable def S_within : Sig := .n [(.d (.int .i64))] (.d .bool) (fun x => G_within x.1)
theorem S_within_ok : SigOK CX 101 S_within := sigN_of (l := []) trivial (hint := H_within) (an := A_within) (fun x => by kernel_rfl)
noncomputable def G_lvalid (x0 : Int × List (Int × Fm)) : Option (Bool) := (
 Option.bind (α := Step (((Int × (List (Int × Fm)) × Unit) × Unit) × (Unit)) (Bool))
 (loopM (L := ((Int × (List (Int × Fm)) × Unit) × (List (Int × Fm)) × Int × Int × Unit) × (Unit)) (R := Step (((Int × (List (Int × Fm)) × Unit) × Unit) × (Unit)) (Bool)) (fun d1 => (
 let v6_2 := d1.1.2.1
 let v7_3 := d1.1.2.2.1
 let v8_4 := d1.1.2.2.2.1
 cond (decide (v8_4 < v7_3)) (cond (ixOK v8_4 v6_2.length) (Option.bind (α := Bool) (cond (!(decide ((v6_2.getD v8_4.toNat ((0 : Int), (Fm.mk 0 0 [] []))).1 = 0))) (G_within ((v6_2.getD v8_4.toNat ((0 : Int), (Fm.mk 0 0 [] []))).1)) (some false)) fun r5 => (
 Option.bind (α := Bool) (cond (!(cond (decide ((v6_2.getD v8_4.toNat ((0 : Int), (Fm.mk 0 0 [] []))).1 = 0)) true (!r5))) (G_rvalid (Fm.eta ((v6_2.getD v8_4.toNat ((0 : Int), (Fm.mk 0 0 [] []))).2))) (some false)) fun r6 => (
 cond ((ixOK (IntKind.wrap .i64 (v8_4 - 1)) d1.1.1.2.1.length) || !((!(cond (cond (decide ((v6_2.getD v8_4.toNat ((0 : Int), (Fm.mk 0 0 [] []))).1 = 0)) true (!r5)) true (!r6))) && decide (v8_4 > 0))) (Option.bind (α := Int) (cond ((!(cond (cond (decide ((v6_2.getD v8_4.toNat ((0 : Int), (Fm.mk 0 0 [] []))).1 = 0)) true (!r5)) true (!r6))) && decide (v8_4 > 0)) (L_compare (Fm.eta ((d1.1.1.2.1.getD (IntKind.wrap .i64 (v8_4 - 1)).toNat ((0 : Int), (Fm.mk 0 0 [] []))).2)) (Fm.eta ((v6_2.getD v8_4.toNat ((0 : Int), (Fm.mk 0 0 [] []))).2))) (some (0 : Int))) fun r7 => (
 cond (cond (cond (cond (decide ((v6_2.getD v8_4.toNat ((0 : Int), (Fm.mk 0 0 [] []))).1 = 0)) true (!r5)) true (!r6)) true (cond (decide (v8_4 > 0)) (decide (r7 ≥ 0)) false)) (some (Step.done (Step.done false))) (some (Step.next (((d1.1.1.1, d1.1.1.2.1, ()), v6_2, v7_3, IntKind.wrap .i64 (v8_4 + 1), ()), ()))))) none))) none) (some (Step.done (Step.next (((d1.1.1.1, d1.1.1.2.1, ()), ()), ())))))) (((x0.1, x0.2, ()), x0.2, (x0.2.length : Int), 0, ()), ())) fun qd8 => match qd8 with
 | .next d8 => (
 Option.bind (α := Bool) (G_within d8.1.1.1) fun r9 => (
 some r9))
 | .done r => some r)
def A_lvalid : An := .seq (.leaf) (.join true { env := [(1, (.rptr [(.d (.int .i64)), (.d (.slice (.pr (.int .i64) .form)))]))], objs := [] } (.seq (.leaf) (.block (.loop { env := [(1, (.rptr [(.d (.int .i64)), (.d (.slice (.pr (.int .i64) .form)))])), (6, (.d (.slice (.pr (.int .i64) .form)))), (7, (.d (.int .i64))), (8, (.d (.int .i64)))], objs := [] } (.leaf)))) (.leaf))
def H_lvalid : Nat → RH := fun r => match r with
 | 4 => { H := { pl := [33, 38] } }
 | _ => {}
noncomputable def S_lvalid : Sig := .n [(.d (.pr (.int .i64) (.slice (.pr (.int .i64) .form))))] (.d .bool) (fun x => G_lvalid x.1)
theorem S_lvalid_ok : SigOK CX 92 S_lvalid := sigN_of (l := [(101, S_within), (34, S_rvalid), (84, S_compare_l)]) ⟨S_within_ok, S_rvalid_ok, S_compare_l_ok, trivial⟩ (hint := H_lvalid) (an := A_lvalid) (fun x => by kernel_rfl)
noncomputable def G_valid34 (x0 : Int × List (Int × Fm)) : Option (Bool) := (
 Option.bind (α := Bool) (G_small34 x0.1) fun r1 => (
 cond (!r1) (some false) (Option.bind (α := Step ((Unit) × (Unit)) (Bool))
 (loopM (L := ((Int × (List (Int × Fm)) × Unit) × Int × Unit) × (Unit)) (R := Step ((Unit) × (Unit)) (Bool)) (fun d2 => (
 let v3_3 := d2.1.2.1
 cond (decide (v3_3 < (d2.1.1.2.1.length : Int))) (cond (ixOK v3_3 d2.1.1.2.1.length) (Option.bind (α := Bool) (cond (!(decide ((d2.1.1.2.1.getD v3_3.toNat ((0 : Int), (Fm.mk 0 0 [] []))).1 = 0))) (G_small34 ((d2.1.1.2.1.getD v3_3.toNat ((0 : Int), (Fm.mk 0 0 [] []))).1)) (some false)) fun r4 => (
 Option.bind (α := Bool) (cond (!(cond (decide ((d2.1.1.2.1.getD v3_3.toNat ((0 : Int), (Fm.mk 0 0 [] []))).1 = 0)) true (!r4))) (G_refValid (Fm.eta ((d2.1.1.2.1.getD v3_3.toNat ((0 : Int), (Fm.mk 0 0 [] []))).2))) (some false)) fun r5 => (
 cond ((ixOK (IntKind.wrap .i64 (v3_3 - 1)) d2.1.1.2.1.length) || !((!(cond (cond (decide ((d2.1.1.2.1.getD v3_3.toNat ((0 : Int), (Fm.mk 0 0 [] []))).1 = 0)) true (!r4)) true (!r5))) && decide (v3_3 > 0))) (Option.bind (α := Int) (cond ((!(cond (cond (decide ((d2.1.1.2.1.getD v3_3.toNat ((0 : Int), (Fm.mk 0 0 [] []))).1 = 0)) true (!r4)) true (!r5))) && decide (v3_3 > 0)) (L_refCompare (Fm.eta ((d2.1.1.2.1.getD (IntKind.wrap .i64 (v3_3 - 1)).toNat ((0 : Int), (Fm.mk 0 0 [] []))).2)) (Fm.eta ((d2.1.1.2.1.getD v3_3.toNat ((0 : Int), (Fm.mk 0 0 [] []))).2))) (some (0 : Int))) fun r6 => (
 cond (cond (cond (cond (decide ((d2.1.1.2.1.getD v3_3.toNat ((0 : Int), (Fm.mk 0 0 [] []))).1 = 0)) true (!r4)) true (!r5)) true (cond (decide (v3_3 > 0)) (decide (r6 ≥ 0)) false)) (some (Step.done (Step.done false))) (some (Step.next (((d2.1.1.1, d2.1.1.2.1, ()), IntKind.wrap .i64 (v3_3 + 1), ()), ()))))) none))) none) (some (Step.done (Step.next ((), ())))))) (((x0.1, x0.2, ()), 0, ()), ())) fun qd7 => match qd7 with
 | .next d7 => (
 some true)
 | .done r => some r)))
def A_valid34 : An := .seq (.leaf) (.seq (.leaf) (.join true { env := [], objs := [] } (.seq (.leaf) (.block (.loop { env := [(1, (.rptr [(.d (.int .i64)), (.d (.slice (.pr (.int .i64) .form)))])), (3, (.d (.int .i64)))], objs := [] } (.leaf)))) (.leaf)))
def H_valid34 : Nat → RH := fun r => match r with
 | 7 => { H := { pl := [41, 46] } }
 | _ => {}
noncomputable def S_valid34 : Sig := .n [(.d (.pr (.int .i64) (.slice (.pr (.int .i64) .form))))] (.d .bool) (fun x => G_valid34 x.1)
theorem S_valid34_ok : SigOK CX 65 S_valid34 := sigN_of (l := [(72, S_small34), (35, S_refValid), (64, S_refCompare_l)]) ⟨S_small34_ok, S_refValid_ok, S_refCompare_l_ok, trivial⟩ (hint := H_valid34) (an := A_valid34) (fun x => by kernel_rfl)
noncomputable def G_refList (x0 : List Fm) : Option (Fm) := (
 some (Fm.mk 3 0 ([]) x0))
def A_refList : An := .leaf
def H_refList : Nat → RH := fun _ => {}
noncomputable def S_refList : Sig := .n [(.d (.slice .form))] (.d .form) (fun x => G_refList x.1)
theorem S_refList_ok : SigOK CX 53 S_refList := sigN_of (l := []) trivial (hint := H_refList) (an := A_refList) (fun x => by kernel_rfl)
end Go.Ab
