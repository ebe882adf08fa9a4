/-
  FORMS: the order is a sign; equal forms.
-/
import Derived.Test.YtdagildojaagiaaGreatDoorZ13
import Derived.Laws.Bits64b
import Derived.Test.YtdagildojaagiaaGreatDoorZ14
import Derived.Test.YtdagildojaagiaaGreatDoorZ12
set_option linter.unusedVariables false
set_option linter.unusedSimpArgs false
set_option maxRecDepth 100000
namespace Go.Ab
open Go Go.RowKit Go.Proofs
def badR (c : Int) : Bool := !decide (c = 10) && (decide (c < 32) || decide (126 < c))
theorem badR_call (c : Int) : PCall CX 154 [.int .i32 c] (· = .ret (.bool (badR c))) := by
 refine pcall_mk 0 13 [.tmp 2] Tryz.func154 rfl (by decide) rfl rfl rfl ?_
 refine aw_sreg {} rfl rfl fun K KP hK hP => ?_
 simp only [go_sem, ↓reduceIte]
 apply hK; clear hK hP
 by_cases c1_0 : c = 10
 ·
  refine aw_sreg {} rfl rfl fun K KP hK hP => ?_
  simp only [go_sem, ↓reduceIte, c1_0]
  apply hK; clear hK hP
  refine aw_ret ?_
  simp only [go_sem, ↓reduceIte, c1_0, athen_ret] <;> (
   simp [badR])
 ·
  by_cases c1_1 : c < 32
  ·
   refine aw_sreg {} rfl rfl fun K KP hK hP => ?_
   simp only [go_sem, ↓reduceIte, c1_0, c1_1]
   apply hK; clear hK hP
   refine aw_ret ?_
   simp only [go_sem, ↓reduceIte, c1_0, c1_1, athen_ret] <;> (
    simp [badR, c1_0, c1_1])
  ·
   refine aw_sreg {} rfl rfl fun K KP hK hP => ?_
   simp only [go_sem, ↓reduceIte, c1_0, c1_1]
   apply hK; clear hK hP
   refine aw_ret ?_
   simp only [go_sem, ↓reduceIte, c1_0, c1_1, athen_ret] <;> (
    simp [badR, c1_0, c1_1])
def idxR (p : Int → Bool) (s : List UInt8) : Nat → Nat → Int
 | 0, _ => -1
 | f + 1, pos => if pos < s.length then (if p (Utf8.decode ⟨s.toArray⟩ pos).1 = true then pos else idxR p s f (pos + (Utf8.decode ⟨s.toArray⟩ pos).2)) else -1
theorem decode_wide (b : ByteArray) (i : Nat) : 1 ≤ (Utf8.decode b i).2 := by
 unfold Utf8.decode
 simp only
 repeat' split
 all_goals simp
theorem indexFunc_call (p : Int → Bool) (g : FuncId) (hg : ∀ c, PCall CX g [.int .i32 c] (· = .ret (.bool (p c)))) (s : List UInt8) : PCall CX 206 [.str s, .fn (.func g) [] [], .bool true] (· = .ret (.int .i64 (idxR p s (s.length + 1) 0))) := by
 refine pcall_mk 0 21 [.tmp 6] Tryz.func206 rfl (by decide) rfl rfl rfl ?_
 refine aw_sreg {} rfl rfl fun K KP hK hP => ?_
 simp only [go_sem, ↓reduceIte]
 apply hK; clear hK hP
 refine aw_seq ?_
 refine aw_sreg {} rfl rfl fun K KP hK hP => ?_
 simp only [go_sem, ↓reduceIte]
 apply hK; clear hK hP
 refine aw_block ?_
 refine aw_loop' (fun dd st => ∃ (pos f : Nat), (s.length < pos + f) ∧ (idxR p s f pos = idxR p s (s.length + 1) 0) ∧ f = dd ∧ [(0, .siter s pos)] = st.σ ∧ st.env 0 = .str s ∧ st.env 1 = .fn (.func g) [] [] ∧ st.env 2 = .bool true ∧ st.env 10 = .ref 0 0 0) (fun dd st hJ => ?_) ?_
 ·
  obtain ⟨env0, σ0, nx0⟩ := st
  obtain ⟨pos, f, hp0_0, hp0_1, hd0, hs0, e0_0, e0_1, e0_2, e0_10⟩ := hJ
  dsimp only at hs0  e0_0 e0_1 e0_2 e0_10
  subst hd0; subst hs0
  refine aw_forget' 1 rfl ?_
  by_cases c2 : pos < s.length
  ·
   refine aw_sreg {} rfl rfl fun K KP hK hP => ?_
   simp only [go_sem, ↓reduceIte, e0_0, e0_1, e0_2, e0_10, c2]
   apply hK; clear hK hP
   refine aw_seq ?_
   refine aw_if (True) (by simp only [go_sem, ↓reduceIte, e0_0, e0_1, e0_2, e0_10, c2]) (fun h2 => ?_) (fun h2 => ?_)
   ·
    refine aw_skip ?_
    refine athen_normal.2 ?_
    refine aw_block ?_
    refine aw_sreg {} rfl rfl fun K KP hK hP => ?_
    simp only [go_sem, ↓reduceIte, e0_0, e0_1, e0_2, e0_10, c2]
    apply hK; clear hK hP
    refine aw_sreg {} rfl rfl fun K KP hK hP => ?_
    simp only [go_sem, ↓reduceIte, e0_0, e0_1, e0_2, e0_10, c2]
    refine CallP.ret (hg _) (by simp only [go_sem]) ?_
    try simp only [go_sem, ↓reduceIte, e0_0, e0_1, e0_2, e0_10, c2]
    apply hK; clear hK hP
    refine aw_if (p (Utf8.decode ⟨s.toArray⟩ pos).1 = true) (by simp only [go_sem, ↓reduceIte, e0_0, e0_1, e0_2, e0_10, c2]) (fun h4 => ?_) (fun h4 => ?_)
    ·
     refine aw_sreg {} rfl rfl fun K KP hK hP => ?_
     simp only [go_sem, ↓reduceIte, e0_0, e0_1, e0_2, e0_10, c2]
     apply hK; clear hK hP
     refine aw_ret ?_
     refine ablock_ret.2 ?_
     refine afor_one ?_
     refine athen_ret.2 ?_
     refine ablock_ret.2 ?_
     refine athen_ret.2 ?_
     simp only [go_sem, ↓reduceIte, e0_0, e0_1, e0_2, e0_10, c2, athen_ret] <;> (
      rw [← hp0_1]
      cases f with
      | zero => omega
      | succ f => simp only [idxR, c2, if_true, h4])
    ·
     refine aw_skip ?_
     refine ablock_normal.2 ?_
     refine afor_one ?_
     refine athen_normal.2 ?_
     refine ⟨_, ?_, (pos + (Utf8.decode ⟨s.toArray⟩ pos).2), (f - 1), ?_, ?_, rfl, rfl, ?_, ?_, ?_, ?_⟩
     ·have := decode_wide ⟨s.toArray⟩ pos
      omega
     ·have := decode_wide ⟨s.toArray⟩ pos
      omega
     ·rw [← hp0_1]
      cases f with
      | zero => omega
      | succ f => simp only [idxR, c2, if_true, h4, Nat.add_sub_cancel, if_false]; rfl
     ·simp only [go_sem, ↓reduceIte, e0_0, e0_1, e0_2, e0_10, c2] <;> try rfl
     ·simp only [go_sem, ↓reduceIte, e0_0, e0_1, e0_2, e0_10, c2] <;> try rfl
     ·simp only [go_sem, ↓reduceIte, e0_0, e0_1, e0_2, e0_10, c2] <;> try rfl
     ·simp only [go_sem, ↓reduceIte, e0_0, e0_1, e0_2, e0_10, c2] <;> try rfl
   ·
    exact absurd trivial h2
  ·
   refine aw_sreg {} rfl rfl fun K KP hK hP => ?_
   simp only [go_sem, ↓reduceIte, e0_0, e0_1, e0_2, e0_10, c2]
   apply hK; clear hK hP
   refine aw_seq ?_
   refine aw_if (False) (by simp only [go_sem, ↓reduceIte, e0_0, e0_1, e0_2, e0_10, c2]) (fun h2 => ?_) (fun h2 => ?_)
   ·
    exact h2.elim
   ·
    refine aw_exit ?_
    refine athen_exit.2 ?_
    refine afor_one ?_
    refine athen_exit.2 ?_
    refine ablock_here ?_
    refine athen_normal.2 ?_
    refine aw_sreg {} rfl rfl fun K KP hK hP => ?_
    simp only [go_sem, ↓reduceIte, e0_0, e0_1, e0_2, e0_10, c2]
    apply hK; clear hK hP
    refine aw_ret ?_
    simp only [go_sem, ↓reduceIte, e0_0, e0_1, e0_2, e0_10, c2, athen_ret] <;> (
     rw [← hp0_1]
     cases f with
     | zero => rfl
     | succ f => simp only [idxR, c2, if_false])
 ·
  refine ⟨_, 0, s.length + 1, ?_, ?_, rfl, ?_, ?_, ?_, ?_, ?_⟩
  ·first | omega | trivial | assumption
  ·first | omega | trivial | assumption
  ·first | rfl | (simp only [go_sem, ↓reduceIte])
  ·simp only [go_sem, ↓reduceIte] <;> try rfl
  ·simp only [go_sem, ↓reduceIte] <;> try rfl
  ·simp only [go_sem, ↓reduceIte] <;> try rfl
  ·simp only [go_sem, ↓reduceIte] <;> try rfl
theorem indexFunc2_call (p : Int → Bool) (g : FuncId) (hg : ∀ c, PCall CX g [.int .i32 c] (· = .ret (.bool (p c)))) (s : List UInt8) : PCall CX 174 [.str s, .fn (.func g) [] []] (· = .ret (.int .i64 (idxR p s (s.length + 1) 0))) := by
 refine pcall_mk 0 8 [.tmp 4] Tryz.func174 rfl (by decide) rfl rfl rfl ?_
 refine aw_sreg {} rfl rfl fun K KP hK hP => ?_
 simp only [go_sem, ↓reduceIte]
 apply hK; clear hK hP
 refine aw_sreg {} rfl rfl fun K KP hK hP => ?_
 simp only [go_sem, ↓reduceIte]
 refine CallP.ret (indexFunc_call p g hg s) (by simp only [go_sem]) ?_
 try simp only [go_sem, ↓reduceIte]
 apply hK; clear hK hP
 refine aw_ret ?_
 simp only [go_sem, ↓reduceIte, athen_ret]
theorem containsFunc_call (p : Int → Bool) (g : FuncId) (hg : ∀ c, PCall CX g [.int .i32 c] (· = .ret (.bool (p c)))) (s : List UInt8) : PCall CX 155 [.str s, .fn (.func g) [] []] (· = .ret (.bool (decide (0 ≤ idxR p s (s.length + 1) 0)))) := by
 refine pcall_mk 0 9 [.tmp 4] Tryz.func155 rfl (by decide) rfl rfl rfl ?_
 refine aw_sreg {} rfl rfl fun K KP hK hP => ?_
 simp only [go_sem, ↓reduceIte]
 apply hK; clear hK hP
 refine aw_sreg {} rfl rfl fun K KP hK hP => ?_
 simp only [go_sem, ↓reduceIte]
 refine CallP.ret (indexFunc2_call p g hg s) (by simp only [go_sem]) ?_
 try simp only [go_sem, ↓reduceIte]
 apply hK; clear hK hP
 refine aw_ret ?_
 simp only [go_sem, ↓reduceIte, athen_ret]
def badT (t : List UInt8) : Bool := decide (0 ≤ idxR badR t (t.length + 1) 0)
noncomputable def S_containsBad : Sig := .n [.d .str, .c (.fn (.func 154) [] [])] (.d .bool) (fun x => some (badT x.1))
theorem S_containsBad_ok : SigOK CX 155 S_containsBad := fun x r h => by cases h; exact containsFunc_call badR _ badR_call x.1
end Go.Ab

set_option maxRecDepth 100000
namespace Go.Ab
open Go Go.RowKit Go.Proofs
def within (n : Int) : Bool := decide (-1152921504606846976 ≤ n) && decide (n ≤ 1152921504606846976)
end Go.Ab

set_option maxRecDepth 100000
namespace Go.Ab
open Go Go.RowKit Go.Proofs
noncomputable def G_refSize (k : Nat) (x0 : Fm) : Option (Int) := match k with
| 0 => none
| k + 1 => (
 Option.bind (α := (Int × Unit) × (Unit))
 (loopM (L := ((Int × Int × (List UInt8) × (List Fm) × Unit) × Int × Int × Unit) × (Unit)) (R := (Int × Unit) × (Unit)) (fun d1 => (
 let v3_2 := d1.1.2.1
 let v4_3 := d1.1.2.2.1
 cond (cond (decide (d1.1.1.1 = 3)) (decide (v4_3 < (d1.1.1.2.2.2.1.length : Int))) false) (cond (ixOK v4_3 d1.1.1.2.2.2.1.length) (Option.bind (α := Int) (G_refSize k (Fm.eta (d1.1.1.2.2.2.1.getD v4_3.toNat (Fm.mk 0 0 [] [])))) fun r4 => (
 some (Step.next (((d1.1.1.1, d1.1.1.2.1, d1.1.1.2.2.1, d1.1.1.2.2.2.1, ()), IntKind.wrap .i64 (v3_2 + r4), IntKind.wrap .i64 (v4_3 + 1), ()), ())))) none) (some (Step.done ((v3_2, ()), ()))))) (((x0.k, x0.n, x0.t, x0.l, ()), 1, 0, ()), ())) fun d5 => (
 let v3_6 := d5.1.1
 some v3_6))
def A_refSize : An := .seq (.leaf) (.seq (.leaf) (.join false { env := [(3, (.d (.int .i64)))], objs := [] } (.seq (.leaf) (.block (.loop { env := [(1, (.rptr [(.d (.int .i64)), (.d (.int .i64)), (.d .str), (.d (.slice .form))])), (3, (.d (.int .i64))), (4, (.d (.int .i64)))], objs := [] } (.leaf)))) (.leaf)))
def H_refSize : Nat → RH := fun _ => {}
noncomputable def S_refSize (k : Nat) : Sig := .n [(.d .form)] (.d (.int .i64)) (fun x => G_refSize k x.1)
theorem S_refSize_rec : ∀ k, SigOK CX 10 (S_refSize k)
| 0 => fun x r h => by cases h
| k + 1 => by
 have ih := S_refSize_rec k
 exact sigN_of (l := [(10, (S_refSize k))]) ⟨ih, trivial⟩ (hint := H_refSize) (an := A_refSize) (fun x => by kernel_rfl)
theorem S_refSize_ok : ∀ k, SigOK CX 10 (S_refSize k) := fun k => S_refSize_rec k
noncomputable def L_refSize (x0 : Fm) : Option (Int) := limF fun k => G_refSize k x0
noncomputable def S_refSize_l : Sig := .n [(.d .form)] (.d (.int .i64)) (fun x => L_refSize x.1)
theorem S_refSize_l_ok : SigOK CX 10 S_refSize_l := SigOK.limN S_refSize_ok fun x r h => limF_ex h
noncomputable def G_leaf (x0 : Fm) : Option (Bool) := (
 Option.bind (α := Step ((Unit) × (Unit)) (Bool))
 (cond (decide (x0.k = 0)) (some (Step.done (cond (cond (cond (decide (x0.t = [])) (decide ((x0.l.length : Int) = 0)) false) (decide (x0.n ≥ (-1152921504606846976))) false) (decide (x0.n ≤ 1152921504606846976)) false))) (cond (decide (x0.k = 1)) (Option.bind (α := Bool) (cond (cond (!decide (x0.t = [])) (decide ((x0.t.length : Int) ≤ 30)) false) (numericF (x0.t)) (some false)) fun r1 => (
 Option.bind (α := ((Int × Int × (List UInt8) × (List Fm) × Unit) × Bool × Unit) × (Unit))
 (loopM (L := ((Int × Int × (List UInt8) × (List Fm) × Unit) × Bool × Int × Unit) × (Unit)) (R := ((Int × Int × (List UInt8) × (List Fm) × Unit) × Bool × Unit) × (Unit)) (fun d2 => (
 let v3_3 := d2.1.2.1
 let v4_4 := d2.1.2.2.1
 cond (cond (decide (v4_4 < (d2.1.1.2.2.1.length : Int))) v3_3 false) (cond (ixOK v4_4 d2.1.1.2.2.1.length) (Option.bind (α := Bool) (outsideF (byteAt d2.1.1.2.2.1 v4_4)) fun r5 => (
 some (Step.next (((d2.1.1.1, d2.1.1.2.1, d2.1.1.2.2.1, d2.1.1.2.2.2.1, ()), !r5, IntKind.wrap .i64 (v4_4 + 1), ()), ())))) none) (some (Step.done (((d2.1.1.1, d2.1.1.2.1, d2.1.1.2.2.1, d2.1.1.2.2.2.1, ()), v3_3, ()), ()))))) (((x0.k, x0.n, x0.t, x0.l, ()), cond (cond (!decide (x0.t = [])) (decide ((x0.t.length : Int) ≤ 30)) false) (!r1) false, 0, ()), ())) fun d6 => (
 let v3_7 := d6.1.2.1
 some (Step.done (cond (cond v3_7 (decide (d6.1.1.2.1 = 0)) false) (decide ((d6.1.1.2.2.2.1.length : Int) = 0)) false))))) (cond (decide (x0.k = 2)) (Option.bind (α := Bool) (cond (decide ((x0.t.length : Int) ≤ 2000)) (some (badT (x0.t))) (some false)) fun r8 => (
 some (Step.done (cond (cond (cond (decide ((x0.t.length : Int) ≤ 2000)) (!r8) false) (decide (x0.n = 0)) false) (decide ((x0.l.length : Int) = 0)) false)))) (cond (decide (x0.k = 3)) (some (Step.done (cond (decide (x0.t = [])) (decide (x0.n = 0)) false))) (some (Step.next ((), ()))))))) fun qd9 => match qd9 with
 | .next d9 => (
 some false)
 | .done r => some r)
def A_leaf : An := .seq (.leaf) (.join true { env := [], objs := [] } (.seq (.leaf) (.block (.seq (.leaf) (.cond (.leaf) (.seq (.leaf) (.cond (.seq (.leaf) (.join false { env := [(1, (.rptr [(.d (.int .i64)), (.d (.int .i64)), (.d .str), (.d (.slice .form))])), (3, (.d .bool))], objs := [] } (.seq (.leaf) (.block (.loop { env := [(1, (.rptr [(.d (.int .i64)), (.d (.int .i64)), (.d .str), (.d (.slice .form))])), (3, (.d .bool)), (4, (.d (.int .i64)))], objs := [] } (.leaf)))) (.leaf))) (.leaf))))))) (.leaf))
def H_leaf : Nat → RH := fun _ => {}
noncomputable def S_leaf : Sig := .n [(.d .form)] (.d .bool) (fun x => G_leaf x.1)
theorem S_leaf_ok : SigOK CX 123 S_leaf := sigN_of (l := [(140, S_numeric), (139, S_outside), (155, S_containsBad)]) ⟨S_numeric_ok, S_outside_ok, S_containsBad_ok, trivial⟩ (hint := H_leaf) (an := A_leaf) (fun x => by kernel_rfl)
noncomputable def G_valid (k : Nat) (x0 : Fm) (x2 : Int) (o0 : Int × Unit) : Option ((Bool) × ((Int × Unit) × Unit)) := match k with
| 0 => none
| k + 1 => (
 Option.bind (α := Bool) (cond (!(cond (decide (IntKind.wrap .i64 (o0.1 - 1) < 0)) true (decide (x2 = 0)))) (G_leaf (Fm.eta x0)) (some false)) fun r1 => (
 cond (cond (cond (decide (IntKind.wrap .i64 (o0.1 - 1) < 0)) true (decide (x2 = 0))) true (!r1)) (some (false, ((IntKind.wrap .i64 (o0.1 - 1), ()), ()))) (Option.bind (α := Step ((Unit) × ((Int × Unit) × Unit)) ((Bool) × ((Int × Unit) × Unit)))
 (loopM (L := (Unit × Int × (List Fm) × Int × Int × Unit) × ((Int × Unit) × Unit)) (R := Step ((Unit) × ((Int × Unit) × Unit)) ((Bool) × ((Int × Unit) × Unit))) (fun d2 => (
 let c3 := d2.2.1.1
 let v2_4 := d2.1.2.1
 let v28_5 := d2.1.2.2.1
 let v29_6 := d2.1.2.2.2.1
 let v30_7 := d2.1.2.2.2.2.1
 cond (decide (v30_7 < v29_6)) (cond (ixOK v30_7 v28_5.length) (Option.bind (α := (Bool) × ((Int × Unit) × Unit)) (G_valid k (Fm.eta (v28_5.getD v30_7.toNat (Fm.mk 0 0 [] []))) (IntKind.wrap .i64 (v2_4 - 1)) (c3, ())) fun r8 => (
 cond (!r8.1) (some (Step.done (Step.done (false, ((r8.2.1.1, ()), ()))))) (some (Step.next (((), v2_4, v28_5, v29_6, IntKind.wrap .i64 (v30_7 + 1), ()), ((r8.2.1.1, ()), ())))))) none) (some (Step.done (Step.next ((), ((c3, ()), ()))))))) (((), x2, x0.l, (x0.l.length : Int), 0, ()), ((IntKind.wrap .i64 (o0.1 - 1), ()), ()))) fun qd9 => match qd9 with
 | .next d9 => (
 let c10 := d9.2.1.1
 some (true, ((c10, ()), ())))
 | .done r => some r)))
def A_valid : An := .seq (.leaf) (.seq (.leaf) (.seq (.leaf) (.join true { env := [], objs := [(true, .cells 3 [(.d (.int .i64))])] } (.seq (.leaf) (.block (.loop { env := [(1, (.ref 0 0)), (2, (.d (.int .i64))), (28, (.d (.slice .form))), (29, (.d (.int .i64))), (30, (.d (.int .i64)))], objs := [(true, .cells 3 [(.d (.int .i64))])] } (.leaf)))) (.leaf))))
def H_valid : Nat → RH := fun r => match r with
 | 7 => { H := { ac := [38] } }
 | _ => {}
noncomputable def S_valid (k : Nat) : Sig := .o { pre := [(false, .cells 3 [(.d (.int .i64))])], args := [(.d .form), (.ref 0 0), (.d (.int .i64))], post := [(true, .cells 3 [(.d (.int .i64))])], res := (.d .bool), f := fun x => G_valid k x.1.1 x.1.2.2.1 x.2.1 }
theorem S_valid_ok : ∀ k, SigOK CX 78 (S_valid k)
| 0 => ⟨by kernel_rfl, fun x r h => by cases h⟩
| k + 1 => by
 have ih := S_valid_ok k
 exact sigO_of (l := [(123, S_leaf), (78, (S_valid k))]) ⟨S_leaf_ok, ih, trivial⟩ (hint := H_valid) (an := A_valid) (by kernel_rfl) (fun x => by kernel_rfl)
noncomputable def L_valid (x0 : Fm) (x2 : Int) (o0 : Int × Unit) : Option ((Bool) × ((Int × Unit) × Unit)) := limF fun k => G_valid k x0 x2 o0
noncomputable def S_valid_l : Sig := .o { pre := [(false, .cells 3 [(.d (.int .i64))])], args := [(.d .form), (.ref 0 0), (.d (.int .i64))], post := [(true, .cells 3 [(.d (.int .i64))])], res := (.d .bool), f := fun x => L_valid x.1.1 x.1.2.2.1 x.2.1 }
theorem S_valid_l_ok : SigOK CX 78 S_valid_l := SigOK.limO S_valid_ok fun x r h => limF_ex h
noncomputable def G_rvalid (x0 : Fm) : Option (Bool) := (
 Option.bind (α := (Bool) × ((Int × Unit) × Unit)) (L_valid (Fm.eta x0) 100 (20000, ())) fun r1 => (
 some r1.1))
def A_rvalid : An := .leaf
def H_rvalid : Nat → RH := fun r => match r with
 | 2 => { H := { ac := [5] } }
 | _ => {}
noncomputable def S_rvalid : Sig := .n [(.d .form)] (.d .bool) (fun x => G_rvalid x.1)
theorem S_rvalid_ok : SigOK CX 34 S_rvalid := sigN_of (l := [(78, S_valid_l)]) ⟨S_valid_l_ok, trivial⟩ (hint := H_rvalid) (an := A_rvalid) (fun x => by kernel_rfl)
noncomputable def G_visible (x0 : Int) : Option (Bool) := (
 some (cond (cond (cond (cond (cond (decide (x0 ≥ 33)) (decide (x0 ≤ 126)) false) (!decide (x0 = 40)) false) (!decide (x0 = 41)) false) (!decide (x0 = 34)) false) (!decide (x0 = 59)) false))
def A_visible : An := .leaf
def H_visible : Nat → RH := fun _ => {}
noncomputable def S_visible : Sig := .n [(.d (.int .u8))] (.d .bool) (fun x => G_visible x.1)
theorem S_visible_ok : SigOK CX 109 S_visible := sigN_of (l := []) trivial (hint := H_visible) (an := A_visible) (fun x => by kernel_rfl)
noncomputable def G_digits (x0 : List UInt8) : Option (Bool) := (
 Option.bind (α := ((List UInt8) × Unit) × (Unit))
 (cond ((ixOK 0 x0.length) || !(decide ((x0.length : Int) > 1))) (cond (cond (decide ((x0.length : Int) > 1)) (decide (byteAt x0 0 = 45)) false) (cond (slOK 1 (x0.length : Int) x0.length) (some (((x0.drop (1 : Int).toNat).take ((x0.length : Int).toNat - (1 : Int).toNat), ()), ())) none) (some ((x0, ()), ()))) none) fun d1 => (
 let v0_2 := d1.1.1
 Option.bind (α := Step (((List UInt8) × Unit) × (Unit)) (Bool))
 (loopM (L := ((List UInt8) × Int × Unit) × (Unit)) (R := Step (((List UInt8) × Unit) × (Unit)) (Bool)) (fun d3 => (
 let v0_4 := d3.1.1
 let v3_5 := d3.1.2.1
 cond (decide (v3_5 < (v0_4.length : Int))) (cond (ixOK v3_5 v0_4.length) (cond ((ixOK v3_5 v0_4.length) || !(!(decide (byteAt v0_4 v3_5 < 48)))) (cond (cond (decide (byteAt v0_4 v3_5 < 48)) true (decide (byteAt v0_4 v3_5 > 57))) (some (Step.done (Step.done false))) (some (Step.next ((v0_4, IntKind.wrap .i64 (v3_5 + 1), ()), ())))) none) none) (some (Step.done (Step.next ((v0_4, ()), ())))))) ((v0_2, 0, ()), ())) fun qd6 => match qd6 with
 | .next d6 => (
 let v0_7 := d6.1.1
 some (!decide (v0_7 = [])))
 | .done r => some r))
def A_digits : An := .seq (.leaf) (.join false { env := [(0, (.d .str))], objs := [] } (.leaf) (.join true { env := [(0, (.d .str))], objs := [] } (.seq (.leaf) (.block (.loop { env := [(0, (.d .str)), (3, (.d (.int .i64)))], objs := [] } (.leaf)))) (.leaf)))
def H_digits : Nat → RH := fun _ => {}
noncomputable def S_digits : Sig := .n [(.d .str)] (.d .bool) (fun x => G_digits x.1)
theorem S_digits_ok : SigOK CX 142 S_digits := sigN_of (l := []) trivial (hint := H_digits) (an := A_digits) (fun x => by kernel_rfl)
noncomputable def G_isWord (x0 : List UInt8) : Option (Bool) := (
 Option.bind (α := Step (((List UInt8) × Unit) × (Unit)) (Bool))
 (loopM (L := ((List UInt8) × Int × Unit) × (Unit)) (R := Step (((List UInt8) × Unit) × (Unit)) (Bool)) (fun d1 => (
 let v0_2 := d1.1.1
 let v3_3 := d1.1.2.1
 cond (decide (v3_3 < (v0_2.length : Int))) (cond (ixOK v3_3 v0_2.length) (Option.bind (α := Bool) (G_visible (byteAt v0_2 v3_3)) fun r4 => (
 cond (!r4) (some (Step.done (Step.done false))) (some (Step.next ((v0_2, IntKind.wrap .i64 (v3_3 + 1), ()), ()))))) none) (some (Step.done (Step.next ((v0_2, ()), ())))))) ((x0, 0, ()), ())) fun qd5 => match qd5 with
 | .next d5 => (
 let v0_6 := d5.1.1
 Option.bind (α := Bool) (cond (cond (decide ((v0_6.length : Int) ≥ 1)) (decide ((v0_6.length : Int) ≤ 30)) false) (G_digits v0_6) (some false)) fun r7 => (
 some (cond (cond (decide ((v0_6.length : Int) ≥ 1)) (decide ((v0_6.length : Int) ≤ 30)) false) (!r7) false)))
 | .done r => some r)
def A_isWord : An := .seq (.leaf) (.join true { env := [(0, (.d .str))], objs := [] } (.seq (.leaf) (.block (.loop { env := [(0, (.d .str)), (3, (.d (.int .i64)))], objs := [] } (.leaf)))) (.leaf))
def H_isWord : Nat → RH := fun _ => {}
noncomputable def S_isWord : Sig := .n [(.d .str)] (.d .bool) (fun x => G_isWord x.1)
theorem S_isWord_ok : SigOK CX 124 S_isWord := sigN_of (l := [(109, S_visible), (142, S_digits)]) ⟨S_visible_ok, S_digits_ok, trivial⟩ (hint := H_isWord) (an := A_isWord) (fun x => by kernel_rfl)
noncomputable def G_isText (x0 : List UInt8) : Option (Bool) := (
 Option.bind (α := Step (((List UInt8) × Unit) × (Unit)) (Bool))
 (loopM (L := ((List UInt8) × Int × Unit) × (Unit)) (R := Step (((List UInt8) × Unit) × (Unit)) (Bool)) (fun d1 => (
 let v0_2 := d1.1.1
 let v3_3 := d1.1.2.1
 cond (decide (v3_3 < (v0_2.length : Int))) (cond (ixOK v3_3 v0_2.length) (cond ((ixOK v3_3 v0_2.length) || !(!decide (byteAt v0_2 v3_3 = 10))) (cond ((ixOK v3_3 v0_2.length) || !((!decide (byteAt v0_2 v3_3 = 10)) && !(decide (byteAt v0_2 v3_3 < 32)))) (cond (cond (!decide (byteAt v0_2 v3_3 = 10)) (cond (decide (byteAt v0_2 v3_3 < 32)) true (decide (byteAt v0_2 v3_3 > 126))) false) (some (Step.done (Step.done false))) (some (Step.next ((v0_2, IntKind.wrap .i64 (v3_3 + 1), ()), ())))) none) none) none) (some (Step.done (Step.next ((v0_2, ()), ())))))) ((x0, 0, ()), ())) fun qd4 => match qd4 with
 | .next d4 => (
 let v0_5 := d4.1.1
 some (decide ((v0_5.length : Int) ≤ 2000)))
 | .done r => some r)
def A_isText : An := .seq (.leaf) (.join true { env := [(0, (.d .str))], objs := [] } (.seq (.leaf) (.block (.loop { env := [(0, (.d .str)), (3, (.d (.int .i64)))], objs := [] } (.leaf)))) (.leaf))
def H_isText : Nat → RH := fun _ => {}
noncomputable def S_isText : Sig := .n [(.d .str)] (.d .bool) (fun x => G_isText x.1)
theorem S_isText_ok : SigOK CX 125 S_isText := sigN_of (l := []) trivial (hint := H_isText) (an := A_isText) (fun x => by kernel_rfl)
noncomputable def G_fields (k : Nat) (x0 : Fm) : Option (Bool) := match k with
| 0 => none
| k + 1 => (
 cond (cond (cond (cond (!decide (x0.k = 0)) (!decide (x0.n = 0)) false) true (cond (!decide (x0.k = 3)) (decide ((x0.l.length : Int) > 0)) false)) true (cond (cond (!decide (x0.k = 1)) (!decide (x0.k = 2)) false) (!decide (x0.t = [])) false)) (some false) (Option.bind (α := Step ((Unit) × (Unit)) (Bool))
 (cond (decide (x0.k = 0)) (some (Step.done (cond (decide (x0.n ≥ (-1152921504606846976))) (decide (x0.n ≤ 1152921504606846976)) false))) (cond (decide (x0.k = 1)) (Option.bind (α := Bool) (G_isWord x0.t) fun r1 => (
 some (Step.done r1))) (cond (decide (x0.k = 2)) (Option.bind (α := Bool) (G_isText x0.t) fun r2 => (
 some (Step.done r2))) (cond (decide (x0.k = 3)) (Option.bind (α := Step ((Unit) × (Unit)) (Step ((Unit) × (Unit)) (Bool)))
 (loopM (L := ((Int × Int × (List UInt8) × (List Fm) × Unit) × Int × Unit) × (Unit)) (R := Step ((Unit) × (Unit)) (Step ((Unit) × (Unit)) (Bool))) (fun d3 => (
 let v3_4 := d3.1.2.1
 cond (decide (v3_4 < (d3.1.1.2.2.2.1.length : Int))) (cond (ixOK v3_4 d3.1.1.2.2.2.1.length) (Option.bind (α := Bool) (G_fields k (Fm.eta (d3.1.1.2.2.2.1.getD v3_4.toNat (Fm.mk 0 0 [] [])))) fun r5 => (
 cond (!r5) (some (Step.done (Step.done (Step.done false)))) (some (Step.next (((d3.1.1.1, d3.1.1.2.1, d3.1.1.2.2.1, d3.1.1.2.2.2.1, ()), IntKind.wrap .i64 (v3_4 + 1), ()), ()))))) none) (some (Step.done (Step.next ((), ())))))) (((x0.k, x0.n, x0.t, x0.l, ()), 0, ()), ())) fun qd6 => match qd6 with
 | .next d6 => (
 some (Step.done true))
 | .done r => some r) (some (Step.next ((), ()))))))) fun qd7 => match qd7 with
 | .next d7 => (
 some false)
 | .done r => some r))
def A_fields : An := .seq (.leaf) (.seq (.leaf) (.join true { env := [], objs := [] } (.seq (.leaf) (.block (.seq (.leaf) (.cond (.leaf) (.seq (.leaf) (.cond (.leaf) (.seq (.leaf) (.cond (.leaf) (.seq (.leaf) (.cond (.join true { env := [], objs := [] } (.seq (.leaf) (.block (.loop { env := [(1, (.rptr [(.d (.int .i64)), (.d (.int .i64)), (.d .str), (.d (.slice .form))])), (3, (.d (.int .i64)))], objs := [] } (.leaf)))) (.leaf)) (.leaf))))))))))) (.leaf)))
def H_fields : Nat → RH := fun _ => {}
noncomputable def S_fields (k : Nat) : Sig := .n [(.d .form)] (.d .bool) (fun x => G_fields k x.1)
theorem S_fields_rec : ∀ k, SigOK CX 79 (S_fields k)
| 0 => fun x r h => by cases h
| k + 1 => by
 have ih := S_fields_rec k
 exact sigN_of (l := [(124, S_isWord), (125, S_isText), (79, (S_fields k))]) ⟨S_isWord_ok, S_isText_ok, ih, trivial⟩ (hint := H_fields) (an := A_fields) (fun x => by kernel_rfl)
theorem S_fields_ok : ∀ k, SigOK CX 79 (S_fields k) := fun k => S_fields_rec k
noncomputable def L_fields (x0 : Fm) : Option (Bool) := limF fun k => G_fields k x0
noncomputable def S_fields_l : Sig := .n [(.d .form)] (.d .bool) (fun x => L_fields x.1)
theorem S_fields_l_ok : SigOK CX 79 S_fields_l := SigOK.limN S_fields_ok fun x r h => limF_ex h
noncomputable def G_refDepth (k : Nat) (x0 : Fm) : Option (Int) := match k with
| 0 => none
| k + 1 => (
 Option.bind (α := (Int × Unit) × (Unit))
 (loopM (L := ((Int × Int × (List UInt8) × (List Fm) × Unit) × Int × Int × Unit) × (Unit)) (R := (Int × Unit) × (Unit)) (fun d1 => (
 let v3_2 := d1.1.2.1
 let v4_3 := d1.1.2.2.1
 cond (cond (decide (d1.1.1.1 = 3)) (decide (v4_3 < (d1.1.1.2.2.2.1.length : Int))) false) (cond (ixOK v4_3 d1.1.1.2.2.2.1.length) (Option.bind (α := Int) (G_refDepth k (Fm.eta (d1.1.1.2.2.2.1.getD v4_3.toNat (Fm.mk 0 0 [] [])))) fun r4 => (
 some (Step.next (((d1.1.1.1, d1.1.1.2.1, d1.1.1.2.2.1, d1.1.1.2.2.2.1, ()), (if r4 > v3_2 then r4 else v3_2), IntKind.wrap .i64 (v4_3 + 1), ()), ())))) none) (some (Step.done ((v3_2, ()), ()))))) (((x0.k, x0.n, x0.t, x0.l, ()), 0, 0, ()), ())) fun d5 => (
 let v3_6 := d5.1.1
 some (IntKind.wrap .i64 (v3_6 + 1))))
def A_refDepth : An := .seq (.leaf) (.seq (.leaf) (.join false { env := [(3, (.d (.int .i64)))], objs := [] } (.seq (.leaf) (.block (.loop { env := [(1, (.rptr [(.d (.int .i64)), (.d (.int .i64)), (.d .str), (.d (.slice .form))])), (3, (.d (.int .i64))), (4, (.d (.int .i64)))], objs := [] } (.leaf)))) (.leaf)))
def H_refDepth : Nat → RH := fun _ => {}
noncomputable def S_refDepth (k : Nat) : Sig := .n [(.d .form)] (.d (.int .i64)) (fun x => G_refDepth k x.1)
theorem S_refDepth_rec : ∀ k, SigOK CX 38 (S_refDepth k)
| 0 => fun x r h => by cases h
| k + 1 => by
 have ih := S_refDepth_rec k
 exact sigN_of (l := [(38, (S_refDepth k))]) ⟨ih, trivial⟩ (hint := H_refDepth) (an := A_refDepth) (fun x => by kernel_rfl)
theorem S_refDepth_ok : ∀ k, SigOK CX 38 (S_refDepth k) := fun k => S_refDepth_rec k
noncomputable def L_refDepth (x0 : Fm) : Option (Int) := limF fun k => G_refDepth k x0
noncomputable def S_refDepth_l : Sig := .n [(.d .form)] (.d (.int .i64)) (fun x => L_refDepth x.1)
theorem S_refDepth_l_ok : SigOK CX 38 S_refDepth_l := SigOK.limN S_refDepth_ok fun x r h => limF_ex h
noncomputable def G_small1 (x0 : Fm) : Option (Bool) := (
 Option.bind (α := Int) (L_refSize (Fm.eta x0)) fun r1 => (
 Option.bind (α := Int) (cond (decide (r1 ≤ 20000)) (L_refDepth (Fm.eta x0)) (some (0 : Int))) fun r2 => (
 some (cond (decide (r1 ≤ 20000)) (decide (r2 ≤ 100)) false))))
def A_small1 : An := .leaf
def H_small1 : Nat → RH := fun _ => {}
noncomputable def S_small1 : Sig := .n [(.d .form)] (.d .bool) (fun x => G_small1 x.1)
theorem S_small1_ok : SigOK CX 63 S_small1 := sigN_of (l := [(10, S_refSize_l), (38, S_refDepth_l)]) ⟨S_refSize_l_ok, S_refDepth_l_ok, trivial⟩ (hint := H_small1) (an := A_small1) (fun x => by kernel_rfl)
noncomputable def G_refValid (x0 : Fm) : Option (Bool) := (
 Option.bind (α := Bool) (L_fields (Fm.eta x0)) fun r1 => (
 Option.bind (α := Bool) (cond r1 (G_small1 (Fm.eta x0)) (some false)) fun r2 => (
 some (cond r1 r2 false))))
def A_refValid : An := .leaf
def H_refValid : Nat → RH := fun _ => {}
noncomputable def S_refValid : Sig := .n [(.d .form)] (.d .bool) (fun x => G_refValid x.1)
theorem S_refValid_ok : SigOK CX 35 S_refValid := sigN_of (l := [(79, S_fields_l), (63, S_small1)]) ⟨S_fields_l_ok, S_small1_ok, trivial⟩ (hint := H_refValid) (an := A_refValid) (fun x => by kernel_rfl)
noncomputable def G_refHead (x0 : Fm) : Option (List UInt8) := (
 cond ((ixOK 0 x0.l.length) || !(!(cond (!decide (x0.k = 3)) true (decide ((x0.l.length : Int) = 0))))) (cond (cond (cond (!decide (x0.k = 3)) true (decide ((x0.l.length : Int) = 0))) true (!decide ((x0.l.getD (0 : Int).toNat (Fm.mk 0 0 [] [])).k = 1))) (some ([])) (cond (ixOK 0 x0.l.length) (some ((x0.l.getD (0 : Int).toNat (Fm.mk 0 0 [] [])).t)) none)) none)
def A_refHead : An := .leaf
def H_refHead : Nat → RH := fun _ => {}
noncomputable def S_refHead : Sig := .n [(.d .form)] (.d .str) (fun x => G_refHead x.1)
theorem S_refHead_ok : SigOK CX 42 S_refHead := sigN_of (l := []) trivial (hint := H_refHead) (an := A_refHead) (fun x => by kernel_rfl)
end Go.Ab

set_option maxRecDepth 100000
namespace Go.Ab
open Go Go.RowKit Go.Proofs
noncomputable def G_bldStr (x1 : List UInt8) (o0 : Bool × Unit × Unit) (o1 : List Int) : Option ((Int × Bool × Unit) × ((Bool × Unit × Unit) × (List Int) × Unit)) := (
 Option.bind (α := (Unit) × ((Bool × Unit × Unit) × (List Int) × Unit)) (some ((), ((true, (), ()), o1, ()))) fun r1 => (
 cond (decide ((r1.2.2.1.length + (x1.map fun b => (b.toNat : Int)).length) * 1 ≤ 140737488355328)) (some (((x1.length : Int), true, ()), ((r1.2.1.1, (), ()), r1.2.2.1 ++ (x1.map fun b => (b.toNat : Int)), ()))) none))
def A_bldStr : An := .leaf
def H_bldStr : Nat → RH := fun r => match r with
 | 1 => { H := { ac := [7] } }
 | 2 => { H := { ty := [(14, (.int .u8))] } }
 | _ => {}
noncomputable def S_bldStr : Sig := .o { pre := [(false, .cells 106 [(.mref 0 0), (.gs 1 (.int .u8))]), (false, .tg (.int .u8) 5)], args := [(.ref 0 0), (.d .str)], post := [(true, .cells 106 [(.mref 0 0), (.gs 1 (.int .u8))]), (false, .tg (.int .u8) 5)], res := (.tup [(.d (.int .i64)), (.d .erri)]), f := fun x => G_bldStr x.1.2.1 x.2.1 x.2.2.1 }
theorem S_bldStr_ok : SigOK CX 81 S_bldStr := sigO_of (l := [(126, S_copyCheck)]) ⟨S_copyCheck_ok, trivial⟩ (hint := H_bldStr) (an := A_bldStr) (by kernel_rfl) (fun x => by kernel_rfl)
noncomputable def G_write (k : Nat) (x1 : Fm) (o0 : Bool × Unit × Unit) (o1 : List Int) : Option ((Unit) × ((Bool × Unit × Unit) × (List Int) × Unit)) := match k with
| 0 => none
| k + 1 => (
 cond (decide (x1.k = 0)) (Option.bind (α := List UInt8) (itoaF (x1.n)) fun r1 => (
 Option.bind (α := (Int × Bool × Unit) × ((Bool × Unit × Unit) × (List Int) × Unit)) (G_bldStr r1 (o0.1, (), ()) o1) fun r2 => (
 some ((), ((r2.2.1.1, (), ()), r2.2.2.1, ()))))) (cond (decide (x1.k = 1)) (Option.bind (α := (Int × Bool × Unit) × ((Bool × Unit × Unit) × (List Int) × Unit)) (G_bldStr x1.t (o0.1, (), ()) o1) fun r3 => (
 some ((), ((r3.2.1.1, (), ()), r3.2.2.1, ())))) (cond (decide (x1.k = 2)) (Option.bind (α := (Bool) × ((Bool × Unit × Unit) × (List Int) × Unit)) (G_bldByte 34 (o0.1, (), ()) o1) fun r4 => (
 Option.bind (α := (Unit) × ((Int × Int × Int × Unit × Unit × Unit) × (List (List UInt8)) × Unit)) (G_newRep ([[92], [92, 92], [34], [92, 34], [10], [92, 110]])) fun r5 => (
 Option.bind (α := (List UInt8) × (Unit)) (replF ((r5.2.1.1, r5.2.1.2.1, r5.2.1.2.2.1, (), (), ())) (r5.2.2.1) (x1.t)) fun r6 => (
 Option.bind (α := (Int × Bool × Unit) × ((Bool × Unit × Unit) × (List Int) × Unit)) (G_bldStr r6.1 (r4.2.1.1, (), ()) r4.2.2.1) fun r7 => (
 Option.bind (α := (Bool) × ((Bool × Unit × Unit) × (List Int) × Unit)) (G_bldByte 34 (r7.2.1.1, (), ()) r7.2.2.1) fun r8 => (
 some ((), ((r8.2.1.1, (), ()), r8.2.2.1, ())))))))) (Option.bind (α := (Bool) × ((Bool × Unit × Unit) × (List Int) × Unit)) (G_bldByte 40 (o0.1, (), ()) o1) fun r9 => (
 Option.bind (α := (Unit × Unit) × ((Bool × Unit × Unit) × (List Int) × Unit))
 (loopM (L := (Unit × (List Fm) × Int × Int × Unit) × ((Bool × Unit × Unit) × (List Int) × Unit)) (R := (Unit × Unit) × ((Bool × Unit × Unit) × (List Int) × Unit)) (fun d10 => (
 let l11 := d10.2.2.1
 let v11_12 := d10.1.2.1
 let v12_13 := d10.1.2.2.1
 let v13_14 := d10.1.2.2.2.1
 cond (decide (v13_14 < v12_13)) (cond (ixOK v13_14 v11_12.length) (Option.bind (α := (Unit × Unit × (List Fm) × Int × Int × Unit) × ((Bool × Unit × Unit) × (Int × Int × (List UInt8) × (List Fm) × Unit) × (List Int) × Unit))
 (cond (decide (v13_14 > 0)) (Option.bind (α := (Bool) × ((Bool × Unit × Unit) × (List Int) × Unit)) (G_bldByte 32 (d10.2.1.1, (), ()) l11) fun r15 => (
 some (((), (), v11_12, v12_13, v13_14, ()), ((r15.2.1.1, (), ()), ((v11_12.getD v13_14.toNat (Fm.mk 0 0 [] [])).k, (v11_12.getD v13_14.toNat (Fm.mk 0 0 [] [])).n, (v11_12.getD v13_14.toNat (Fm.mk 0 0 [] [])).t, (v11_12.getD v13_14.toNat (Fm.mk 0 0 [] [])).l, ()), r15.2.2.1, ())))) (some (((), (), v11_12, v12_13, v13_14, ()), ((d10.2.1.1, (), ()), ((v11_12.getD v13_14.toNat (Fm.mk 0 0 [] [])).k, (v11_12.getD v13_14.toNat (Fm.mk 0 0 [] [])).n, (v11_12.getD v13_14.toNat (Fm.mk 0 0 [] [])).t, (v11_12.getD v13_14.toNat (Fm.mk 0 0 [] [])).l, ()), l11, ())))) fun d16 => (
 let c17 := d16.2.2.1.1
 let c18 := d16.2.2.1.2.1
 let c19 := d16.2.2.1.2.2.1
 let c20 := d16.2.2.1.2.2.2.1
 let l21 := d16.2.2.2.1
 let v11_22 := d16.1.2.2.1
 let v12_23 := d16.1.2.2.2.1
 let v13_24 := d16.1.2.2.2.2.1
 Option.bind (α := (Unit) × ((Bool × Unit × Unit) × (List Int) × Unit)) (G_write k (Fm.mk c17 c18 c19 c20) (d16.2.1.1, (), ()) l21) fun r25 => (
 some (Step.next (((), v11_22, v12_23, IntKind.wrap .i64 (v13_24 + 1), ()), ((r25.2.1.1, (), ()), r25.2.2.1, ())))))) none) (some (Step.done (((), ()), ((d10.2.1.1, (), ()), l11, ())))))) (((), x1.l, (x1.l.length : Int), 0, ()), ((r9.2.1.1, (), ()), r9.2.2.1, ()))) fun d26 => (
 let l27 := d26.2.2.1
 Option.bind (α := (Bool) × ((Bool × Unit × Unit) × (List Int) × Unit)) (G_bldByte 41 (d26.2.1.1, (), ()) l27) fun r28 => (
 some ((), ((r28.2.1.1, (), ()), r28.2.2.1, ())))))))))
def A_write : An := .seq (.leaf) (.seq (.leaf) (.block (.seq (.leaf) (.cond (.leaf) (.seq (.leaf) (.cond (.leaf) (.seq (.leaf) (.cond (.leaf) (.seq (.leaf) (.join false { env := [(0, (.ref 0 0))], objs := [(true, .cells 106 [(.mref 0 0), (.gs 1 (.int .u8))]), (false, .tg (.int .u8) 5)] } (.seq (.leaf) (.block (.loop { env := [(0, (.ref 0 0)), (11, (.d (.slice .form))), (12, (.d (.int .i64))), (13, (.d (.int .i64)))], objs := [(true, .cells 106 [(.mref 0 0), (.gs 1 (.int .u8))]), (false, .tg (.int .u8) 5)] } (.seq (.leaf) (.seq (.leaf) (.seq (.block (.seq (.leaf) (.join false { env := [(0, (.ref 0 0)), (5, (.ref 1 0)), (11, (.d (.slice .form))), (12, (.d (.int .i64))), (13, (.d (.int .i64)))], objs := [(true, .cells 106 [(.mref 0 0), (.gs 2 (.int .u8))]), (false, .cells 26 [(.d (.int .i64)), (.d (.int .i64)), (.d .str), (.d (.slice .form))]), (false, .tg (.int .u8) 5)] } (.leaf) (.leaf)))) (.leaf))))))) (.leaf)))))))))))
def H_write : Nat → RH := fun r => match r with
 | 2 => { H := { ac := [9] } }
 | 7 => { H := { ac := [21] } }
 | 8 => { H := { ac := [24] } }
 | 10 => { H := { ac := [27] } }
 | 12 => { H := { ac := [34] } }
 | 14 => { H := { ac := [40] } }
 | 16 => { H := { ac := [44] } }
 | 17 => { H := { ac := [47, 50, 51], pl := [49] } }
 | 18 => { H := { ac := [53] } }
 | _ => {}
noncomputable def S_write (k : Nat) : Sig := .o { pre := [(false, .cells 106 [(.mref 0 0), (.gs 1 (.int .u8))]), (false, .tg (.int .u8) 5)], args := [(.ref 0 0), (.d .form)], post := [(true, .cells 106 [(.mref 0 0), (.gs 1 (.int .u8))]), (false, .tg (.int .u8) 5)], res := (.tup []), f := fun x => G_write k x.1.2.1 x.2.1 x.2.2.1 }
theorem S_write_ok : ∀ k, SigOK CX 75 (S_write k)
| 0 => ⟨by kernel_rfl, fun x r h => by cases h⟩
| k + 1 => by
 have ih := S_write_ok k
 exact sigO_of (l := [(119, S_itoa), (81, S_bldStr), (120, S_bldByte), (121, S_newRep), (122, S_replace), (75, (S_write k))]) ⟨S_itoa_ok, S_bldStr_ok, S_bldByte_ok, S_newRep_ok, S_replace_ok, ih, trivial⟩ (hint := H_write) (an := A_write) (by kernel_rfl) (fun x => by kernel_rfl)
noncomputable def L_write (x1 : Fm) (o0 : Bool × Unit × Unit) (o1 : List Int) : Option ((Unit) × ((Bool × Unit × Unit) × (List Int) × Unit)) := limF fun k => G_write k x1 o0 o1
noncomputable def S_write_l : Sig := .o { pre := [(false, .cells 106 [(.mref 0 0), (.gs 1 (.int .u8))]), (false, .tg (.int .u8) 5)], args := [(.ref 0 0), (.d .form)], post := [(true, .cells 106 [(.mref 0 0), (.gs 1 (.int .u8))]), (false, .tg (.int .u8) 5)], res := (.tup []), f := fun x => L_write x.1.2.1 x.2.1 x.2.2.1 }
theorem S_write_l_ok : SigOK CX 75 S_write_l := SigOK.limO S_write_ok fun x r h => limF_ex h
noncomputable def G_rWrite (x0 : Fm) : Option (List UInt8) := (
 Option.bind (α := Bool) (G_rvalid (Fm.eta x0)) fun r1 => (
 cond (!r1) (some ([])) (Option.bind (α := (Unit) × ((Bool × Unit × Unit) × (List Int) × Unit)) (L_write (Fm.eta x0) (false, (), ()) ([] : List Int)) fun r2 => (
 Option.bind (α := (List UInt8) × (Unit)) (Option.map (fun s => (s, ())) (bytesOf (r2.2.2.1))) fun r3 => (
 some r3.1)))))
def A_rWrite : An := .leaf
def H_rWrite : Nat → RH := fun r => match r with
 | 4 => { H := { ac := [8] } }
 | 5 => { H := { ac := [9] } }
 | _ => {}
noncomputable def S_rWrite : Sig := .n [(.d .form)] (.d .str) (fun x => G_rWrite x.1)
theorem S_rWrite_ok : SigOK CX 32 S_rWrite := sigN_of (l := [(34, S_rvalid), (75, S_write_l), (76, S_string)]) ⟨S_rvalid_ok, S_write_l_ok, S_string_ok, trivial⟩ (hint := H_rWrite) (an := A_rWrite) (fun x => by kernel_rfl)
noncomputable def G_rSum (x0 : Fm) : Option (Int) := (
 Option.bind (α := (Int × Unit) × (Unit))
 (Option.bind (α := List UInt8) (G_rWrite (Fm.eta x0)) fun r1 => (
 cond (decide (r1.length ≤ 4611686018427387904)) (loopM (L := (Int × (List Int) × Int × Int × Unit) × (Unit)) (R := (Int × Unit) × (Unit)) (fun d2 => (
 let v3_3 := d2.1.1
 let v8_4 := d2.1.2.1
 let v9_5 := d2.1.2.2.1
 let v10_6 := d2.1.2.2.2.1
 cond (decide (v10_6 < v9_5)) (cond (ixOK v10_6 v8_4.length) (some (Step.next ((Int.tmod (IntKind.wrap .i64 (IntKind.wrap .i64 (31 * v3_3) + IntKind.wrap .i64 ((v8_4.getD v10_6.toNat (0 : Int))))) 1000003, v8_4, v9_5, IntKind.wrap .i64 (v10_6 + 1), ()), ()))) none) (some (Step.done ((v3_3, ()), ()))))) ((7, intsOf r1, ((intsOf r1).length : Int), 0, ()), ())) none)) fun d7 => (
 let v3_8 := d7.1.1
 some v3_8))
def A_rSum : An := .seq (.leaf) (.seq (.leaf) (.join false { env := [(3, (.d (.int .i64)))], objs := [] } (.seq (.leaf) (.block (.loop { env := [(3, (.d (.int .i64))), (8, (.d (.slice (.int .u8)))), (9, (.d (.int .i64))), (10, (.d (.int .i64)))], objs := [] } (.leaf)))) (.leaf)))
def H_rSum : Nat → RH := fun _ => {}
noncomputable def S_rSum : Sig := .n [(.d .form)] (.d (.int .i64)) (fun x => G_rSum x.1)
theorem S_rSum_ok : SigOK CX 39 S_rSum := sigN_of (l := [(32, S_rWrite)]) ⟨S_rWrite_ok, trivial⟩ (hint := H_rSum) (an := A_rSum) (fun x => by kernel_rfl)
noncomputable def G_rtext (k : Nat) (x0 : Fm) : Option (List UInt8) := match k with
| 0 => none
| k + 1 => (
 Option.bind (α := Step (((Int × Int × (List UInt8) × (List Fm) × Unit) × Unit) × (Unit)) (List UInt8))
 (cond (decide (x0.k = 0)) (Option.bind (α := List UInt8) (itoaF (x0.n)) fun r1 => (
 some (Step.done r1))) (cond (decide (x0.k = 1)) (some (Step.done x0.t)) (cond (decide (x0.k = 2)) (Option.bind (α := (Unit × Unit) × ((List Int) × Unit))
 (loopM (L := ((Int × Int × (List UInt8) × (List Fm) × Unit) × Unit × Int × Unit) × ((List Int) × Unit)) (R := (Unit × Unit) × ((List Int) × Unit)) (fun d2 => (
 let l3 := d2.2.1
 let v4_4 := d2.1.2.2.1
 cond (decide (v4_4 < (d2.1.1.2.2.1.length : Int))) (Option.bind (α := ((Int × Int × (List UInt8) × (List Fm) × Unit) × Unit × Int × Unit) × ((List Int) × Unit))
 (cond (ixOK v4_4 d2.1.1.2.2.1.length) (cond (decide (byteAt d2.1.1.2.2.1 v4_4 = 10)) (cond (decide ((l3.length + ([92, 110]).length) * 1 ≤ 140737488355328)) (some (((d2.1.1.1, d2.1.1.2.1, d2.1.1.2.2.1, d2.1.1.2.2.2.1, ()), (), v4_4, ()), (l3 ++ ([92, 110]), ()))) none) (Option.bind (α := ((Int × Int × (List UInt8) × (List Fm) × Unit) × Unit × Int × Int × Bool × Unit) × ((List Int) × Unit))
 (cond (decide (byteAt d2.1.1.2.2.1 v4_4 = 34)) (some (((d2.1.1.1, d2.1.1.2.1, d2.1.1.2.2.1, d2.1.1.2.2.2.1, ()), (), v4_4, byteAt d2.1.1.2.2.1 v4_4, decide (byteAt d2.1.1.2.2.1 v4_4 = 34), ()), (l3, ()))) (some (((d2.1.1.1, d2.1.1.2.1, d2.1.1.2.2.1, d2.1.1.2.2.2.1, ()), (), v4_4, byteAt d2.1.1.2.2.1 v4_4, decide (byteAt d2.1.1.2.2.1 v4_4 = 92), ()), (l3, ())))) fun d5 => (
 let l6 := d5.2.1
 let v4_7 := d5.1.2.2.1
 let v5_8 := d5.1.2.2.2.1
 let v42_9 := d5.1.2.2.2.2.1
 cond v42_9 (cond (decide ((l6.length + ([92, v5_8]).length) * 1 ≤ 140737488355328)) (some (((d5.1.1.1, d5.1.1.2.1, d5.1.1.2.2.1, d5.1.1.2.2.2.1, ()), (), v4_7, ()), (l6 ++ ([92, v5_8]), ()))) none) (cond (decide ((l6.length + ([v5_8]).length) * 1 ≤ 140737488355328)) (some (((d5.1.1.1, d5.1.1.2.1, d5.1.1.2.2.1, d5.1.1.2.2.2.1, ()), (), v4_7, ()), (l6 ++ ([v5_8]), ()))) none)))) none) fun d10 => (
 let l11 := d10.2.1
 let v4_12 := d10.1.2.2.1
 some (Step.next (((d10.1.1.1, d10.1.1.2.1, d10.1.1.2.2.1, d10.1.1.2.2.2.1, ()), (), IntKind.wrap .i64 (v4_12 + 1), ()), (l11, ()))))) (some (Step.done (((), ()), (l3, ())))))) (((x0.k, x0.n, x0.t, x0.l, ()), (), 0, ()), (([] : List Int), ()))) fun d13 => (
 let l14 := d13.2.1
 cond (decide (([34]).length + (strOf l14).length ≤ 9223372036854775807)) (cond (decide ((([34]) ++ (strOf l14)).length + ([34]).length ≤ 9223372036854775807)) (some (Step.done ((([34]) ++ (strOf l14)) ++ ([34])))) none) none)) (some (Step.next (((x0.k, x0.n, x0.t, x0.l, ()), ()), ())))))) fun qd15 => match qd15 with
 | .next d15 => (
 Option.bind (α := (Unit × Unit) × ((List Int) × Unit))
 (loopM (L := ((Int × Int × (List UInt8) × (List Fm) × Unit) × Unit × Int × Unit) × ((List Int) × Unit)) (R := (Unit × Unit) × ((List Int) × Unit)) (fun d16 => (
 let l17 := d16.2.1
 let v7_18 := d16.1.2.2.1
 cond (decide (v7_18 < (d16.1.1.2.2.2.1.length : Int))) (Option.bind (α := ((Int × Int × (List UInt8) × (List Fm) × Unit) × Unit × Int × Unit) × ((List Int) × Unit))
 (cond (decide (v7_18 > 0)) (cond (decide ((l17.length + ([32]).length) * 1 ≤ 140737488355328)) (some (((d16.1.1.1, d16.1.1.2.1, d16.1.1.2.2.1, d16.1.1.2.2.2.1, ()), (), v7_18, ()), (l17 ++ ([32]), ()))) none) (some (((d16.1.1.1, d16.1.1.2.1, d16.1.1.2.2.1, d16.1.1.2.2.2.1, ()), (), v7_18, ()), (l17, ())))) fun d19 => (
 let l20 := d19.2.1
 let v7_21 := d19.1.2.2.1
 cond (ixOK v7_21 d19.1.1.2.2.2.1.length) (Option.bind (α := List UInt8) (G_rtext k (Fm.eta (d19.1.1.2.2.2.1.getD v7_21.toNat (Fm.mk 0 0 [] [])))) fun r22 => (
 cond (decide ((l20.length + (r22.map fun b => (b.toNat : Int)).length) * 1 ≤ 140737488355328)) (some (Step.next (((d19.1.1.1, d19.1.1.2.1, d19.1.1.2.2.1, d19.1.1.2.2.2.1, ()), (), IntKind.wrap .i64 (v7_21 + 1), ()), (l20 ++ (r22.map fun b => (b.toNat : Int)), ())))) none)) none)) (some (Step.done (((), ()), (l17, ())))))) (((d15.1.1.1, d15.1.1.2.1, d15.1.1.2.2.1, d15.1.1.2.2.2.1, ()), (), 0, ()), ([40], ()))) fun d23 => (
 let l24 := d23.2.1
 cond (decide ((l24.length + ([41]).length) * 1 ≤ 140737488355328)) (some (strOf (l24 ++ ([41])))) none))
 | .done r => some r)
def A_rtext : An := .seq (.leaf) (.join true { env := [(1, (.rptr [(.d (.int .i64)), (.d (.int .i64)), (.d .str), (.d (.slice .form))]))], objs := [] } (.seq (.leaf) (.block (.seq (.leaf) (.cond (.leaf) (.seq (.leaf) (.cond (.leaf) (.seq (.leaf) (.cond (.seq (.leaf) (.join false { env := [(3, (.gs 0 (.int .u8)))], objs := [(false, .tg (.int .u8) 5)] } (.seq (.leaf) (.block (.loop { env := [(1, (.rptr [(.d (.int .i64)), (.d (.int .i64)), (.d .str), (.d (.slice .form))])), (3, (.gs 0 (.int .u8))), (4, (.d (.int .i64)))], objs := [(false, .tg (.int .u8) 5)] } (.seq (.leaf) (.join false { env := [(1, (.rptr [(.d (.int .i64)), (.d (.int .i64)), (.d .str), (.d (.slice .form))])), (3, (.gs 0 (.int .u8))), (4, (.d (.int .i64)))], objs := [(false, .tg (.int .u8) 5)] } (.block (.seq (.leaf) (.seq (.leaf) (.block (.seq (.leaf) (.cond (.leaf) (.join false { env := [(1, (.rptr [(.d (.int .i64)), (.d (.int .i64)), (.d .str), (.d (.slice .form))])), (3, (.gs 0 (.int .u8))), (4, (.d (.int .i64))), (5, (.d (.int .u8))), (42, (.d .bool))], objs := [(false, .tg (.int .u8) 5)] } (.leaf) (.leaf)))))))) (.leaf)))))) (.frz [0] (.leaf)))) (.leaf))))))))) (.seq (.leaf) (.join false { env := [(6, (.gs 0 (.int .u8)))], objs := [(false, .tg (.int .u8) 5)] } (.seq (.leaf) (.block (.loop { env := [(1, (.rptr [(.d (.int .i64)), (.d (.int .i64)), (.d .str), (.d (.slice .form))])), (6, (.gs 0 (.int .u8))), (7, (.d (.int .i64)))], objs := [(false, .tg (.int .u8) 5)] } (.seq (.leaf) (.seq (.block (.join false { env := [(1, (.rptr [(.d (.int .i64)), (.d (.int .i64)), (.d .str), (.d (.slice .form))])), (6, (.gs 0 (.int .u8))), (7, (.d (.int .i64)))], objs := [(false, .tg (.int .u8) 5)] } (.leaf) (.leaf))) (.leaf)))))) (.leaf))))
def H_rtext : Nat → RH := fun r => match r with
 | 13 => { H := { ty := [(36, (.int .u8))] } }
 | 15 => { H := { ty := [(41, (.int .u8))] } }
 | 18 => { H := { ty := [(48, (.int .u8))] } }
 | 20 => { H := { mb := [53], ty := [(53, (.int .u8))] } }
 | 25 => { H := { ty := [(65, (.int .u8))] } }
 | 26 => { H := { ty := [(73, (.int .u8))] } }
 | 27 => { H := { mb := [77], ty := [(76, (.int .u8))] } }
 | _ => {}
noncomputable def S_rtext (k : Nat) : Sig := .n [(.d .form)] (.d .str) (fun x => G_rtext k x.1)
theorem S_rtext_rec : ∀ k, SigOK CX 77 (S_rtext k)
| 0 => fun x r h => by cases h
| k + 1 => by
 have ih := S_rtext_rec k
 exact sigN_of (l := [(119, S_itoa), (77, (S_rtext k))]) ⟨S_itoa_ok, ih, trivial⟩ (hint := H_rtext) (an := A_rtext) (fun x => by kernel_rfl)
theorem S_rtext_ok : ∀ k, SigOK CX 77 (S_rtext k) := fun k => S_rtext_rec k
noncomputable def L_rtext (x0 : Fm) : Option (List UInt8) := limF fun k => G_rtext k x0
noncomputable def S_rtext_l : Sig := .n [(.d .form)] (.d .str) (fun x => L_rtext x.1)
theorem S_rtext_l_ok : SigOK CX 77 S_rtext_l := SigOK.limN S_rtext_ok fun x r h => limF_ex h
noncomputable def G_refWrite (x0 : Fm) : Option (List UInt8) := (
 Option.bind (α := Bool) (G_refValid (Fm.eta x0)) fun r1 => (
 cond (!r1) (some ([])) (Option.bind (α := List UInt8) (L_rtext (Fm.eta x0)) fun r2 => (
 some r2))))
def A_refWrite : An := .leaf
def H_refWrite : Nat → RH := fun _ => {}
noncomputable def S_refWrite : Sig := .n [(.d .form)] (.d .str) (fun x => G_refWrite x.1)
theorem S_refWrite_ok : SigOK CX 33 S_refWrite := sigN_of (l := [(35, S_refValid), (77, S_rtext_l)]) ⟨S_refValid_ok, S_rtext_l_ok, trivial⟩ (hint := H_refWrite) (an := A_refWrite) (fun x => by kernel_rfl)
noncomputable def G_refSum (x0 : Fm) : Option (Int) := (
 Option.bind (α := List UInt8) (G_refWrite (Fm.eta x0)) fun r1 => (
 Option.bind (α := (Int × Unit) × (Unit))
 (loopM (L := (Int × (List UInt8) × Int × Unit) × (Unit)) (R := (Int × Unit) × (Unit)) (fun d2 => (
 let v3_3 := d2.1.1
 let v4_4 := d2.1.2.1
 let v5_5 := d2.1.2.2.1
 cond (decide (v5_5 < (v4_4.length : Int))) (cond (ixOK v5_5 v4_4.length) (some (Step.next ((Int.tmod (IntKind.wrap .i64 (IntKind.wrap .i64 (31 * v3_3) + IntKind.wrap .i64 (byteAt v4_4 v5_5))) 1000003, v4_4, IntKind.wrap .i64 (v5_5 + 1), ()), ()))) none) (some (Step.done ((v3_3, ()), ()))))) ((7, r1, 0, ()), ())) fun d6 => (
 let v3_7 := d6.1.1
 some v3_7)))
def A_refSum : An := .seq (.leaf) (.seq (.leaf) (.seq (.leaf) (.join false { env := [(3, (.d (.int .i64)))], objs := [] } (.seq (.leaf) (.block (.loop { env := [(3, (.d (.int .i64))), (4, (.d .str)), (5, (.d (.int .i64)))], objs := [] } (.leaf)))) (.leaf))))
def H_refSum : Nat → RH := fun _ => {}
noncomputable def S_refSum : Sig := .n [(.d .form)] (.d (.int .i64)) (fun x => G_refSum x.1)
theorem S_refSum_ok : SigOK CX 40 S_refSum := sigN_of (l := [(33, S_refWrite)]) ⟨S_refWrite_ok, trivial⟩ (hint := H_refSum) (an := A_refSum) (fun x => by kernel_rfl)
end Go.Ab

namespace Go.Ab
open Go
section
variable (vis : UInt8 → Bool) (tok : List UInt8 → Int ⊕ Fm)
end
end Go.Ab

set_option maxRecDepth 100000
namespace Go.Ab
open Go Go.RowKit Go.Proofs
theorem ybyte {s : List UInt8} {i : Nat} (h : i < s.length) : byteAt s (i : Int) = ((s[i].toNat : Nat) : Int) := by
 unfold byteAt; simp [h]
theorem ybyte_eq {c : UInt8} {n : Nat} (h : n < 256) : (((c.toNat : Nat) : Int) = (n : Int)) ↔ c = UInt8.ofNat n := by
 constructor
 ·intro e
  apply UInt8.toNat_inj.1
  rw [UInt8.toNat_ofNat_of_lt' h]; omega
 ·intro e; subst e
  rw [UInt8.toNat_ofNat_of_lt' h]
theorem ybyteD (c : UInt8) (n : Nat) (h : n < 256) : decide (((c.toNat : Nat) : Int) = (n : Int)) = decide (c = UInt8.ofNat n) := decide_eq_decide.2 (ybyte_eq h)
end Go.Ab

set_option maxRecDepth 100000
namespace Go.Ab
open Go Go.RowKit Go.Proofs
theorem bytes_ints (b : List UInt8) : bytesOf (intsOf b) = some b := by
 have h1 : ((intsOf b).all fun n => decide (0 ≤ n ∧ n < 256)) = true := by
  rw [List.all_eq_true]
  intro n hn
  unfold intsOf at hn
  obtain ⟨c, _, rfl⟩ := List.mem_map.1 hn
  apply decide_eq_true
  have := c.toNat_lt
  omega
 unfold bytesOf
 rw [if_pos h1]
 unfold intsOf
 rw [List.map_map]
 congr 1
 refine List.map_id'' (fun c => ?_) b
 simp
theorem ints_len (b : List UInt8) : (intsOf b).length = b.length := by unfold intsOf; exact List.length_map ..
end Go.Ab

namespace Go.Ab
open Go
end Go.Ab

set_option maxRecDepth 100000
namespace Go.Ab
open Go Go.RowKit Go.Proofs
end Go.Ab

set_option maxRecDepth 100000
namespace Go.Ab
open Go Go.RowKit Go.Proofs
mutual
def Fm.size : Fm → Nat
 | .mk k _ _ l => 1 + (if k = 3 then Fm.sizeL l else 0)
def Fm.sizeL : List Fm → Nat
 | [] => 0
 | f :: r => f.size + Fm.sizeL r
end
mutual
def Fm.depth : Fm → Nat
 | .mk k _ _ l => 1 + (if k = 3 then Fm.depthL l else 0)
def Fm.depthL : List Fm → Nat
 | [] => 0
 | f :: r => max f.depth (Fm.depthL r)
end
theorem sizeL_le : ∀ l : List Fm, (∀ f ∈ l, f.size ≤ f.big) → Fm.sizeL l ≤ Fm.bigL l
 | [], _ => by simp [Fm.sizeL, Fm.bigL]
 | f :: r, h => by
  simp only [Fm.sizeL, Fm.bigL]
  have := h f (by simp)
  have := sizeL_le r fun g hg => h g (by simp [hg])
  omega
theorem size_le : ∀ f : Fm, f.size ≤ f.big := Fm.ind fun k n t l ih => by
 have := sizeL_le l ih
 simp only [Fm.size, Fm.big]
 split <;> omega
theorem depthL_le : ∀ l : List Fm, (∀ f ∈ l, f.depth ≤ f.big) → Fm.depthL l ≤ Fm.bigL l
 | [], _ => by simp [Fm.depthL, Fm.bigL]
 | f :: r, h => by
  simp only [Fm.depthL, Fm.bigL]
  have := h f (by simp)
  have := depthL_le r fun g hg => h g (by simp [hg])
  omega
theorem depth_le : ∀ f : Fm, f.depth ≤ f.big := Fm.ind fun k n t l ih => by
 have := depthL_le l ih
 simp only [Fm.depth, Fm.big]
 split <;> omega
theorem sizeL_take (l : List Fm) {i : Nat} (h : i < l.length) : Fm.sizeL (l.take (i + 1)) = Fm.sizeL (l.take i) + l[i].size := by
 rw [List.take_succ_eq_append_getElem h]
 have : ∀ a b : List Fm, Fm.sizeL (a ++ b) = Fm.sizeL a + Fm.sizeL b := by
  intro a b
  induction a with
  | nil => simp [Fm.sizeL]
  | cons x r ih => simp only [List.cons_append, Fm.sizeL, ih]; omega
 rw [this]; simp [Fm.sizeL]
theorem depthL_take (l : List Fm) {i : Nat} (h : i < l.length) : Fm.depthL (l.take (i + 1)) = max (Fm.depthL (l.take i)) l[i].depth := by
 rw [List.take_succ_eq_append_getElem h]
 have : ∀ a b : List Fm, Fm.depthL (a ++ b) = max (Fm.depthL a) (Fm.depthL b) := by
  intro a b
  induction a with
  | nil => simp [Fm.depthL]
  | cons x r ih => simp only [List.cons_append, Fm.depthL, ih]; omega
 rw [this]; simp [Fm.depthL]
theorem sizeL_take_le (l : List Fm) (i : Nat) : Fm.sizeL (l.take i) ≤ Fm.sizeL l := by
 induction l generalizing i with
 | nil => simp
 | cons f r ih => cases i with
  | zero => simp [Fm.sizeL]
  | succ i => simp only [List.take_succ_cons, Fm.sizeL]; have := ih i; omega
theorem kids_val (f : Fm) : G_kids f = some (if f.k = 3 then f.l else []) := by
 unfold G_kids
 by_cases h : f.k = 3
 ·simp [h]
 ·simp [h]
theorem Fm.size_eq (f : Fm) : f.size = 1 + Fm.sizeL (if f.k = 3 then f.l else []) := by
 cases f; simp only [Fm.size, Fm.k, Fm.l]; split <;> simp_all [Fm.sizeL]
theorem Fm.depth_eq (f : Fm) : f.depth = 1 + Fm.depthL (if f.k = 3 then f.l else []) := by
 cases f; simp only [Fm.depth, Fm.k, Fm.l]; split <;> simp_all [Fm.depthL]
theorem kids_mem {f g : Fm} (h : g ∈ (if f.k = 3 then f.l else [])) : g.big < f.big := by
 split at h
 ·have := big_mem h; have := big_kids f; omega
 ·cases h
theorem kids_len (f : Fm) : (if f.k = 3 then f.l else []).length < f.big := by
 split
 ·have := length_le_big f.l; have := big_kids f; omega
 ·have := big_pos f; simp only [List.length_nil]; omega
theorem size_up : ∀ k, ∀ f : Fm, f.big ≤ 4611686018427387000 → Up (k < f.big) (G_size k f) (f.size : Int)
 | 0 => fun f hb => .inr ⟨by unfold G_size; rfl, by have := big_pos f; omega⟩
 | k + 1 => fun f hb => by
  have hs := size_le f
  rw [Fm.size_eq] at hs ⊢
  unfold G_size
  simp only [Fm.eta_eq, kids_val, Option.bind_some]
  have hm : ∀ g ∈ (if f.k = 3 then f.l else []), g.big < f.big := fun g hg => kids_mem hg
  have hl := kids_len f
  generalize (if f.k = 3 then f.l else []) = l at hm hl hs
  refine loop_ix (fun i => ((((1 + Fm.sizeL (l.take i) : Nat) : Int), l, (l.length : Int), (i : Int), ()), ())) (fun i => ((1 + Fm.sizeL l : Nat) : Int)) l.length (fun i hi => ?_) ?_
  ·have e1 : decide ((i : Int) < (l.length : Int)) = true := by simp [hi]
   have e2 : ixOK (i : Int) l.length = true := ixOK_iff.2 (by omega)
   have hg := hm _ (List.getElem_mem hi)
   have h2 := sizeL_take l hi
   have h3 := sizeL_take_le l (i + 1)
   simp only [e1, e2, cond_true, Int.toNat_natCast, getD_in hi, Fm.eta_eq, wrapN (show i < 4611686018427387904 by omega)]
   rcases size_up k l[i] (by omega) with h | ⟨h, hn⟩
   ·rw [h]
    refine .inl ⟨?_, trivial⟩
    simp only [Option.bind_some]
    rw [w64 (by omega) (by omega)]
    have : ((1 + Fm.sizeL (l.take i) : Nat) : Int) + (l[i].size : Int) = ((1 + Fm.sizeL (l.take (i + 1)) : Nat) : Int) := by omega
    rw [this]
   ·rw [h]; exact .inr (.inr ⟨rfl, by omega⟩)
  ·refine ⟨((((1 + Fm.sizeL (l.take l.length) : Nat) : Int), ()), ()), by simp, .of ?_⟩
   simp
theorem size_val {f : Fm} (hb : f.big ≤ 4611686018427387000) : L_size f = some (f.size : Int) := limF_up (b := f.big) fun k => size_up k f hb
theorem depth_up : ∀ k, ∀ f : Fm, f.big ≤ 4611686018427387000 → Up (k < f.big) (G_depth k f) (f.depth : Int)
 | 0 => fun f hb => .inr ⟨by unfold G_depth; rfl, by have := big_pos f; omega⟩
 | k + 1 => fun f hb => by
  have hs := depth_le f
  rw [Fm.depth_eq] at hs ⊢
  unfold G_depth
  simp only [Fm.eta_eq, kids_val, Option.bind_some]
  have hm : ∀ g ∈ (if f.k = 3 then f.l else []), g.big < f.big := fun g hg => kids_mem hg
  have hl := kids_len f
  generalize (if f.k = 3 then f.l else []) = l at hm hl hs
  refine loop_ix (fun i => (((Fm.depthL (l.take i) : Int), l, (l.length : Int), (i : Int), ()), ())) (fun i => ((1 + Fm.depthL l : Nat) : Int)) l.length (fun i hi => ?_) ?_
  ·have e1 : decide ((i : Int) < (l.length : Int)) = true := by simp [hi]
   have e2 : ixOK (i : Int) l.length = true := ixOK_iff.2 (by omega)
   have hg := hm _ (List.getElem_mem hi)
   have h2 := depthL_take l hi
   simp only [e1, e2, cond_true, Int.toNat_natCast, getD_in hi, Fm.eta_eq, wrapN (show i < 4611686018427387904 by omega)]
   rcases depth_up k l[i] (by omega) with h | ⟨h, hn⟩
   ·rw [h]
    refine .inl ⟨?_, trivial⟩
    simp only [Option.bind_some]
    have : (if (l[i].depth : Int) > (Fm.depthL (l.take i) : Int) then (l[i].depth : Int) else (Fm.depthL (l.take i) : Int)) = (Fm.depthL (l.take (i + 1)) : Int) := by
     rw [h2]; split <;> omega
    rw [this]
   ·rw [h]; exact .inr (.inr ⟨rfl, by omega⟩)
  ·refine ⟨(((Fm.depthL (l.take l.length) : Int), ()), ()), by simp, .of ?_⟩
   simp only [List.take_length]
   rw [w64 (by omega) (by omega)]
   congr 1; omega
theorem depth_val {f : Fm} (hb : f.big ≤ 4611686018427387000) : L_depth f = some (f.depth : Int) := limF_up (b := f.big) fun k => depth_up k f hb
def wordS (t : List UInt8) : Bool := decide (t ≠ []) && (decide (t.length ≤ 30) && !numericS t)
def leafS (k n : Int) (t : List UInt8) (l : List Fm) : Bool :=
 if k = 0 then decide (t = []) && (decide (l = []) && (decide (-1152921504606846976 ≤ n) && decide (n ≤ 1152921504606846976)))
 else if k = 1 then (wordS t && t.all fun c => !outsideS c) && (decide (n = 0) && decide (l = []))
 else if k = 2 then decide (t.length ≤ 2000) && (!badT t && (decide (n = 0) && decide (l = [])))
 else if k = 3 then decide (t = []) && decide (n = 0)
 else false
theorem outside_byte {t : List UInt8} {i : Nat} (h : i < t.length) : outsideF (byteAt t (i : Int)) = some (outsideS t[i]) := by
 have hb := t[i].toNat_lt
 have e : byteAt t (i : Int) = (t[i].toNat : Int) := by unfold byteAt; simp [h]
 unfold outsideF
 rw [e, if_pos (by omega)]
 simp
theorem word_loop {a n : Int} {t : List UInt8} {l : List Fm} {A : Type} {v : A} (F : ((Int × Int × (List UInt8) × (List Fm) × Unit) × Bool × Unit) × (Unit) → Option A) (b0 : Bool) (ht : t.length ≤ 30)
  (hF : F ((((a, n, t, l, ()), b0 && t.all fun c => !outsideS c, ()), ())) = some v) :
  Option.bind (loopM (L := ((Int × Int × (List UInt8) × (List Fm) × Unit) × Bool × Int × Unit) × (Unit)) (R := ((Int × Int × (List UInt8) × (List Fm) × Unit) × Bool × Unit) × (Unit)) (fun d2 => (
 let v3_3 := d2.1.2.1
 let v4_4 := d2.1.2.2.1
 cond (cond (decide (v4_4 < (d2.1.1.2.2.1.length : Int))) v3_3 false) (cond (ixOK v4_4 d2.1.1.2.2.1.length) (Option.bind (α := Bool) (outsideF (byteAt d2.1.1.2.2.1 v4_4)) fun r5 => (
 some (Step.next (((d2.1.1.1, d2.1.1.2.1, d2.1.1.2.2.1, d2.1.1.2.2.2.1, ()), !r5, IntKind.wrap .i64 (v4_4 + 1), ()), ())))) none) (some (Step.done (((d2.1.1.1, d2.1.1.2.1, d2.1.1.2.2.1, d2.1.1.2.2.2.1, ()), v3_3, ()), ()))))) (((a, n, t, l, ()), b0, 0, ()), ())) F = some v := by
 have key : ∀ j i (b : Bool), i + j = t.length → F ((((a, n, t, l, ()), b && (t.drop i).all fun c => !outsideS c, ()), ())) = some v → Option.bind (loopM (L := ((Int × Int × (List UInt8) × (List Fm) × Unit) × Bool × Int × Unit) × (Unit)) (R := ((Int × Int × (List UInt8) × (List Fm) × Unit) × Bool × Unit) × (Unit)) (fun d2 => (
 let v3_3 := d2.1.2.1
 let v4_4 := d2.1.2.2.1
 cond (cond (decide (v4_4 < (d2.1.1.2.2.1.length : Int))) v3_3 false) (cond (ixOK v4_4 d2.1.1.2.2.1.length) (Option.bind (α := Bool) (outsideF (byteAt d2.1.1.2.2.1 v4_4)) fun r5 => (
 some (Step.next (((d2.1.1.1, d2.1.1.2.1, d2.1.1.2.2.1, d2.1.1.2.2.2.1, ()), !r5, IntKind.wrap .i64 (v4_4 + 1), ()), ())))) none) (some (Step.done (((d2.1.1.1, d2.1.1.2.1, d2.1.1.2.2.1, d2.1.1.2.2.2.1, ()), v3_3, ()), ()))))) (((a, n, t, l, ()), b, (i : Int), ()), ())) F = some v := by
  intro j
  induction j with
  | zero =>
   intro i b hi hv
   obtain rfl : i = t.length := by omega
   rw [loopM_done (r := (((a, n, t, l, ()), b, ()), ())) (by simp)]
   simpa using hv
  | succ j ih =>
   intro i b hi hv
   have hlt : i < t.length := by omega
   cases b with
   | false =>
    rw [loopM_done (r := (((a, n, t, l, ()), false, ()), ())) (by simp)]
    simpa using hv
   | true =>
    have e1 : decide ((i : Int) < (t.length : Int)) = true := by simp [hlt]
    have e2 : ixOK (i : Int) t.length = true := ixOK_iff.2 (by omega)
    rw [loopM_next (l' := (((a, n, t, l, ()), !outsideS t[i], ((i + 1 : Nat) : Int), ()), ())) (by
     simp only [e1, e2, cond_true, outside_byte hlt, Option.bind_some, wrapN (show i < 4611686018427387904 by omega)])]
    refine ih (i + 1) _ (by omega) ?_
    rw [List.drop_eq_getElem_cons hlt, List.all_cons, Bool.true_and] at hv
    exact hv
 exact key t.length 0 b0 (by omega) (by simpa using hF)
theorem len0 {α : Type} (l : List α) : decide ((l.length : Int) = 0) = decide (l = []) := by
 cases l with
 | nil => rfl
 | cons a r =>
  have : ¬ ((a :: r).length : Int) = 0 := by simp only [List.length_cons]; omega
  simp only [this, decide_false]; rfl
theorem leaf_val (f : Fm) : G_leaf f = some (leafS f.k f.n f.t f.l) := by
 unfold G_leaf leafS
 generalize f.k = a
 generalize f.n = n
 generalize f.t = t
 generalize f.l = l
 simp only [len0]
 by_cases h0 : a = 0
 ·subst h0
  simp only [decide_true, cond_true, if_true, Option.bind_some, ge_iff_le]
  congr 1
  apply Bool.eq_iff_iff.2
  simp [and_assoc]
 ·simp only [h0, decide_false, cond_false, if_false]
  by_cases h1 : a = 1
  ·subst h1
   simp only [decide_true, cond_true, if_true]
   by_cases hn : t = []
   ·subst hn
    simp only [decide_true, Bool.not_true, cond_false, Option.bind_some]
    rw [loopM_done (r := (((1, n, [], l, ()), false, ()), ())) (by simp)]
    simp [wordS]
   ·by_cases hl : t.length ≤ 30
    ·have e1 : decide ((t.length : Int) ≤ 30) = true := by simp; omega
     have hnum : numericF t = some (numericS t) := by unfold numericF; rw [if_pos (by omega)]
     simp only [hn, decide_false, Bool.not_false, cond_true, e1, hnum, Option.bind_some]
     rw [word_loop (v := Step.done (cond (cond ((!numericS t) && t.all fun c => !outsideS c) (decide (n = 0)) false) (decide (l = [])) false)) _ _ hl (by simp only [len0])]
     simp only [Option.bind_some]
     congr 1
     have ew : wordS t = !numericS t := by simp [wordS, hn, hl]
     rw [ew]
     apply Bool.eq_iff_iff.2
     simp [and_assoc]
    ·have e1 : decide ((t.length : Int) ≤ 30) = false := by simp; omega
     simp only [hn, decide_false, Bool.not_false, cond_true, e1, cond_false, Option.bind_some]
     rw [loopM_done (r := (((1, n, t, l, ()), false, ()), ())) (by simp)]
     simp [wordS, hl]
  ·simp only [h1, decide_false, cond_false, if_false]
   by_cases h2 : a = 2
   ·subst h2
    simp only [decide_true, cond_true, if_true]
    by_cases hl : t.length ≤ 2000
    ·have e1 : decide ((t.length : Int) ≤ 2000) = true := by simp; omega
     simp only [e1, cond_true, Option.bind_some, hl, decide_true, Bool.true_and]
     congr 1
     apply Bool.eq_iff_iff.2
     simp [and_assoc]
    ·have e1 : decide ((t.length : Int) ≤ 2000) = false := by simp; omega
     simp [e1, hl]
   ·simp only [h2, decide_false, cond_false, if_false]
    by_cases h3 : a = 3
    ·subst h3
     simp only [decide_true, cond_true, if_true, Option.bind_some]
     congr 1
     apply Bool.eq_iff_iff.2
     simp [and_assoc]
    ·simp [h3]
end Go.Ab

namespace Go.Ab
open Go Go.RowKit
mutual
def eqSh : (s : Sh) → s.den → s.den → Bool
 | .d e, x, y => eqE e x y
 | .c _, _, _ => true
 | .ref _ _, _, _ => true
 | .gs _ _, _, _ => true
 | .mref _ _, x, y => eqBl x y
 | .gv _ _, _, _ => false
 | .agg l, x, y => eqShL l x y
 | .tup l, x, y => eqShL l x y
 | .rptr l, x, y => eqShL l x y
 | .fn _ _ _, _, _ => false
 | .iface _ s, x, y => eqSh s x y
def eqShL : (l : List Sh) → Sh.denL l → Sh.denL l → Bool
 | [], _, _ => true
 | s :: l, x, y => eqSh s x.1 y.1 && eqShL l x.2 y.2
end
mutual
theorem eqSh_sound : ∀ (s : Sh) (x y : s.den), eqSh s x y = true → x = y
 | .d e, x, y, h => eqE_sound e x y h
 | .c _, x, y, h => rfl
 | .ref _ _, x, y, h => rfl
 | .gs _ _, x, y, h => rfl
 | .mref _ _, x, y, h => eqBl_sound x y h
 | .gv _ _, x, y, h => by cases h
 | .agg l, x, y, h => eqShL_sound l x y h
 | .tup l, x, y, h => eqShL_sound l x y h
 | .rptr l, x, y, h => eqShL_sound l x y h
 | .fn _ _ _, x, y, h => by cases h
 | .iface _ s, x, y, h => eqSh_sound s x y h
theorem eqShL_sound : ∀ (l : List Sh) (x y : Sh.denL l), eqShL l x y = true → x = y
 | [], x, y, h => rfl
 | s :: l, (x1, x2), (y1, y2), h => by
  have h : (eqSh s x1 y1 && eqShL l x2 y2) = true := h
  rw [Bool.and_eq_true] at h
  rw [eqSh_sound s x1 y1 h.1, eqShL_sound l x2 y2 h.2]
end
def mgE (res : Sh) (a b : Option res.den) : Option res.den := match a with
 | some x => match b with
  | some y => match eqSh res x y with
   | true => some x
   | false => none
  | none => none
 | none => none
theorem mgE_ok (res : Sh) : MgOK (mgE res) := fun a b r h => by
 unfold mgE at h
 split at h
 ·rename_i x
  split at h
  ·rename_i y
   split at h
   ·rename_i e; cases h; exact ⟨rfl, by rw [eqSh_sound res _ _ e]⟩
   ·cases h
  ·cases h
 ·cases h
def atF (args : List Sh) {R : Type} (x : Sh.denL args) (r : R) (y : Sh.denL args) : Option R := match eqShL args y x with
 | true => some r
 | false => none
theorem sig_at {C : Cx} {l : List (Nat × Sig)} (ht : TabOK C l) {hint : Nat → RH} {g : FuncId} {args : List Sh} {res : Sh} {an : An} {x : Sh.denL args} {r : res.den}
  (h : yfunM C (sigTab l) hint g (mgE res) (fun fn => finN C fn res) args an x = some r) : SigOK C g (.n args res (atF args x r)) := fun y r' hr => by
 unfold atF at hr
 split at hr
 ·rename_i e
  cases hr
  rw [eqShL_sound args y x e]
  exact yfun_sound (sigTab_ok ht) (mgE_ok res) h fun fn s => ⟨fun e he hf => by
   have hf' : (resA C.P fn.results.toList s.st).bind (fun v => resY s.σ res v id) = some r := by rcases he with rfl | rfl <;> exact hf
   obtain ⟨v, h1, h2⟩ := Option.bind_eq_some_iff.1 hf'
   obtain ⟨y, rfl, h3, h4⟩ := resY_sound h2
   exact ⟨v, h1, h3, _, rfl, h4⟩, (fun v hv => by cases hv), (fun i hi => by cases hi), (fun i hi => by cases hi)⟩
 ·cases hr
end Go.Ab

set_option maxRecDepth 100000
namespace Go.Ab
open Go Go.RowKit Go.Proofs
noncomputable def S_nextE : Sig := .o { pre := [(false, .cells 132 [(.d .str), (.d (.int .i64))])], args := [(.ref 0 0)], post := [(true, .cells 132 [(.d .str), (.d (.int .i64))])], res := (.tup [(.d (.pr (.int .u8) .form)), (.d .bool), (.d (.int .i64))]), f := fun x => E_next 60 x.2.1 }
theorem S_nextE_ok : SigOK CX 104 S_nextE := ⟨S_next_ok.1, fun x r hr => S_next_ok.2 x r (E_next_le 60 _ _ hr)⟩
def parseA : An := .seq .leaf (.seq .leaf (.seq .leaf (.block (.unroll 40 (.block (.joinX [4, 5, 6, 7, 8] .leaf (.seq .leaf (.joinX [4, 5, 6] (.block (.seq .leaf (.cond .leaf (.seq .leaf (.cond .leaf (.seq .leaf (.cond .leaf (.seq .leaf (.cond .leaf (.seq .leaf (.cond .leaf (.seq .leaf (.cond (.seq .leaf (.seq (.frzt [74] .leaf) (.seq .leaf (.cond (.seq (.frzt [79] .leaf) .leaf) (.frzt [79] .leaf))))) .leaf))))))))))))) .leaf))))))))
def parseH : Nat → RH := fun r => match r with
 | 1 => { H := { mb := [13] } }
 | 2 => { H := { mb := [14] } }
 | 3 => { H := { ac := [17] } }
 | 5 => { H := { ty := [(32, .form)] }, pair := some ([0, 1, 2, 3, 4, 5, 6, 7, 8, 9, 11], 10, 12, []) }
 | 19 => { pair := some ([0], 1, 2, [3]) }
 | 20 => { H := { ty := [(92, .form)] } }
 | 22 => { H := { ty := [(105, .form)] } }
 | _ => {}
def text1 : List UInt8 := [40, 102, 32, 49, 32, 34, 97, 92, 110, 98, 34, 32, 40, 103, 41, 41]
def form1 : Fm := .mk 3 0 [] [.mk 1 0 [102] [], .mk 0 1 [] [], .mk 2 0 [97, 10, 98] [], .mk 3 0 [] [.mk 1 0 [103] []]]
theorem parse_run : yfunM CX (sigTab [(104, S_nextE), (105, S_touches)]) parseH 59 (mgE (.tup [.d (.slice .form), .d (.int .i64)])) (fun fn => finN CX fn (.tup [.d (.slice .form), .d (.int .i64)])) [.d .str] parseA (text1, ()) = some ([form1], (0 : Int), ()) := by kernel_rfl
end Go.Ab

set_option maxRecDepth 100000
namespace Go.Ab
open Go Go.RowKit Go.Proofs
noncomputable def S_parse1 : Sig := .n [.d .str] (.tup [.d (.slice .form), .d (.int .i64)]) (atF [.d .str] (text1, ()) ([form1], (0 : Int), ()))
theorem S_parse1_ok : SigOK CX 59 S_parse1 := sig_at (l := [(104, S_nextE), (105, S_touches)]) ⟨S_nextE_ok, S_touches_ok, trivial⟩ parse_run
noncomputable def G_readBad (x0 : Fm) : Option (Bool) := (
 Option.bind (α := Bool) (G_rvalid (Fm.eta x0)) fun r1 => (
 some (!r1)))
def A_readBad : An := .leaf
def H_readBad : Nat → RH := fun _ => {}
noncomputable def S_readBad : Sig := .n [(.d .form)] (.d .bool) (fun x => G_readBad x.1)
theorem S_readBad_ok : SigOK CX 61 S_readBad := sigN_of (l := [(34, S_rvalid)]) ⟨S_rvalid_ok, trivial⟩ (hint := H_readBad) (an := A_readBad) (fun x => by kernel_rfl)
noncomputable def G_indexBad (x0 : List Fm) (x1 : Unit) : Option (Int) := (
 Option.bind (α := Step ((Unit) × (Unit)) (Int))
 (loopM (L := ((List Fm) × Unit × Int × Int × Unit) × (Unit)) (R := Step ((Unit) × (Unit)) (Int)) (fun d1 => (
 let v0_2 := d1.1.1
 let v7_3 := d1.1.2.2.1
 let v8_4 := d1.1.2.2.2.1
 cond (decide (v8_4 < v7_3)) (cond (ixOK v8_4 v0_2.length) (Option.bind (α := Bool) (G_readBad (Fm.eta (v0_2.getD v8_4.toNat (Fm.mk 0 0 [] [])))) fun r5 => (
 cond r5 (some (Step.done (Step.done v8_4))) (some (Step.next ((v0_2, (), v7_3, IntKind.wrap .i64 (v8_4 + 1), ()), ()))))) none) (some (Step.done (Step.next ((), ())))))) ((x0, (), (x0.length : Int), 0, ()), ())) fun qd6 => match qd6 with
 | .next d6 => (
 some (-1))
 | .done r => some r)
def A_indexBad : An := .seq (.leaf) (.join true { env := [], objs := [] } (.seq (.leaf) (.block (.loop { env := [(0, (.d (.slice .form))), (1, (.c (.fn (.func 61) [] []))), (7, (.d (.int .i64))), (8, (.d (.int .i64)))], objs := [] } (.leaf)))) (.leaf))
def H_indexBad : Nat → RH := fun _ => {}
noncomputable def S_indexBad : Sig := .n [(.d (.slice .form)), (.c (.fn (.func 61) [] []))] (.d (.int .i64)) (fun x => G_indexBad x.1 x.2.1)
theorem S_indexBad_ok : SigOK CX 106 S_indexBad := sigN_of (l := [(61, S_readBad)]) ⟨S_readBad_ok, trivial⟩ (hint := H_indexBad) (an := A_indexBad) (fun x => by kernel_rfl)
noncomputable def G_containsBad1 (x0 : List Fm) (x1 : Unit) : Option (Bool) := (
 Option.bind (α := Int) (G_indexBad x0 ()) fun r1 => (
 some (decide (r1 ≥ 0))))
def A_containsBad1 : An := .leaf
def H_containsBad1 : Nat → RH := fun _ => {}
noncomputable def S_containsBad1 : Sig := .n [(.d (.slice .form)), (.c (.fn (.func 61) [] []))] (.d .bool) (fun x => G_containsBad1 x.1 x.2.1)
theorem S_containsBad1_ok : SigOK CX 60 S_containsBad1 := sigN_of (l := [(106, S_indexBad)]) ⟨S_indexBad_ok, trivial⟩ (hint := H_containsBad1) (an := A_containsBad1) (fun x => by kernel_rfl)
noncomputable def G_read1 (x0 : List UInt8) : Option ((List Fm) × Int × Unit) := (
 cond (decide ((x0.length : Int) > 60000)) (some (([] : List Fm), 2, ())) (Option.bind (α := (List Fm) × Int × Unit) (atF [.d .str] (text1, ()) (([form1], (0 : Int), ()) : List Fm × Int × Unit) (x0, ())) fun r1 => (
 cond (!decide (r1.2.1 = 0)) (some (([] : List Fm), r1.2.1, ())) (Option.bind (α := Bool) (G_containsBad1 r1.1 ()) fun r2 => (
 cond r2 (some (([] : List Fm), 2, ())) (some (r1.1, 0, ())))))))
def A_read1 : An := .leaf
def H_read1 : Nat → RH := fun _ => {}
noncomputable def S_read1 : Sig := .n [(.d .str)] (.tup [(.d (.slice .form)), (.d (.int .i64))]) (fun x => G_read1 x.1)
theorem S_read1_ok : SigOK CX 20 S_read1 := sigN_of (l := [(59, S_parse1), (60, S_containsBad1)]) ⟨S_parse1_ok, S_containsBad1_ok, trivial⟩ (hint := H_read1) (an := A_read1) (fun x => by kernel_rfl)
noncomputable def G_one1 (x0 : List UInt8) : Option (Fm × Int × Unit) := (
 Option.bind (α := (List Fm) × Int × Unit) (G_read1 x0) fun r1 => (
 cond (!decide (r1.2.1 = 0)) (some ((Fm.mk 0 0 ([]) ([] : List Fm)), r1.2.1, ())) (cond (!decide ((r1.1.length : Int) = 1)) (some ((Fm.mk 0 0 ([]) ([] : List Fm)), 4, ())) (cond (ixOK 0 r1.1.length) (some ((Fm.eta (r1.1.getD (0 : Int).toNat (Fm.mk 0 0 [] []))), 0, ())) none))))
def A_one1 : An := .leaf
def H_one1 : Nat → RH := fun _ => {}
noncomputable def S_one1 : Sig := .n [(.d .str)] (.tup [(.d .form), (.d (.int .i64))]) (fun x => G_one1 x.1)
theorem S_one1_ok : SigOK CX 22 S_one1 := sigN_of (l := [(20, S_read1)]) ⟨S_read1_ok, trivial⟩ (hint := H_one1) (an := A_one1) (fun x => by kernel_rfl)
noncomputable def G_sane01  : Option (Bool) := (
 Option.bind (α := Fm × Int × Unit) (G_one1 ([40, 102, 32, 49, 32, 34, 97, 92, 110, 98, 34, 32, 40, 103, 41, 41])) fun r1 => (
 Option.bind (α := Int) (cond (decide (r1.2.1 = 0)) (L_size (Fm.eta r1.1)) (some (0 : Int))) fun r2 => (
 Option.bind (α := Int) (cond (cond (decide (r1.2.1 = 0)) (decide (r2 = 6)) false) (L_depth (Fm.eta r1.1)) (some (0 : Int))) fun r3 => (
 Option.bind (α := List UInt8) (cond (cond (cond (decide (r1.2.1 = 0)) (decide (r2 = 6)) false) (decide (r3 = 3)) false) (G_head (Fm.eta r1.1)) (some ([] : List UInt8))) fun r4 => (
 some (cond (cond (cond (decide (r1.2.1 = 0)) (decide (r2 = 6)) false) (decide (r3 = 3)) false) (decide (r4 = [102])) false))))))
def A_sane01 : An := .leaf
def H_sane01 : Nat → RH := fun _ => {}
noncomputable def S_sane01 : Sig := .n [] (.d .bool) (fun x => G_sane01 )
theorem S_sane01_ok : SigOK CX 26 S_sane01 := sigN_of (l := [(22, S_one1), (36, S_size_l), (37, S_depth_l), (41, S_head)]) ⟨S_one1_ok, S_size_l_ok, S_depth_l_ok, S_head_ok, trivial⟩ (hint := H_sane01) (an := A_sane01) (fun x => by kernel_rfl)
end Go.Ab

set_option maxRecDepth 100000
namespace Go.Ab
open Go Go.RowKit Go.Proofs
mutual
def validS : Fm → Int → Int → Bool × Int
 | .mk k n t l, p, d => if p - 1 < 0 ∨ d = 0 ∨ leafS k n t l = false then (false, p - 1) else validLS l (p - 1) (d - 1)
def validLS : List Fm → Int → Int → Bool × Int
 | [], p, _ => (true, p)
 | f :: r, p, d => if (validS f p d).1 = true then validLS r (validS f p d).2 d else (false, (validS f p d).2)
end
def validF (f : Fm) : Bool := (validS f 20000 100).1
theorem validLS_drop {l : List Fm} {i : Nat} (h : i < l.length) (p d : Int) : validLS (l.drop i) p d = if (validS l[i] p d).1 = true then validLS (l.drop (i + 1)) (validS l[i] p d).2 d else (false, (validS l[i] p d).2) := by
 rw [List.drop_eq_getElem_cons h]; simp only [validLS]
theorem validLS_ok : ∀ (l : List Fm), (∀ f ∈ l, ∀ p d : Int, 0 ≤ p → (validS f p d).1 = true → 0 ≤ (validS f p d).2 ∧ (validS f p d).2 ≤ p) → ∀ p d : Int, 0 ≤ p → (validLS l p d).1 = true → 0 ≤ (validLS l p d).2 ∧ (validLS l p d).2 ≤ p
 | [], _, p, d, hp, _ => ⟨hp, Int.le_refl _⟩
 | f :: r, h, p, d, hp, ht => by
  simp only [validLS] at ht ⊢
  split at ht
  ·rename_i hf
   rw [if_pos hf]
   obtain ⟨h1, h2⟩ := h f (by simp) p d hp hf
   obtain ⟨h3, h4⟩ := validLS_ok r (fun g hg => h g (by simp [hg])) _ d h1 ht
   exact ⟨h3, by omega⟩
  ·cases ht
theorem validS_ok : ∀ f : Fm, ∀ p d : Int, 0 ≤ p → (validS f p d).1 = true → 0 ≤ (validS f p d).2 ∧ (validS f p d).2 ≤ p := Fm.ind fun k n t l ih p d hp ht => by
 simp only [validS] at ht ⊢
 split at ht
 ·cases ht
 ·rename_i hc
  rw [if_neg hc]
  obtain ⟨h1, h2⟩ := validLS_ok l ih (p - 1) (d - 1) (by have := fun h => hc (.inl h); omega) ht
  exact ⟨h1, by omega⟩
def cI (l : List Fm) (p d : Int) : Nat → Int
 | 0 => p
 | i + 1 => match l[i]? with
  | some f => if (validS f (cI l p d i) d).1 = true then (validS f (cI l p d i) d).2 else cI l p d i
  | none => cI l p d i
theorem cI_ok (l : List Fm) (p d : Int) (hp : 0 ≤ p) : ∀ i, 0 ≤ cI l p d i ∧ cI l p d i ≤ p
 | 0 => ⟨hp, Int.le_refl _⟩
 | i + 1 => by
  obtain ⟨h1, h2⟩ := cI_ok l p d hp i
  simp only [cI]
  split
  ·rename_i f hf
   split
   ·rename_i hv
    obtain ⟨h3, h4⟩ := validS_ok f _ d h1 hv
    exact ⟨h3, by omega⟩
   ·exact ⟨h1, h2⟩
  ·exact ⟨h1, h2⟩
theorem validS_eq (f : Fm) (p d : Int) : validS f p d = if p - 1 < 0 ∨ d = 0 ∨ leafS f.k f.n f.t f.l = false then (false, p - 1) else validLS f.l (p - 1) (d - 1) := by
 cases f; simp only [validS]; rfl
theorem valid_up : ∀ k, ∀ (f : Fm) (p d : Int), f.big ≤ 4611686018427387000 → 0 ≤ p → p ≤ 4611686018427387000 → 0 ≤ d → d ≤ 4611686018427387000 → Up (k < f.big) (G_valid k f d (p, ())) ((validS f p d).1, (((validS f p d).2, ()), ()))
 | 0 => fun f p d hb _ _ _ _ => .inr ⟨by unfold G_valid; rfl, by have := big_pos f; omega⟩
 | k + 1 => fun f p d hb hp0 hp1 hd0 hd1 => by
  have hkb := big_kids f
  have hln := length_le_big f.l
  have hmem : ∀ g ∈ f.l, g.big < f.big := fun g hg => by have := big_mem hg; omega
  rw [validS_eq]
  unfold G_valid
  simp only [Fm.eta_eq, leaf_val]
  rw [show IntKind.wrap .i64 (p - 1) = p - 1 from w64 (by omega) (by omega)]
  generalize leafS f.k f.n f.t f.l = b
  generalize f.l = l at hkb hln hmem
  by_cases h1 : p - 1 < 0
  ·simp only [h1, decide_true, cond_true, Bool.not_true, cond_false, Option.bind_some, true_or, if_true]; exact .of rfl
  ·by_cases h2 : d = 0
   ·simp only [h1, h2, decide_false, decide_true, cond_true, cond_false, Bool.not_true, Option.bind_some, true_or, or_true, if_true]; exact .of rfl
   ·cases b with
    | false => simp only [h1, h2, decide_false, cond_true, cond_false, Bool.not_false, Option.bind_some, or_true, if_true]; exact .of rfl
    | true =>
     simp only [h1, h2, decide_false, cond_true, cond_false, Bool.not_false, Bool.not_true, Option.bind_some, Bool.true_eq_false, or_false, if_false]
     refine loop_ix (fun i => (((), d, l, (l.length : Int), (i : Int), ()), ((cI l (p - 1) (d - 1) i, ()), ()))) (fun i => ((validLS (l.drop i) (cI l (p - 1) (d - 1) i) (d - 1)).1, (((validLS (l.drop i) (cI l (p - 1) (d - 1) i) (d - 1)).2, ()), ()))) l.length (fun i hi => ?_) ?_
     ·have e1 : decide ((i : Int) < (l.length : Int)) = true := by simp [hi]
      have e2 : ixOK (i : Int) l.length = true := ixOK_iff.2 (by omega)
      obtain ⟨c1, c2⟩ := cI_ok l (p - 1) (d - 1) (by omega) i
      have hg := hmem _ (List.getElem_mem hi)
      simp only [e1, e2, cond_true, Int.toNat_natCast, getD_in hi, Fm.eta_eq, wrapN (show i < 4611686018427387904 by omega), validLS_drop hi, w64 (show -9223372036854775808 ≤ d - 1 by omega) (by omega)]
      have hcI : cI l (p - 1) (d - 1) (i + 1) = if (validS l[i] (cI l (p - 1) (d - 1) i) (d - 1)).1 = true then (validS l[i] (cI l (p - 1) (d - 1) i) (d - 1)).2 else cI l (p - 1) (d - 1) i := by
       simp only [cI, List.getElem?_eq_getElem hi]
      rcases valid_up k l[i] (cI l (p - 1) (d - 1) i) (d - 1) (by omega) c1 (by omega) (by omega) (by omega) with h | ⟨h, hn⟩
      ·rw [h]
       simp only [Option.bind_some]
       by_cases hv : (validS l[i] (cI l (p - 1) (d - 1) i) (d - 1)).1 = true
       ·rw [if_pos hv] at hcI
        refine .inl ⟨?_, ?_⟩
        ·rw [hcI, hv]; rfl
        ·rw [if_pos hv, hcI]
       ·have hv' : (validS l[i] (cI l (p - 1) (d - 1) i) (d - 1)).1 = false := by simpa using hv
        refine .inr (.inl ⟨.done (false, (((validS l[i] (cI l (p - 1) (d - 1) i) (d - 1)).2, ()), ())), by rw [hv']; rfl, .of ?_⟩)
        rw [if_neg hv]
      ·rw [h]; exact .inr (.inr ⟨rfl, by omega⟩)
     ·refine ⟨.next ((), ((cI l (p - 1) (d - 1) l.length, ()), ())), by simp, .of ?_⟩
      simp [validLS]
theorem valid_val {f : Fm} {p d : Int} (hb : f.big ≤ 4611686018427387000) (h1 : 0 ≤ p) (h2 : p ≤ 4611686018427387000) (h3 : 0 ≤ d) (h4 : d ≤ 4611686018427387000) : L_valid f d (p, ()) = some ((validS f p d).1, (((validS f p d).2, ()), ())) := limF_up (b := f.big) fun k => valid_up k f p d hb h1 h2 h3 h4
theorem rvalid_val {f : Fm} (hb : f.big ≤ 4611686018427387000) : G_rvalid f = some (validF f) := by
 unfold G_rvalid
 rw [Fm.eta_eq, valid_val hb (by omega) (by omega) (by omega) (by omega)]
 rfl
theorem head_val (f : Fm) : G_head f = some (match (if f.k = 3 then f.l else []) with | [] => [] | g :: _ => if g.k = 1 then g.t else []) := by
 unfold G_head
 simp only [Fm.eta_eq, kids_val, Option.bind_some]
 generalize (if f.k = 3 then f.l else []) = l
 cases l with
 | nil => simp [ixOK]
 | cons g r =>
  have e : ixOK 0 (g :: r).length = true := ixOK_iff.2 (by simp only [List.length_cons]; omega)
  have e2 : decide (((g :: r).length : Int) > 0) = true := by simp only [List.length_cons]; simp
  simp only [e, e2, Bool.true_or, cond_true]
  show cond (decide (g.k = 1)) (some g.t) (some []) = _
  by_cases h : g.k = 1 <;> simp [h]
theorem one1_val : G_one1 text1 = some (form1, 0, ()) := by
 have hbig : form1.big ≤ 4611686018427387000 := by decide
 have hv : validF form1 = true := by kernel_rfl
 have hb : G_containsBad1 [form1] () = some false := by
  unfold G_containsBad1 G_indexBad
  rw [loopM_next (l' := (([form1], (), 1, 1, ()), ())) (by
   show (Option.bind (α := Bool) (G_readBad (Fm.eta form1)) fun r5 => _) = _
   unfold G_readBad
   rw [Fm.eta_eq, Fm.eta_eq, rvalid_val hbig, hv]
   rfl), loopM_done (r := .next ((), ())) (by rfl)]
  rfl
 unfold G_one1 G_read1
 have e1 : decide ((text1.length : Int) > 60000) = false := by decide
 have e2 : (atF [.d .str] (text1, ()) (([form1], (0 : Int), ()) : List Fm × Int × Unit) (text1, ())) = some ([form1], (0 : Int), ()) := by kernel_rfl
 rw [e1, e2]
 simp only [cond_false, Option.bind_some, decide_true, Bool.not_true, hb]
 rfl
theorem sane01_val : G_sane01 = some true := by
 have hbig : form1.big ≤ 4611686018427387000 := by decide
 unfold G_sane01
 rw [show ([40, 102, 32, 49, 32, 34, 97, 92, 110, 98, 34, 32, 40, 103, 41, 41] : List UInt8) = text1 from rfl, one1_val]
 simp only [Option.bind_some, decide_true, cond_true, Fm.eta_eq, size_val hbig, depth_val hbig, head_val]
 rfl
end Go.Ab

set_option maxRecDepth 100000
namespace Go.Ab
open Go Go.RowKit Go.Proofs
end Go.Ab
