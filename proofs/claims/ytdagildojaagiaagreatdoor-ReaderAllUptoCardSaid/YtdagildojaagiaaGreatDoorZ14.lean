/-
  FORMS: the reference's parts of a form, and a form with another part.
-/
import Derived.Test.YtdagildojaagiaaGreatDoorZ13
import Derived.Laws.Bits64b
set_option linter.unusedVariables false
set_option linter.unusedSimpArgs false
set_option maxRecDepth 100000
namespace Go.Ab
open Go Go.RowKit Go.Proofs
def badR (c : Int) : Bool := !decide (c = 10) && (decide (c < 32) || decide (126 < c))
theorem badR_call (c : Int) : PCall CX 154 [.int .i32 c] (· = .ret (.bool (badR c))) := by
 refine pcall_mk 0 13 [.tmp 2] Tryz.func154 rfl (by decide) rfl rfl rfl ?_
 refine aw_sreg {} rfl rfl fun K KP hK hP => ?_
 simp only [go_sem, ↓reduceIte]
 apply hK; clear hK hP
 by_cases c1_0 : c = 10
 ·
  refine aw_sreg {} rfl rfl fun K KP hK hP => ?_
  simp only [go_sem, ↓reduceIte, c1_0]
  apply hK; clear hK hP
  refine aw_ret ?_
  simp only [go_sem, ↓reduceIte, c1_0, athen_ret] <;> (
   simp [badR])
 ·
  by_cases c1_1 : c < 32
  ·
   refine aw_sreg {} rfl rfl fun K KP hK hP => ?_
   simp only [go_sem, ↓reduceIte, c1_0, c1_1]
   apply hK; clear hK hP
   refine aw_ret ?_
   simp only [go_sem, ↓reduceIte, c1_0, c1_1, athen_ret] <;> (
    simp [badR, c1_0, c1_1])
  ·
   refine aw_sreg {} rfl rfl fun K KP hK hP => ?_
   simp only [go_sem, ↓reduceIte, c1_0, c1_1]
   apply hK; clear hK hP
   refine aw_ret ?_
   simp only [go_sem, ↓reduceIte, c1_0, c1_1, athen_ret] <;> (
    simp [badR, c1_0, c1_1])
def idxR (p : Int → Bool) (s : List UInt8) : Nat → Nat → Int
 | 0, _ => -1
 | f + 1, pos => if pos < s.length then (if p (Utf8.decode ⟨s.toArray⟩ pos).1 = true then pos else idxR p s f (pos + (Utf8.decode ⟨s.toArray⟩ pos).2)) else -1
theorem decode_wide (b : ByteArray) (i : Nat) : 1 ≤ (Utf8.decode b i).2 := by
 unfold Utf8.decode
 simp only
 repeat' split
 all_goals simp
theorem indexFunc_call (p : Int → Bool) (g : FuncId) (hg : ∀ c, PCall CX g [.int .i32 c] (· = .ret (.bool (p c)))) (s : List UInt8) : PCall CX 206 [.str s, .fn (.func g) [] [], .bool true] (· = .ret (.int .i64 (idxR p s (s.length + 1) 0))) := by
 refine pcall_mk 0 21 [.tmp 6] Tryz.func206 rfl (by decide) rfl rfl rfl ?_
 refine aw_sreg {} rfl rfl fun K KP hK hP => ?_
 simp only [go_sem, ↓reduceIte]
 apply hK; clear hK hP
 refine aw_seq ?_
 refine aw_sreg {} rfl rfl fun K KP hK hP => ?_
 simp only [go_sem, ↓reduceIte]
 apply hK; clear hK hP
 refine aw_block ?_
 refine aw_loop' (fun dd st => ∃ (pos f : Nat), (s.length < pos + f) ∧ (idxR p s f pos = idxR p s (s.length + 1) 0) ∧ f = dd ∧ [(0, .siter s pos)] = st.σ ∧ st.env 0 = .str s ∧ st.env 1 = .fn (.func g) [] [] ∧ st.env 2 = .bool true ∧ st.env 10 = .ref 0 0 0) (fun dd st hJ => ?_) ?_
 ·
  obtain ⟨env0, σ0, nx0⟩ := st
  obtain ⟨pos, f, hp0_0, hp0_1, hd0, hs0, e0_0, e0_1, e0_2, e0_10⟩ := hJ
  dsimp only at hs0  e0_0 e0_1 e0_2 e0_10
  subst hd0; subst hs0
  refine aw_forget' 1 rfl ?_
  by_cases c2 : pos < s.length
  ·
   refine aw_sreg {} rfl rfl fun K KP hK hP => ?_
   simp only [go_sem, ↓reduceIte, e0_0, e0_1, e0_2, e0_10, c2]
   apply hK; clear hK hP
   refine aw_seq ?_
   refine aw_if (True) (by simp only [go_sem, ↓reduceIte, e0_0, e0_1, e0_2, e0_10, c2]) (fun h2 => ?_) (fun h2 => ?_)
   ·
    refine aw_skip ?_
    refine athen_normal.2 ?_
    refine aw_block ?_
    refine aw_sreg {} rfl rfl fun K KP hK hP => ?_
    simp only [go_sem, ↓reduceIte, e0_0, e0_1, e0_2, e0_10, c2]
    apply hK; clear hK hP
    refine aw_sreg {} rfl rfl fun K KP hK hP => ?_
    simp only [go_sem, ↓reduceIte, e0_0, e0_1, e0_2, e0_10, c2]
    refine CallP.ret (hg _) (by simp only [go_sem]) ?_
    try simp only [go_sem, ↓reduceIte, e0_0, e0_1, e0_2, e0_10, c2]
    apply hK; clear hK hP
    refine aw_if (p (Utf8.decode ⟨s.toArray⟩ pos).1 = true) (by simp only [go_sem, ↓reduceIte, e0_0, e0_1, e0_2, e0_10, c2]) (fun h4 => ?_) (fun h4 => ?_)
    ·
     refine aw_sreg {} rfl rfl fun K KP hK hP => ?_
     simp only [go_sem, ↓reduceIte, e0_0, e0_1, e0_2, e0_10, c2]
     apply hK; clear hK hP
     refine aw_ret ?_
     refine ablock_ret.2 ?_
     refine afor_one ?_
     refine athen_ret.2 ?_
     refine ablock_ret.2 ?_
     refine athen_ret.2 ?_
     simp only [go_sem, ↓reduceIte, e0_0, e0_1, e0_2, e0_10, c2, athen_ret] <;> (
      rw [← hp0_1]
      cases f with
      | zero => omega
      | succ f => simp only [idxR, c2, if_true, h4])
    ·
     refine aw_skip ?_
     refine ablock_normal.2 ?_
     refine afor_one ?_
     refine athen_normal.2 ?_
     refine ⟨_, ?_, (pos + (Utf8.decode ⟨s.toArray⟩ pos).2), (f - 1), ?_, ?_, rfl, rfl, ?_, ?_, ?_, ?_⟩
     ·have := decode_wide ⟨s.toArray⟩ pos
      omega
     ·have := decode_wide ⟨s.toArray⟩ pos
      omega
     ·rw [← hp0_1]
      cases f with
      | zero => omega
      | succ f => simp only [idxR, c2, if_true, h4, Nat.add_sub_cancel, if_false]; rfl
     ·simp only [go_sem, ↓reduceIte, e0_0, e0_1, e0_2, e0_10, c2] <;> try rfl
     ·simp only [go_sem, ↓reduceIte, e0_0, e0_1, e0_2, e0_10, c2] <;> try rfl
     ·simp only [go_sem, ↓reduceIte, e0_0, e0_1, e0_2, e0_10, c2] <;> try rfl
     ·simp only [go_sem, ↓reduceIte, e0_0, e0_1, e0_2, e0_10, c2] <;> try rfl
   ·
    exact absurd trivial h2
  ·
   refine aw_sreg {} rfl rfl fun K KP hK hP => ?_
   simp only [go_sem, ↓reduceIte, e0_0, e0_1, e0_2, e0_10, c2]
   apply hK; clear hK hP
   refine aw_seq ?_
   refine aw_if (False) (by simp only [go_sem, ↓reduceIte, e0_0, e0_1, e0_2, e0_10, c2]) (fun h2 => ?_) (fun h2 => ?_)
   ·
    exact h2.elim
   ·
    refine aw_exit ?_
    refine athen_exit.2 ?_
    refine afor_one ?_
    refine athen_exit.2 ?_
    refine ablock_here ?_
    refine athen_normal.2 ?_
    refine aw_sreg {} rfl rfl fun K KP hK hP => ?_
    simp only [go_sem, ↓reduceIte, e0_0, e0_1, e0_2, e0_10, c2]
    apply hK; clear hK hP
    refine aw_ret ?_
    simp only [go_sem, ↓reduceIte, e0_0, e0_1, e0_2, e0_10, c2, athen_ret] <;> (
     rw [← hp0_1]
     cases f with
     | zero => rfl
     | succ f => simp only [idxR, c2, if_false])
 ·
  refine ⟨_, 0, s.length + 1, ?_, ?_, rfl, ?_, ?_, ?_, ?_, ?_⟩
  ·first | omega | trivial | assumption
  ·first | omega | trivial | assumption
  ·first | rfl | (simp only [go_sem, ↓reduceIte])
  ·simp only [go_sem, ↓reduceIte] <;> try rfl
  ·simp only [go_sem, ↓reduceIte] <;> try rfl
  ·simp only [go_sem, ↓reduceIte] <;> try rfl
  ·simp only [go_sem, ↓reduceIte] <;> try rfl
theorem indexFunc2_call (p : Int → Bool) (g : FuncId) (hg : ∀ c, PCall CX g [.int .i32 c] (· = .ret (.bool (p c)))) (s : List UInt8) : PCall CX 174 [.str s, .fn (.func g) [] []] (· = .ret (.int .i64 (idxR p s (s.length + 1) 0))) := by
 refine pcall_mk 0 8 [.tmp 4] Tryz.func174 rfl (by decide) rfl rfl rfl ?_
 refine aw_sreg {} rfl rfl fun K KP hK hP => ?_
 simp only [go_sem, ↓reduceIte]
 apply hK; clear hK hP
 refine aw_sreg {} rfl rfl fun K KP hK hP => ?_
 simp only [go_sem, ↓reduceIte]
 refine CallP.ret (indexFunc_call p g hg s) (by simp only [go_sem]) ?_
 try simp only [go_sem, ↓reduceIte]
 apply hK; clear hK hP
 refine aw_ret ?_
 simp only [go_sem, ↓reduceIte, athen_ret]
theorem containsFunc_call (p : Int → Bool) (g : FuncId) (hg : ∀ c, PCall CX g [.int .i32 c] (· = .ret (.bool (p c)))) (s : List UInt8) : PCall CX 155 [.str s, .fn (.func g) [] []] (· = .ret (.bool (decide (0 ≤ idxR p s (s.length + 1) 0)))) := by
 refine pcall_mk 0 9 [.tmp 4] Tryz.func155 rfl (by decide) rfl rfl rfl ?_
 refine aw_sreg {} rfl rfl fun K KP hK hP => ?_
 simp only [go_sem, ↓reduceIte]
 apply hK; clear hK hP
 refine aw_sreg {} rfl rfl fun K KP hK hP => ?_
 simp only [go_sem, ↓reduceIte]
 refine CallP.ret (indexFunc2_call p g hg s) (by simp only [go_sem]) ?_
 try simp only [go_sem, ↓reduceIte]
 apply hK; clear hK hP
 refine aw_ret ?_
 simp only [go_sem, ↓reduceIte, athen_ret]
def badT (t : List UInt8) : Bool := decide (0 ≤ idxR badR t (t.length + 1) 0)
noncomputable def S_containsBad : Sig := .n [.d .str, .c (.fn (.func 154) [] [])] (.d .bool) (fun x => some (badT x.1))
theorem S_containsBad_ok : SigOK CX 155 S_containsBad := fun x r h => by cases h; exact containsFunc_call badR _ badR_call x.1
end Go.Ab

set_option maxRecDepth 100000
namespace Go.Ab
open Go Go.RowKit Go.Proofs
def within (n : Int) : Bool := decide (-1152921504606846976 ≤ n) && decide (n ≤ 1152921504606846976)
end Go.Ab

set_option maxRecDepth 100000
namespace Go.Ab
open Go Go.RowKit Go.Proofs
noncomputable def G_refSize (k : Nat) (x0 : Fm) : Option (Int) := match k with
| 0 => none
| k + 1 => (
 Option.bind (α := (Int × Unit) × (Unit))
 (loopM (L := ((Int × Int × (List UInt8) × (List Fm) × Unit) × Int × Int × Unit) × (Unit)) (R := (Int × Unit) × (Unit)) (fun d1 => (
 let v3_2 := d1.1.2.1
 let v4_3 := d1.1.2.2.1
 cond (cond (decide (d1.1.1.1 = 3)) (decide (v4_3 < (d1.1.1.2.2.2.1.length : Int))) false) (cond (ixOK v4_3 d1.1.1.2.2.2.1.length) (Option.bind (α := Int) (G_refSize k (Fm.eta (d1.1.1.2.2.2.1.getD v4_3.toNat (Fm.mk 0 0 [] [])))) fun r4 => (
 some (Step.next (((d1.1.1.1, d1.1.1.2.1, d1.1.1.2.2.1, d1.1.1.2.2.2.1, ()), IntKind.wrap .i64 (v3_2 + r4), IntKind.wrap .i64 (v4_3 + 1), ()), ())))) none) (some (Step.done ((v3_2, ()), ()))))) (((x0.k, x0.n, x0.t, x0.l, ()), 1, 0, ()), ())) fun d5 => (
 let v3_6 := d5.1.1
 some v3_6))
def A_refSize : An := .seq (.leaf) (.seq (.leaf) (.join false { env := [(3, (.d (.int .i64)))], objs := [] } (.seq (.leaf) (.block (.loop { env := [(1, (.rptr [(.d (.int .i64)), (.d (.int .i64)), (.d .str), (.d (.slice .form))])), (3, (.d (.int .i64))), (4, (.d (.int .i64)))], objs := [] } (.leaf)))) (.leaf)))
def H_refSize : Nat → RH := fun _ => {}
noncomputable def S_refSize (k : Nat) : Sig := .n [(.d .form)] (.d (.int .i64)) (fun x => G_refSize k x.1)
theorem S_refSize_rec : ∀ k, SigOK CX 10 (S_refSize k)
| 0 => fun x r h => by cases h
| k + 1 => by
 have ih := S_refSize_rec k
 exact sigN_of (l := [(10, (S_refSize k))]) ⟨ih, trivial⟩ (hint := H_refSize) (an := A_refSize) (fun x => by kernel_rfl)
theorem S_refSize_ok : ∀ k, SigOK CX 10 (S_refSize k) := fun k => S_refSize_rec k
noncomputable def L_refSize (x0 : Fm) : Option (Int) := limF fun k => G_refSize k x0
noncomputable def S_refSize_l : Sig := .n [(.d .form)] (.d (.int .i64)) (fun x => L_refSize x.1)
theorem S_refSize_l_ok : SigOK CX 10 S_refSize_l := SigOK.limN S_refSize_ok fun x r h => limF_ex h
noncomputable def G_leaf (x0 : Fm) : Option (Bool) := (
 Option.bind (α := Step ((Unit) × (Unit)) (Bool))
 (cond (decide (x0.k = 0)) (some (Step.done (cond (cond (cond (decide (x0.t = [])) (decide ((x0.l.length : Int) = 0)) false) (decide (x0.n ≥ (-1152921504606846976))) false) (decide (x0.n ≤ 1152921504606846976)) false))) (cond (decide (x0.k = 1)) (Option.bind (α := Bool) (cond (cond (!decide (x0.t = [])) (decide ((x0.t.length : Int) ≤ 30)) false) (numericF (x0.t)) (some false)) fun r1 => (
 Option.bind (α := ((Int × Int × (List UInt8) × (List Fm) × Unit) × Bool × Unit) × (Unit))
 (loopM (L := ((Int × Int × (List UInt8) × (List Fm) × Unit) × Bool × Int × Unit) × (Unit)) (R := ((Int × Int × (List UInt8) × (List Fm) × Unit) × Bool × Unit) × (Unit)) (fun d2 => (
 let v3_3 := d2.1.2.1
 let v4_4 := d2.1.2.2.1
 cond (cond (decide (v4_4 < (d2.1.1.2.2.1.length : Int))) v3_3 false) (cond (ixOK v4_4 d2.1.1.2.2.1.length) (Option.bind (α := Bool) (outsideF (byteAt d2.1.1.2.2.1 v4_4)) fun r5 => (
 some (Step.next (((d2.1.1.1, d2.1.1.2.1, d2.1.1.2.2.1, d2.1.1.2.2.2.1, ()), !r5, IntKind.wrap .i64 (v4_4 + 1), ()), ())))) none) (some (Step.done (((d2.1.1.1, d2.1.1.2.1, d2.1.1.2.2.1, d2.1.1.2.2.2.1, ()), v3_3, ()), ()))))) (((x0.k, x0.n, x0.t, x0.l, ()), cond (cond (!decide (x0.t = [])) (decide ((x0.t.length : Int) ≤ 30)) false) (!r1) false, 0, ()), ())) fun d6 => (
 let v3_7 := d6.1.2.1
 some (Step.done (cond (cond v3_7 (decide (d6.1.1.2.1 = 0)) false) (decide ((d6.1.1.2.2.2.1.length : Int) = 0)) false))))) (cond (decide (x0.k = 2)) (Option.bind (α := Bool) (cond (decide ((x0.t.length : Int) ≤ 2000)) (some (badT (x0.t))) (some false)) fun r8 => (
 some (Step.done (cond (cond (cond (decide ((x0.t.length : Int) ≤ 2000)) (!r8) false) (decide (x0.n = 0)) false) (decide ((x0.l.length : Int) = 0)) false)))) (cond (decide (x0.k = 3)) (some (Step.done (cond (decide (x0.t = [])) (decide (x0.n = 0)) false))) (some (Step.next ((), ()))))))) fun qd9 => match qd9 with
 | .next d9 => (
 some false)
 | .done r => some r)
def A_leaf : An := .seq (.leaf) (.join true { env := [], objs := [] } (.seq (.leaf) (.block (.seq (.leaf) (.cond (.leaf) (.seq (.leaf) (.cond (.seq (.leaf) (.join false { env := [(1, (.rptr [(.d (.int .i64)), (.d (.int .i64)), (.d .str), (.d (.slice .form))])), (3, (.d .bool))], objs := [] } (.seq (.leaf) (.block (.loop { env := [(1, (.rptr [(.d (.int .i64)), (.d (.int .i64)), (.d .str), (.d (.slice .form))])), (3, (.d .bool)), (4, (.d (.int .i64)))], objs := [] } (.leaf)))) (.leaf))) (.leaf))))))) (.leaf))
def H_leaf : Nat → RH := fun _ => {}
noncomputable def S_leaf : Sig := .n [(.d .form)] (.d .bool) (fun x => G_leaf x.1)
theorem S_leaf_ok : SigOK CX 123 S_leaf := sigN_of (l := [(140, S_numeric), (139, S_outside), (155, S_containsBad)]) ⟨S_numeric_ok, S_outside_ok, S_containsBad_ok, trivial⟩ (hint := H_leaf) (an := A_leaf) (fun x => by kernel_rfl)
noncomputable def G_valid (k : Nat) (x0 : Fm) (x2 : Int) (o0 : Int × Unit) : Option ((Bool) × ((Int × Unit) × Unit)) := match k with
| 0 => none
| k + 1 => (
 Option.bind (α := Bool) (cond (!(cond (decide (IntKind.wrap .i64 (o0.1 - 1) < 0)) true (decide (x2 = 0)))) (G_leaf (Fm.eta x0)) (some false)) fun r1 => (
 cond (cond (cond (decide (IntKind.wrap .i64 (o0.1 - 1) < 0)) true (decide (x2 = 0))) true (!r1)) (some (false, ((IntKind.wrap .i64 (o0.1 - 1), ()), ()))) (Option.bind (α := Step ((Unit) × ((Int × Unit) × Unit)) ((Bool) × ((Int × Unit) × Unit)))
 (loopM (L := (Unit × Int × (List Fm) × Int × Int × Unit) × ((Int × Unit) × Unit)) (R := Step ((Unit) × ((Int × Unit) × Unit)) ((Bool) × ((Int × Unit) × Unit))) (fun d2 => (
 let c3 := d2.2.1.1
 let v2_4 := d2.1.2.1
 let v28_5 := d2.1.2.2.1
 let v29_6 := d2.1.2.2.2.1
 let v30_7 := d2.1.2.2.2.2.1
 cond (decide (v30_7 < v29_6)) (cond (ixOK v30_7 v28_5.length) (Option.bind (α := (Bool) × ((Int × Unit) × Unit)) (G_valid k (Fm.eta (v28_5.getD v30_7.toNat (Fm.mk 0 0 [] []))) (IntKind.wrap .i64 (v2_4 - 1)) (c3, ())) fun r8 => (
 cond (!r8.1) (some (Step.done (Step.done (false, ((r8.2.1.1, ()), ()))))) (some (Step.next (((), v2_4, v28_5, v29_6, IntKind.wrap .i64 (v30_7 + 1), ()), ((r8.2.1.1, ()), ())))))) none) (some (Step.done (Step.next ((), ((c3, ()), ()))))))) (((), x2, x0.l, (x0.l.length : Int), 0, ()), ((IntKind.wrap .i64 (o0.1 - 1), ()), ()))) fun qd9 => match qd9 with
 | .next d9 => (
 let c10 := d9.2.1.1
 some (true, ((c10, ()), ())))
 | .done r => some r)))
def A_valid : An := .seq (.leaf) (.seq (.leaf) (.seq (.leaf) (.join true { env := [], objs := [(true, .cells 3 [(.d (.int .i64))])] } (.seq (.leaf) (.block (.loop { env := [(1, (.ref 0 0)), (2, (.d (.int .i64))), (28, (.d (.slice .form))), (29, (.d (.int .i64))), (30, (.d (.int .i64)))], objs := [(true, .cells 3 [(.d (.int .i64))])] } (.leaf)))) (.leaf))))
def H_valid : Nat → RH := fun r => match r with
 | 7 => { H := { ac := [38] } }
 | _ => {}
noncomputable def S_valid (k : Nat) : Sig := .o { pre := [(false, .cells 3 [(.d (.int .i64))])], args := [(.d .form), (.ref 0 0), (.d (.int .i64))], post := [(true, .cells 3 [(.d (.int .i64))])], res := (.d .bool), f := fun x => G_valid k x.1.1 x.1.2.2.1 x.2.1 }
theorem S_valid_ok : ∀ k, SigOK CX 78 (S_valid k)
| 0 => ⟨by kernel_rfl, fun x r h => by cases h⟩
| k + 1 => by
 have ih := S_valid_ok k
 exact sigO_of (l := [(123, S_leaf), (78, (S_valid k))]) ⟨S_leaf_ok, ih, trivial⟩ (hint := H_valid) (an := A_valid) (by kernel_rfl) (fun x => by kernel_rfl)
noncomputable def L_valid (x0 : Fm) (x2 : Int) (o0 : Int × Unit) : Option ((Bool) × ((Int × Unit) × Unit)) := limF fun k => G_valid k x0 x2 o0
noncomputable def S_valid_l : Sig := .o { pre := [(false, .cells 3 [(.d (.int .i64))])], args := [(.d .form), (.ref 0 0), (.d (.int .i64))], post := [(true, .cells 3 [(.d (.int .i64))])], res := (.d .bool), f := fun x => L_valid x.1.1 x.1.2.2.1 x.2.1 }
theorem S_valid_l_ok : SigOK CX 78 S_valid_l := SigOK.limO S_valid_ok fun x r h => limF_ex h
noncomputable def G_rvalid (x0 : Fm) : Option (Bool) := (
 Option.bind (α := (Bool) × ((Int × Unit) × Unit)) (L_valid (Fm.eta x0) 100 (20000, ())) fun r1 => (
 some r1.1))
def A_rvalid : An := .leaf
def H_rvalid : Nat → RH := fun r => match r with
 | 2 => { H := { ac := [5] } }
 | _ => {}
noncomputable def S_rvalid : Sig := .n [(.d .form)] (.d .bool) (fun x => G_rvalid x.1)
theorem S_rvalid_ok : SigOK CX 34 S_rvalid := sigN_of (l := [(78, S_valid_l)]) ⟨S_valid_l_ok, trivial⟩ (hint := H_rvalid) (an := A_rvalid) (fun x => by kernel_rfl)
noncomputable def G_visible (x0 : Int) : Option (Bool) := (
 some (cond (cond (cond (cond (cond (decide (x0 ≥ 33)) (decide (x0 ≤ 126)) false) (!decide (x0 = 40)) false) (!decide (x0 = 41)) false) (!decide (x0 = 34)) false) (!decide (x0 = 59)) false))
def A_visible : An := .leaf
def H_visible : Nat → RH := fun _ => {}
noncomputable def S_visible : Sig := .n [(.d (.int .u8))] (.d .bool) (fun x => G_visible x.1)
theorem S_visible_ok : SigOK CX 109 S_visible := sigN_of (l := []) trivial (hint := H_visible) (an := A_visible) (fun x => by kernel_rfl)
noncomputable def G_digits (x0 : List UInt8) : Option (Bool) := (
 Option.bind (α := ((List UInt8) × Unit) × (Unit))
 (cond ((ixOK 0 x0.length) || !(decide ((x0.length : Int) > 1))) (cond (cond (decide ((x0.length : Int) > 1)) (decide (byteAt x0 0 = 45)) false) (cond (slOK 1 (x0.length : Int) x0.length) (some (((x0.drop (1 : Int).toNat).take ((x0.length : Int).toNat - (1 : Int).toNat), ()), ())) none) (some ((x0, ()), ()))) none) fun d1 => (
 let v0_2 := d1.1.1
 Option.bind (α := Step (((List UInt8) × Unit) × (Unit)) (Bool))
 (loopM (L := ((List UInt8) × Int × Unit) × (Unit)) (R := Step (((List UInt8) × Unit) × (Unit)) (Bool)) (fun d3 => (
 let v0_4 := d3.1.1
 let v3_5 := d3.1.2.1
 cond (decide (v3_5 < (v0_4.length : Int))) (cond (ixOK v3_5 v0_4.length) (cond ((ixOK v3_5 v0_4.length) || !(!(decide (byteAt v0_4 v3_5 < 48)))) (cond (cond (decide (byteAt v0_4 v3_5 < 48)) true (decide (byteAt v0_4 v3_5 > 57))) (some (Step.done (Step.done false))) (some (Step.next ((v0_4, IntKind.wrap .i64 (v3_5 + 1), ()), ())))) none) none) (some (Step.done (Step.next ((v0_4, ()), ())))))) ((v0_2, 0, ()), ())) fun qd6 => match qd6 with
 | .next d6 => (
 let v0_7 := d6.1.1
 some (!decide (v0_7 = [])))
 | .done r => some r))
def A_digits : An := .seq (.leaf) (.join false { env := [(0, (.d .str))], objs := [] } (.leaf) (.join true { env := [(0, (.d .str))], objs := [] } (.seq (.leaf) (.block (.loop { env := [(0, (.d .str)), (3, (.d (.int .i64)))], objs := [] } (.leaf)))) (.leaf)))
def H_digits : Nat → RH := fun _ => {}
noncomputable def S_digits : Sig := .n [(.d .str)] (.d .bool) (fun x => G_digits x.1)
theorem S_digits_ok : SigOK CX 142 S_digits := sigN_of (l := []) trivial (hint := H_digits) (an := A_digits) (fun x => by kernel_rfl)
noncomputable def G_isWord (x0 : List UInt8) : Option (Bool) := (
 Option.bind (α := Step (((List UInt8) × Unit) × (Unit)) (Bool))
 (loopM (L := ((List UInt8) × Int × Unit) × (Unit)) (R := Step (((List UInt8) × Unit) × (Unit)) (Bool)) (fun d1 => (
 let v0_2 := d1.1.1
 let v3_3 := d1.1.2.1
 cond (decide (v3_3 < (v0_2.length : Int))) (cond (ixOK v3_3 v0_2.length) (Option.bind (α := Bool) (G_visible (byteAt v0_2 v3_3)) fun r4 => (
 cond (!r4) (some (Step.done (Step.done false))) (some (Step.next ((v0_2, IntKind.wrap .i64 (v3_3 + 1), ()), ()))))) none) (some (Step.done (Step.next ((v0_2, ()), ())))))) ((x0, 0, ()), ())) fun qd5 => match qd5 with
 | .next d5 => (
 let v0_6 := d5.1.1
 Option.bind (α := Bool) (cond (cond (decide ((v0_6.length : Int) ≥ 1)) (decide ((v0_6.length : Int) ≤ 30)) false) (G_digits v0_6) (some false)) fun r7 => (
 some (cond (cond (decide ((v0_6.length : Int) ≥ 1)) (decide ((v0_6.length : Int) ≤ 30)) false) (!r7) false)))
 | .done r => some r)
def A_isWord : An := .seq (.leaf) (.join true { env := [(0, (.d .str))], objs := [] } (.seq (.leaf) (.block (.loop { env := [(0, (.d .str)), (3, (.d (.int .i64)))], objs := [] } (.leaf)))) (.leaf))
def H_isWord : Nat → RH := fun _ => {}
noncomputable def S_isWord : Sig := .n [(.d .str)] (.d .bool) (fun x => G_isWord x.1)
theorem S_isWord_ok : SigOK CX 124 S_isWord := sigN_of (l := [(109, S_visible), (142, S_digits)]) ⟨S_visible_ok, S_digits_ok, trivial⟩ (hint := H_isWord) (an := A_isWord) (fun x => by kernel_rfl)
noncomputable def G_isText (x0 : List UInt8) : Option (Bool) := (
 Option.bind (α := Step (((List UInt8) × Unit) × (Unit)) (Bool))
 (loopM (L := ((List UInt8) × Int × Unit) × (Unit)) (R := Step (((List UInt8) × Unit) × (Unit)) (Bool)) (fun d1 => (
 let v0_2 := d1.1.1
 let v3_3 := d1.1.2.1
 cond (decide (v3_3 < (v0_2.length : Int))) (cond (ixOK v3_3 v0_2.length) (cond ((ixOK v3_3 v0_2.length) || !(!decide (byteAt v0_2 v3_3 = 10))) (cond ((ixOK v3_3 v0_2.length) || !((!decide (byteAt v0_2 v3_3 = 10)) && !(decide (byteAt v0_2 v3_3 < 32)))) (cond (cond (!decide (byteAt v0_2 v3_3 = 10)) (cond (decide (byteAt v0_2 v3_3 < 32)) true (decide (byteAt v0_2 v3_3 > 126))) false) (some (Step.done (Step.done false))) (some (Step.next ((v0_2, IntKind.wrap .i64 (v3_3 + 1), ()), ())))) none) none) none) (some (Step.done (Step.next ((v0_2, ()), ())))))) ((x0, 0, ()), ())) fun qd4 => match qd4 with
 | .next d4 => (
 let v0_5 := d4.1.1
 some (decide ((v0_5.length : Int) ≤ 2000)))
 | .done r => some r)
def A_isText : An := .seq (.leaf) (.join true { env := [(0, (.d .str))], objs := [] } (.seq (.leaf) (.block (.loop { env := [(0, (.d .str)), (3, (.d (.int .i64)))], objs := [] } (.leaf)))) (.leaf))
def H_isText : Nat → RH := fun _ => {}
noncomputable def S_isText : Sig := .n [(.d .str)] (.d .bool) (fun x => G_isText x.1)
theorem S_isText_ok : SigOK CX 125 S_isText := sigN_of (l := []) trivial (hint := H_isText) (an := A_isText) (fun x => by kernel_rfl)
noncomputable def G_fields (k : Nat) (x0 : Fm) : Option (Bool) := match k with
| 0 => none
| k + 1 => (
 cond (cond (cond (cond (!decide (x0.k = 0)) (!decide (x0.n = 0)) false) true (cond (!decide (x0.k = 3)) (decide ((x0.l.length : Int) > 0)) false)) true (cond (cond (!decide (x0.k = 1)) (!decide (x0.k = 2)) false) (!decide (x0.t = [])) false)) (some false) (Option.bind (α := Step ((Unit) × (Unit)) (Bool))
 (cond (decide (x0.k = 0)) (some (Step.done (cond (decide (x0.n ≥ (-1152921504606846976))) (decide (x0.n ≤ 1152921504606846976)) false))) (cond (decide (x0.k = 1)) (Option.bind (α := Bool) (G_isWord x0.t) fun r1 => (
 some (Step.done r1))) (cond (decide (x0.k = 2)) (Option.bind (α := Bool) (G_isText x0.t) fun r2 => (
 some (Step.done r2))) (cond (decide (x0.k = 3)) (Option.bind (α := Step ((Unit) × (Unit)) (Step ((Unit) × (Unit)) (Bool)))
 (loopM (L := ((Int × Int × (List UInt8) × (List Fm) × Unit) × Int × Unit) × (Unit)) (R := Step ((Unit) × (Unit)) (Step ((Unit) × (Unit)) (Bool))) (fun d3 => (
 let v3_4 := d3.1.2.1
 cond (decide (v3_4 < (d3.1.1.2.2.2.1.length : Int))) (cond (ixOK v3_4 d3.1.1.2.2.2.1.length) (Option.bind (α := Bool) (G_fields k (Fm.eta (d3.1.1.2.2.2.1.getD v3_4.toNat (Fm.mk 0 0 [] [])))) fun r5 => (
 cond (!r5) (some (Step.done (Step.done (Step.done false)))) (some (Step.next (((d3.1.1.1, d3.1.1.2.1, d3.1.1.2.2.1, d3.1.1.2.2.2.1, ()), IntKind.wrap .i64 (v3_4 + 1), ()), ()))))) none) (some (Step.done (Step.next ((), ())))))) (((x0.k, x0.n, x0.t, x0.l, ()), 0, ()), ())) fun qd6 => match qd6 with
 | .next d6 => (
 some (Step.done true))
 | .done r => some r) (some (Step.next ((), ()))))))) fun qd7 => match qd7 with
 | .next d7 => (
 some false)
 | .done r => some r))
def A_fields : An := .seq (.leaf) (.seq (.leaf) (.join true { env := [], objs := [] } (.seq (.leaf) (.block (.seq (.leaf) (.cond (.leaf) (.seq (.leaf) (.cond (.leaf) (.seq (.leaf) (.cond (.leaf) (.seq (.leaf) (.cond (.join true { env := [], objs := [] } (.seq (.leaf) (.block (.loop { env := [(1, (.rptr [(.d (.int .i64)), (.d (.int .i64)), (.d .str), (.d (.slice .form))])), (3, (.d (.int .i64)))], objs := [] } (.leaf)))) (.leaf)) (.leaf))))))))))) (.leaf)))
def H_fields : Nat → RH := fun _ => {}
noncomputable def S_fields (k : Nat) : Sig := .n [(.d .form)] (.d .bool) (fun x => G_fields k x.1)
theorem S_fields_rec : ∀ k, SigOK CX 79 (S_fields k)
| 0 => fun x r h => by cases h
| k + 1 => by
 have ih := S_fields_rec k
 exact sigN_of (l := [(124, S_isWord), (125, S_isText), (79, (S_fields k))]) ⟨S_isWord_ok, S_isText_ok, ih, trivial⟩ (hint := H_fields) (an := A_fields) (fun x => by kernel_rfl)
theorem S_fields_ok : ∀ k, SigOK CX 79 (S_fields k) := fun k => S_fields_rec k
noncomputable def L_fields (x0 : Fm) : Option (Bool) := limF fun k => G_fields k x0
noncomputable def S_fields_l : Sig := .n [(.d .form)] (.d .bool) (fun x => L_fields x.1)
theorem S_fields_l_ok : SigOK CX 79 S_fields_l := SigOK.limN S_fields_ok fun x r h => limF_ex h
noncomputable def G_refDepth (k : Nat) (x0 : Fm) : Option (Int) := match k with
| 0 => none
| k + 1 => (
 Option.bind (α := (Int × Unit) × (Unit))
 (loopM (L := ((Int × Int × (List UInt8) × (List Fm) × Unit) × Int × Int × Unit) × (Unit)) (R := (Int × Unit) × (Unit)) (fun d1 => (
 let v3_2 := d1.1.2.1
 let v4_3 := d1.1.2.2.1
 cond (cond (decide (d1.1.1.1 = 3)) (decide (v4_3 < (d1.1.1.2.2.2.1.length : Int))) false) (cond (ixOK v4_3 d1.1.1.2.2.2.1.length) (Option.bind (α := Int) (G_refDepth k (Fm.eta (d1.1.1.2.2.2.1.getD v4_3.toNat (Fm.mk 0 0 [] [])))) fun r4 => (
 some (Step.next (((d1.1.1.1, d1.1.1.2.1, d1.1.1.2.2.1, d1.1.1.2.2.2.1, ()), (if r4 > v3_2 then r4 else v3_2), IntKind.wrap .i64 (v4_3 + 1), ()), ())))) none) (some (Step.done ((v3_2, ()), ()))))) (((x0.k, x0.n, x0.t, x0.l, ()), 0, 0, ()), ())) fun d5 => (
 let v3_6 := d5.1.1
 some (IntKind.wrap .i64 (v3_6 + 1))))
def A_refDepth : An := .seq (.leaf) (.seq (.leaf) (.join false { env := [(3, (.d (.int .i64)))], objs := [] } (.seq (.leaf) (.block (.loop { env := [(1, (.rptr [(.d (.int .i64)), (.d (.int .i64)), (.d .str), (.d (.slice .form))])), (3, (.d (.int .i64))), (4, (.d (.int .i64)))], objs := [] } (.leaf)))) (.leaf)))
def H_refDepth : Nat → RH := fun _ => {}
noncomputable def S_refDepth (k : Nat) : Sig := .n [(.d .form)] (.d (.int .i64)) (fun x => G_refDepth k x.1)
theorem S_refDepth_rec : ∀ k, SigOK CX 38 (S_refDepth k)
| 0 => fun x r h => by cases h
| k + 1 => by
 have ih := S_refDepth_rec k
 exact sigN_of (l := [(38, (S_refDepth k))]) ⟨ih, trivial⟩ (hint := H_refDepth) (an := A_refDepth) (fun x => by kernel_rfl)
theorem S_refDepth_ok : ∀ k, SigOK CX 38 (S_refDepth k) := fun k => S_refDepth_rec k
noncomputable def L_refDepth (x0 : Fm) : Option (Int) := limF fun k => G_refDepth k x0
noncomputable def S_refDepth_l : Sig := .n [(.d .form)] (.d (.int .i64)) (fun x => L_refDepth x.1)
theorem S_refDepth_l_ok : SigOK CX 38 S_refDepth_l := SigOK.limN S_refDepth_ok fun x r h => limF_ex h
noncomputable def G_small1 (x0 : Fm) : Option (Bool) := (
 Option.bind (α := Int) (L_refSize (Fm.eta x0)) fun r1 => (
 Option.bind (α := Int) (cond (decide (r1 ≤ 20000)) (L_refDepth (Fm.eta x0)) (some (0 : Int))) fun r2 => (
 some (cond (decide (r1 ≤ 20000)) (decide (r2 ≤ 100)) false))))
def A_small1 : An := .leaf
def H_small1 : Nat → RH := fun _ => {}
noncomputable def S_small1 : Sig := .n [(.d .form)] (.d .bool) (fun x => G_small1 x.1)
theorem S_small1_ok : SigOK CX 63 S_small1 := sigN_of (l := [(10, S_refSize_l), (38, S_refDepth_l)]) ⟨S_refSize_l_ok, S_refDepth_l_ok, trivial⟩ (hint := H_small1) (an := A_small1) (fun x => by kernel_rfl)
noncomputable def G_refValid (x0 : Fm) : Option (Bool) := (
 Option.bind (α := Bool) (L_fields (Fm.eta x0)) fun r1 => (
 Option.bind (α := Bool) (cond r1 (G_small1 (Fm.eta x0)) (some false)) fun r2 => (
 some (cond r1 r2 false))))
def A_refValid : An := .leaf
def H_refValid : Nat → RH := fun _ => {}
noncomputable def S_refValid : Sig := .n [(.d .form)] (.d .bool) (fun x => G_refValid x.1)
theorem S_refValid_ok : SigOK CX 35 S_refValid := sigN_of (l := [(79, S_fields_l), (63, S_small1)]) ⟨S_fields_l_ok, S_small1_ok, trivial⟩ (hint := H_refValid) (an := A_refValid) (fun x => by kernel_rfl)
noncomputable def G_refEqual (x0 : Fm) (x1 : Fm) : Option (Bool) := (
 Option.bind (α := Int) (L_refCompare (Fm.eta x0) (Fm.eta x1)) fun r1 => (
 some (decide (r1 = 0))))
def A_refEqual : An := .leaf
def H_refEqual : Nat → RH := fun _ => {}
noncomputable def S_refEqual : Sig := .n [(.d .form), (.d .form)] (.d .bool) (fun x => G_refEqual x.1 x.2.1)
theorem S_refEqual_ok : SigOK CX 25 S_refEqual := sigN_of (l := [(64, S_refCompare_l)]) ⟨S_refCompare_l_ok, trivial⟩ (hint := H_refEqual) (an := A_refEqual) (fun x => by kernel_rfl)
noncomputable def G_refList (x0 : List Fm) : Option (Fm) := (
 some (Fm.mk 3 0 ([]) x0))
def A_refList : An := .leaf
def H_refList : Nat → RH := fun _ => {}
noncomputable def S_refList : Sig := .n [(.d (.slice .form))] (.d .form) (fun x => G_refList x.1)
theorem S_refList_ok : SigOK CX 53 S_refList := sigN_of (l := []) trivial (hint := H_refList) (an := A_refList) (fun x => by kernel_rfl)
end Go.Ab

set_option maxRecDepth 100000
namespace Go.Ab
open Go Go.RowKit Go.Proofs
noncomputable def G_insSort (x1 : Int) (x2 : Int) (o0 : List Fm) : Option ((Unit) × ((List Fm) × Unit)) := (
 loopM (L := (Unit × Int × Int × Unit × Int × Unit) × ((List Fm) × Unit)) (R := (Unit) × ((List Fm) × Unit)) (fun d1 => (
 let l2 := d1.2.1
 let v1_3 := d1.1.2.1
 let v2_4 := d1.1.2.2.1
 let v8_5 := d1.1.2.2.2.2.1
 cond (decide (v8_5 < v2_4)) (Option.bind (α := (Unit × Int × Int × Unit × Int × Unit) × ((List Fm) × Unit))
 (loopM (L := (Unit × Int × Int × Unit × Int × Int × Unit) × ((List Fm) × Unit)) (R := (Unit × Int × Int × Unit × Int × Unit) × ((List Fm) × Unit)) (fun d6 => (
 let l7 := d6.2.1
 let v1_8 := d6.1.2.1
 let v2_9 := d6.1.2.2.1
 let v8_10 := d6.1.2.2.2.2.1
 let v9_11 := d6.1.2.2.2.2.2.1
 cond ((ixOK v9_11 l7.length) || !(decide (v9_11 > v1_8))) (cond ((decide (v9_11.toNat < l7.length)) || !(decide (v9_11 > v1_8))) (cond ((ixOK (IntKind.wrap .i64 (v9_11 - 1)) l7.length) || !(decide (v9_11 > v1_8))) (cond ((decide ((IntKind.wrap .i64 (v9_11 - 1)).toNat < l7.length)) || !(decide (v9_11 > v1_8))) (Option.bind (α := Int) (cond (decide (v9_11 > v1_8)) (L_compare (Fm.eta (l7.getD v9_11.toNat (Fm.mk 0 0 [] []))) (Fm.eta (l7.getD ((IntKind.wrap .i64 (v9_11 - 1)).toNat) (Fm.mk 0 0 [] [])))) (some (0 : Int))) fun r12 => (
 cond (cond (decide (v9_11 > v1_8)) (decide (r12 < 0)) false) (cond (ixOK (IntKind.wrap .i64 (v9_11 - 1)) l7.length) (cond (decide ((IntKind.wrap .i64 (v9_11 - 1)).toNat < l7.length)) (cond (ixOK v9_11 l7.length) (cond (decide (v9_11.toNat < l7.length)) (cond (ixOK v9_11 l7.length) (cond (decide (v9_11.toNat < l7.length)) (cond (ixOK (IntKind.wrap .i64 (v9_11 - 1)) l7.length) (cond (decide ((IntKind.wrap .i64 (v9_11 - 1)).toNat < (l7.set v9_11.toNat (Fm.eta (l7.getD ((IntKind.wrap .i64 (v9_11 - 1)).toNat) (Fm.mk 0 0 [] [])))).length)) (some (Step.next (((), v1_8, v2_9, (), v8_10, IntKind.wrap .i64 (v9_11 - 1), ()), ((l7.set v9_11.toNat (Fm.eta (l7.getD ((IntKind.wrap .i64 (v9_11 - 1)).toNat) (Fm.mk 0 0 [] [])))).set ((IntKind.wrap .i64 (v9_11 - 1)).toNat) (Fm.eta (l7.getD v9_11.toNat (Fm.mk 0 0 [] []))), ())))) none) none) none) none) none) none) none) none) (some (Step.done (((), v1_8, v2_9, (), v8_10, ()), (l7, ())))))) none) none) none) none)) (((), v1_3, v2_4, (), v8_5, v8_5, ()), (l2, ()))) fun d13 => (
 let l14 := d13.2.1
 let v1_15 := d13.1.2.1
 let v2_16 := d13.1.2.2.1
 let v8_17 := d13.1.2.2.2.2.1
 some (Step.next (((), v1_15, v2_16, (), IntKind.wrap .i64 (v8_17 + 1), ()), (l14, ()))))) (some (Step.done ((), (l2, ())))))) (((), x1, x2, (), IntKind.wrap .i64 (x1 + 1), ()), (o0, ())))
def A_insSort : An := .seq (.leaf) (.block (.loop { env := [(0, (.gs 0 .form)), (1, (.d (.int .i64))), (2, (.d (.int .i64))), (3, (.c (.fn (.func 84) [] []))), (8, (.d (.int .i64)))], objs := [(true, .tg .form 26)] } (.seq (.leaf) (.join false { env := [(0, (.gs 0 .form)), (1, (.d (.int .i64))), (2, (.d (.int .i64))), (3, (.c (.fn (.func 84) [] []))), (8, (.d (.int .i64)))], objs := [(true, .tg .form 26)] } (.block (.seq (.leaf) (.block (.loop { env := [(0, (.gs 0 .form)), (1, (.d (.int .i64))), (2, (.d (.int .i64))), (3, (.c (.fn (.func 84) [] []))), (8, (.d (.int .i64))), (9, (.d (.int .i64)))], objs := [(true, .tg .form 26)] } (.leaf))))) (.leaf)))))
def H_insSort : Nat → RH := fun _ => {}
noncomputable def S_insSort : Sig := .o { pre := [(false, .tg .form 26)], args := [(.gs 0 .form), (.d (.int .i64)), (.d (.int .i64)), (.c (.fn (.func 84) [] []))], post := [(true, .tg .form 26)], res := (.tup []), f := fun x => G_insSort x.1.2.1 x.1.2.2.1 x.2.1 }
theorem S_insSort_ok : SigOK CX 157 S_insSort := sigO_of (l := [(84, S_compare_l)]) ⟨S_compare_l_ok, trivial⟩ (hint := H_insSort) (an := A_insSort) (by kernel_rfl) (fun x => by kernel_rfl)
noncomputable def G_swapRange (x1 : Int) (x2 : Int) (x3 : Int) (o0 : List Fm) : Option ((Unit) × ((List Fm) × Unit)) := (
 loopM (L := (Unit × Int × Int × Int × Int × Unit) × ((List Fm) × Unit)) (R := (Unit) × ((List Fm) × Unit)) (fun d1 => (
 let l2 := d1.2.1
 let v1_3 := d1.1.2.1
 let v2_4 := d1.1.2.2.1
 let v3_5 := d1.1.2.2.2.1
 let v10_6 := d1.1.2.2.2.2.1
 cond (decide (v10_6 < v3_5)) (cond (ixOK (IntKind.wrap .i64 (v2_4 + v10_6)) l2.length) (cond (decide ((IntKind.wrap .i64 (v2_4 + v10_6)).toNat < l2.length)) (cond (ixOK (IntKind.wrap .i64 (v1_3 + v10_6)) l2.length) (cond (decide ((IntKind.wrap .i64 (v1_3 + v10_6)).toNat < l2.length)) (cond (ixOK (IntKind.wrap .i64 (v1_3 + v10_6)) l2.length) (cond (decide ((IntKind.wrap .i64 (v1_3 + v10_6)).toNat < l2.length)) (cond (ixOK (IntKind.wrap .i64 (v2_4 + v10_6)) l2.length) (cond (decide ((IntKind.wrap .i64 (v2_4 + v10_6)).toNat < (l2.set ((IntKind.wrap .i64 (v1_3 + v10_6)).toNat) (Fm.eta (l2.getD ((IntKind.wrap .i64 (v2_4 + v10_6)).toNat) (Fm.mk 0 0 [] [])))).length)) (some (Step.next (((), v1_3, v2_4, v3_5, IntKind.wrap .i64 (v10_6 + 1), ()), ((l2.set ((IntKind.wrap .i64 (v1_3 + v10_6)).toNat) (Fm.eta (l2.getD ((IntKind.wrap .i64 (v2_4 + v10_6)).toNat) (Fm.mk 0 0 [] [])))).set ((IntKind.wrap .i64 (v2_4 + v10_6)).toNat) (Fm.eta (l2.getD ((IntKind.wrap .i64 (v1_3 + v10_6)).toNat) (Fm.mk 0 0 [] []))), ())))) none) none) none) none) none) none) none) none) (some (Step.done ((), (l2, ())))))) (((), x1, x2, x3, 0, ()), (o0, ())))
def A_swapRange : An := .seq (.leaf) (.block (.loop { env := [(0, (.gs 0 .form)), (1, (.d (.int .i64))), (2, (.d (.int .i64))), (3, (.d (.int .i64))), (10, (.d (.int .i64)))], objs := [(true, .tg .form 26)] } (.leaf)))
def H_swapRange : Nat → RH := fun _ => {}
noncomputable def S_swapRange : Sig := .o { pre := [(false, .tg .form 26)], args := [(.gs 0 .form), (.d (.int .i64)), (.d (.int .i64)), (.d (.int .i64)), (.c (.fn (.func 84) [] []))], post := [(true, .tg .form 26)], res := (.tup []), f := fun x => G_swapRange x.1.2.1 x.1.2.2.1 x.1.2.2.2.1 x.2.1 }
theorem S_swapRange_ok : SigOK CX 207 S_swapRange := sigO_of (l := []) trivial (hint := H_swapRange) (an := A_swapRange) (by kernel_rfl) (fun x => by kernel_rfl)
end Go.Ab

set_option maxRecDepth 100000
namespace Go.Ab
open Go Go.RowKit Go.Proofs
theorem loop_wp {L R : Type} {b : L → Option (Step L R)} (I : L → Prop) (μ : L → Nat) (Q : R → Prop)
  (h : ∀ l, I l → (∃ l', b l = some (.next l') ∧ I l' ∧ μ l' < μ l) ∨ (∃ r, b l = some (.done r) ∧ Q r)) : ∀ l, I l → ∃ r, loopM b l = some r ∧ Q r := by
 have key : ∀ n l, μ l ≤ n → I l → ∃ r, loopM b l = some r ∧ Q r := by
  intro n
  induction n with
  | zero =>
   intro l hn hl
   rcases h l hl with ⟨l', h1, h2, h3⟩ | ⟨r, h1, h2⟩
   ·omega
   ·exact ⟨r, loopM_done h1, h2⟩
  | succ n ih =>
   intro l hn hl
   rcases h l hl with ⟨l', h1, h2, h3⟩ | ⟨r, h1, h2⟩
   ·rw [loopM_next h1]; exact ih l' (by omega) h2
   ·exact ⟨r, loopM_done h1, h2⟩
 exact fun l hl => key (μ l) l (Nat.le_refl _) hl
def atF' (l : List Fm) (i : Nat) : Fm := l.getD i (.mk 0 0 [] [])
def swapL (l : List Fm) (i j : Nat) : List Fm := (l.set i (atF' l j)).set j (atF' l i)
theorem swapL_length (l : List Fm) (i j : Nat) : (swapL l i j).length = l.length := by simp [swapL]
theorem swapL_at (l : List Fm) {i j : Nat} (hi : i < l.length) (hj : j < l.length) (p : Nat) : atF' (swapL l i j) p = if p = j then atF' l i else if p = i then atF' l j else atF' l p := by
 unfold atF' swapL
 simp only [List.getD_eq_getElem?_getD, List.getElem?_set]
 by_cases h1 : p = j
 ·subst h1; simp [hj]; rfl
 ·rw [if_neg (fun h => h1 h.symm), if_neg h1]
  by_cases h2 : p = i
  ·subst h2; simp [hi]; rfl
  ·rw [if_neg (fun h => h2 h.symm), if_neg h2]
inductive SW (a b : Nat) : List Fm → List Fm → Prop
 | refl (l) : SW a b l l
 | swap (l m : List Fm) (i j : Nat) : SW a b l m → a ≤ i → i < b → a ≤ j → j < b → SW a b l (swapL m i j)
theorem SW.trans {a b : Nat} {l m o : List Fm} (h : SW a b l m) (h' : SW a b m o) : SW a b l o := by
 induction h' with
 | refl => exact h
 | swap m i j _ h1 h2 h3 h4 ih => exact .swap _ _ _ _ ih h1 h2 h3 h4
theorem SW.mono {a b a' b' : Nat} {l m : List Fm} (h : SW a b l m) (ha : a' ≤ a) (hb : b ≤ b') : SW a' b' l m := by
 induction h with
 | refl => exact .refl _
 | swap m i j _ h1 h2 h3 h4 ih => exact .swap _ _ _ _ ih (by omega) (by omega) (by omega) (by omega)
theorem SW.length {a b : Nat} {l m : List Fm} (h : SW a b l m) : m.length = l.length := by
 induction h with
 | refl => rfl
 | swap m i j _ _ _ _ _ ih => rw [swapL_length, ih]
theorem SW.out {a b : Nat} {l m : List Fm} (h : SW a b l m) (hb : b ≤ l.length) {p : Nat} (hp : p < a ∨ b ≤ p) : atF' m p = atF' l p := by
 induction h with
 | refl => rfl
 | swap m i j h h1 h2 h3 h4 ih =>
  rw [swapL_at m (by rw [h.length]; omega) (by rw [h.length]; omega), if_neg (by omega), if_neg (by omega), ih]
theorem SW.all {a b : Nat} {l m : List Fm} (h : SW a b l m) (hb : b ≤ l.length) {P : Fm → Prop} (hP : ∀ p, a ≤ p → p < b → P (atF' l p)) : ∀ p, a ≤ p → p < b → P (atF' m p) := by
 induction h with
 | refl => exact hP
 | swap m i j h h1 h2 h3 h4 ih =>
  intro p hp hq
  rw [swapL_at m (by rw [h.length]; omega) (by rw [h.length]; omega)]
  split
  ·exact ih i h1 h2
  ·split
   ·exact ih j h3 h4
   ·exact ih p hp hq
theorem mem_swapL {l : List Fm} {i j : Nat} (hi : i < l.length) (hj : j < l.length) (f : Fm) : f ∈ swapL l i j ↔ f ∈ l := by
 have at_mem : ∀ {m : List Fm} {p : Nat}, p < m.length → atF' m p ∈ m := fun {m p} h => by unfold atF'; rw [getD_in h]; exact List.getElem_mem h
 constructor
 ·intro h
  obtain ⟨p, hp, rfl⟩ := List.getElem_of_mem h
  have : (swapL l i j)[p] = atF' (swapL l i j) p := by unfold atF'; rw [getD_in hp]
  rw [swapL_length] at hp
  rw [this, swapL_at l hi hj]
  split
  ·exact at_mem hi
  ·split
   ·exact at_mem hj
   ·exact at_mem hp
 ·intro h
  obtain ⟨p, hp, rfl⟩ := List.getElem_of_mem h
  have : l[p] = atF' l p := by unfold atF'; rw [getD_in hp]
  rw [this]
  by_cases h1 : p = i
  ·subst h1
   have := at_mem (m := swapL l p j) (p := j) (by rw [swapL_length]; exact hj)
   rwa [swapL_at l hi hj, if_pos rfl] at this
  ·by_cases h2 : p = j
   ·subst h2
    have := at_mem (m := swapL l i p) (p := i) (by rw [swapL_length]; exact hi)
    rwa [swapL_at l hi hj, if_neg (fun h => h1 h.symm), if_pos rfl] at this
   ·have := at_mem (m := swapL l i j) (p := p) (by rw [swapL_length]; exact hp)
    rwa [swapL_at l hi hj, if_neg h2, if_neg h1] at this
theorem SW.mem {a b : Nat} {l m : List Fm} (h : SW a b l m) (hb : b ≤ l.length) (f : Fm) : f ∈ m ↔ f ∈ l := by
 induction h with
 | refl => rfl
 | swap m i j h h1 h2 h3 h4 ih => rw [mem_swapL (by rw [h.length]; omega) (by rw [h.length]; omega), ih]
def le (f g : Fm) : Prop := cmpF f g ≤ 0
theorem le_refl' (f : Fm) : le f f := by unfold le; rw [cmpF_self]; omega
theorem le_trans' {f g h : Fm} (h1 : le f g) (h2 : le g h) : le f h := (cmpF_tri f g h).1 h1 h2
theorem le_of_not_lt {f g : Fm} (h : ¬ cmpF f g < 0) : le g f := by unfold le; rw [cmpF_neg f g]; omega
theorem le_of_lt' {f g : Fm} (h : cmpF f g < 0) : le f g := Int.le_of_lt h
def Srt (a b : Nat) (l : List Fm) : Prop := ∀ p q, a ≤ p → p < q → q < b → le (atF' l p) (atF' l q)
def bigAll (l : List Fm) : Prop := ∀ f ∈ l, f.big ≤ 4611686018427387000
theorem bigAll_at {l : List Fm} (h : bigAll l) {i : Nat} (hi : i < l.length) : (atF' l i).big ≤ 4611686018427387000 := by
 unfold atF'; rw [getD_in hi]; exact h _ (List.getElem_mem hi)
theorem SW.big {a b : Nat} {l m : List Fm} (h : SW a b l m) (hb : b ≤ l.length) (hl : bigAll l) : bigAll m := fun f hf => hl f ((h.mem hb f).1 hf)
theorem wrapS {i : Nat} (h : i < 4611686018427387904) (h0 : 0 < i) : IntKind.wrap .i64 ((i : Int) - 1) = ((i - 1 : Nat) : Int) := by
 rw [w64 (by omega) (by omega)]; omega
theorem insInner {a b i : Nat} {l0 : List Fm} (hai : a < i) (hib : i < b) (hb : b ≤ l0.length) (hln : l0.length < 4611686018427387904) (hbig : bigAll l0) (hs : Srt a i l0) :
  ∃ r, (loopM (L := (Unit × Int × Int × Unit × Int × Int × Unit) × ((List Fm) × Unit)) (R := (Unit × Int × Int × Unit × Int × Unit) × ((List Fm) × Unit)) (fun d6 => (
 let l7 := d6.2.1
 let v1_8 := d6.1.2.1
 let v2_9 := d6.1.2.2.1
 let v8_10 := d6.1.2.2.2.2.1
 let v9_11 := d6.1.2.2.2.2.2.1
 cond ((ixOK v9_11 l7.length) || !(decide (v9_11 > v1_8))) (cond ((decide (v9_11.toNat < l7.length)) || !(decide (v9_11 > v1_8))) (cond ((ixOK (IntKind.wrap .i64 (v9_11 - 1)) l7.length) || !(decide (v9_11 > v1_8))) (cond ((decide ((IntKind.wrap .i64 (v9_11 - 1)).toNat < l7.length)) || !(decide (v9_11 > v1_8))) (Option.bind (α := Int) (cond (decide (v9_11 > v1_8)) (L_compare (Fm.eta (l7.getD v9_11.toNat (Fm.mk 0 0 [] []))) (Fm.eta (l7.getD ((IntKind.wrap .i64 (v9_11 - 1)).toNat) (Fm.mk 0 0 [] [])))) (some (0 : Int))) fun r12 => (
 cond (cond (decide (v9_11 > v1_8)) (decide (r12 < 0)) false) (cond (ixOK (IntKind.wrap .i64 (v9_11 - 1)) l7.length) (cond (decide ((IntKind.wrap .i64 (v9_11 - 1)).toNat < l7.length)) (cond (ixOK v9_11 l7.length) (cond (decide (v9_11.toNat < l7.length)) (cond (ixOK v9_11 l7.length) (cond (decide (v9_11.toNat < l7.length)) (cond (ixOK (IntKind.wrap .i64 (v9_11 - 1)) l7.length) (cond (decide ((IntKind.wrap .i64 (v9_11 - 1)).toNat < (l7.set v9_11.toNat (Fm.eta (l7.getD ((IntKind.wrap .i64 (v9_11 - 1)).toNat) (Fm.mk 0 0 [] [])))).length)) (some (Step.next (((), v1_8, v2_9, (), v8_10, IntKind.wrap .i64 (v9_11 - 1), ()), ((l7.set v9_11.toNat (Fm.eta (l7.getD ((IntKind.wrap .i64 (v9_11 - 1)).toNat) (Fm.mk 0 0 [] [])))).set ((IntKind.wrap .i64 (v9_11 - 1)).toNat) (Fm.eta (l7.getD v9_11.toNat (Fm.mk 0 0 [] []))), ())))) none) none) none) none) none) none) none) none) (some (Step.done (((), v1_8, v2_9, (), v8_10, ()), (l7, ())))))) none) none) none) none)) (((), (a : Int), (b : Int), (), (i : Int), (i : Int), ()), (l0, ()))) = some r ∧ ∃ m, r = (((), (a : Int), (b : Int), (), (i : Int), ()), (m, ())) ∧ SW a (i + 1) l0 m ∧ Srt a (i + 1) m := by
 refine loop_wp (fun d => ∃ (j : Nat) (m : List Fm), d = (((), (a : Int), (b : Int), (), (i : Int), (j : Int), ()), (m, ())) ∧ a ≤ j ∧ j ≤ i ∧ SW a (i + 1) l0 m ∧ ∀ p q, a ≤ p → p < q → q ≤ i → q ≠ j → le (atF' m p) (atF' m q)) (fun d => d.1.2.2.2.2.2.1.toNat) _ ?_ _
  ⟨i, l0, rfl, by omega, Nat.le_refl _, .refl _, fun p q h1 h2 h3 h4 => hs p q h1 h2 (by omega)⟩
 rintro d ⟨j, m, rfl, h1, h2, hsw, hso⟩
 have hlen := hsw.length
 have hbm := hsw.big (by omega) hbig
 have hj : j < m.length := by omega
 have e1 : ixOK (j : Int) m.length = true := ixOK_iff.2 (by omega)
 have e2 : decide (j < m.length) = true := by simp [hj]
 by_cases hja : j = a
 ·subst hja
  refine .inr ⟨_, ?_, m, rfl, hsw, fun p q q1 q2 q3 => hso p q q1 q2 (by omega) (by omega)⟩
  simp [e1, hj]
 ·have hgt : decide ((j : Int) > (a : Int)) = true := by apply decide_eq_true; omega
  have hw : IntKind.wrap .i64 ((j : Int) - 1) = ((j - 1 : Nat) : Int) := wrapS (by omega) (by omega)
  have e3 : ixOK ((j - 1 : Nat) : Int) m.length = true := ixOK_iff.2 (by omega)
  have e4 : decide (j - 1 < m.length) = true := by apply decide_eq_true; omega
  have hcmp : L_compare (m.getD j (Fm.mk 0 0 [] [])) (m.getD (j - 1) (Fm.mk 0 0 [] [])) = some (cmpF (atF' m j) (atF' m (j - 1))) := compare_val (bigAll_at hbm hj)
  simp only [hgt, hw, e1, e2, e3, e4, hcmp, Int.toNat_natCast, cond_true, Bool.true_or, Fm.eta_eq, List.length_set, Option.bind_some]
  by_cases hc : cmpF (atF' m j) (atF' m (j - 1)) < 0
  ·have hc' : decide (cmpF (atF' m j) (atF' m (j - 1)) < 0) = true := decide_eq_true hc
   simp only [hc', cond_true]
   refine .inl ⟨_, rfl, ⟨j - 1, swapL m j (j - 1), rfl, by omega, by omega, .swap _ _ _ _ hsw (by omega) (by omega) (by omega) (by omega), ?_⟩, by simp; omega⟩
   intro p q q1 q2 q3 q4
   rw [swapL_at m hj (by omega), swapL_at m hj (by omega), if_neg q4]
   by_cases c1 : q = j
   ·subst c1
    rw [if_pos rfl]
    by_cases c2 : p = q - 1
    ·rw [if_pos c2]; exact le_of_lt' hc
    ·rw [if_neg c2, if_neg (by omega)]; exact hso p (q - 1) q1 (by omega) (by omega) (by omega)
   ·rw [if_neg c1]
    by_cases c2 : p = j - 1
    ·rw [if_pos c2]; exact hso j q (by omega) (by omega) q3 c1
    ·rw [if_neg c2]
     by_cases c3 : p = j
     ·subst c3; rw [if_pos rfl]; exact hso (p - 1) q (by omega) (by omega) q3 c1
     ·rw [if_neg c3]; exact hso p q q1 q2 q3 c1
  ·have hc' : decide (cmpF (atF' m j) (atF' m (j - 1)) < 0) = false := decide_eq_false hc
   simp only [hc', cond_false]
   refine .inr ⟨_, rfl, m, rfl, hsw, fun p q q1 q2 q3 => ?_⟩
   by_cases c1 : q = j
   ·subst c1
    have h0 := le_of_not_lt hc
    by_cases c2 : p = q - 1
    ·subst c2; exact h0
    ·exact le_trans' (hso p (q - 1) q1 (by omega) (by omega) (by omega)) h0
   ·exact hso p q q1 q2 (by omega) c1
theorem ret_of {o : Option (Unit × List Fm × Unit)} {P : List Fm → Prop} (h : ∃ r, o = some r ∧ ∃ m, r = ((), (m, ())) ∧ P m) : ∃ m, o = some ((), (m, ())) ∧ P m := by
 obtain ⟨r, h1, m, rfl, h2⟩ := h
 exact ⟨m, h1, h2⟩
theorem insSort_val {a b : Nat} {l : List Fm} (hab : a < b) (hb : b ≤ l.length) (hln : l.length < 4611686018427387904) (hbig : bigAll l) : ∃ m, G_insSort (a : Int) (b : Int) l = some ((), (m, ())) ∧ SW a b l m ∧ Srt a b m := by
 unfold G_insSort
 refine ret_of ?_
 ·rw [show IntKind.wrap .i64 ((a : Int) + 1) = ((a + 1 : Nat) : Int) from wrapN (by omega)]
  refine loop_wp (fun d => ∃ (i : Nat) (m : List Fm), d = (((), (a : Int), (b : Int), (), (i : Int), ()), (m, ())) ∧ a < i ∧ i ≤ b ∧ SW a b l m ∧ Srt a i m) (fun d => (b - d.1.2.2.2.2.1.toNat : Nat)) _ ?_ _
   ⟨a + 1, l, rfl, by omega, by omega, .refl _, fun p q _ _ _ => by omega⟩
  rintro d ⟨i, m, rfl, h1, h2, hsw, hso⟩
  have hlen := hsw.length
  by_cases hi : i = b
  ·subst hi
   refine .inr ⟨_, by simp only [Int.lt_irrefl, decide_false, cond_false], m, rfl, hsw, hso⟩
  ·have e1 : decide ((i : Int) < (b : Int)) = true := by apply decide_eq_true; omega
   obtain ⟨r, hr, m', rfl, q1, q2⟩ := insInner (b := b) h1 (by omega) (by omega) (by omega) (hsw.big hb hbig) hso
   simp only [e1, cond_true]
   refine .inl ⟨(((), (a : Int), (b : Int), (), ((i + 1 : Nat) : Int), ()), (m', ())), ?_, ⟨i + 1, m', rfl, by omega, by omega, hsw.trans (q1.mono (Nat.le_refl _) (by omega)), q2⟩, by simp only [Int.toNat_natCast]; omega⟩
   refine (congrArg (fun o => Option.bind o _) hr).trans ?_
   simp only [Option.bind_some, wrapN (show i < 4611686018427387904 by omega)]
end Go.Ab

set_option maxRecDepth 100000
namespace Go.Ab
open Go Go.RowKit Go.Proofs
noncomputable def G_requalQ (x0 : Fm) (x1 : Fm) : Option (Bool) := (
 Option.bind (α := Int) (L_compare (Fm.eta x0) (Fm.eta x1)) fun r1 => (
 some (decide (r1 = 0))))
def A_requalQ : An := .leaf
def H_requalQ : Nat → RH := fun _ => {}
noncomputable def S_requalQ : Sig := .n [(.d .form), (.d .form)] (.d .bool) (fun x => G_requalQ x.1 x.2.1)
theorem S_requalQ_ok : SigOK CX 86 S_requalQ := sigN_of (l := [(84, S_compare_l)]) ⟨S_compare_l_ok, trivial⟩ (hint := H_requalQ) (an := A_requalQ) (fun x => by kernel_rfl)
noncomputable def G_compact (o0 : List Fm) : Option ((Unit) × ((List Fm) × Unit)) := (
 cond (decide ((o0.length : Int) < 2)) (some ((), (o0, ()))) (Option.bind (α := Step ((Unit × Unit) × ((List Fm) × Unit)) ((Unit) × ((List Fm) × Unit)))
 (loopM (L := (Unit × Unit × Int × Unit) × ((List Fm) × Unit)) (R := Step ((Unit × Unit) × ((List Fm) × Unit)) ((Unit) × ((List Fm) × Unit))) (fun d1 => (
 let l2 := d1.2.1
 let v5_3 := d1.1.2.2.1
 cond (decide (v5_3 < (l2.length : Int))) (Option.bind (α := Step ((Unit × Unit × Int × Unit) × ((List Fm) × Unit)) (Step ((Unit × Unit × Int × Unit) × ((List Fm) × Unit)) (Step ((Unit × Unit) × ((List Fm) × Unit)) ((Unit) × ((List Fm) × Unit)))))
 (cond (ixOK v5_3 l2.length) (cond (decide (v5_3.toNat < l2.length)) (cond (ixOK (IntKind.wrap .i64 (v5_3 - 1)) l2.length) (cond (decide ((IntKind.wrap .i64 (v5_3 - 1)).toNat < l2.length)) (Option.bind (α := Bool) (G_requalQ (Fm.eta (l2.getD v5_3.toNat (Fm.mk 0 0 [] []))) (Fm.eta (l2.getD ((IntKind.wrap .i64 (v5_3 - 1)).toNat) (Fm.mk 0 0 [] [])))) fun r4 => (
 cond r4 (cond (slOK v5_3 (l2.length : Int) l2.length) (Option.bind (α := (Unit × Int × Unit) × ((List Fm) × Unit))
 (loopM (L := (Unit × Unit × Int × (Nat × Nat) × Int × Unit) × ((List Fm) × Unit)) (R := (Unit × Int × Unit) × ((List Fm) × Unit)) (fun d5 => (
 let l6 := d5.2.1
 let v5_7 := d5.1.2.2.1
 let v7_8 := d5.1.2.2.2.2.1
 cond (decide (v7_8 < (d5.1.2.2.2.1.2 : Int))) (Option.bind (α := (Unit × Unit × Int × (Nat × Nat) × Int × Unit) × ((List Fm) × Unit))
 (cond (ixOK v7_8 d5.1.2.2.2.1.2) (cond (decide (d5.1.2.2.2.1.1 + v7_8.toNat < l6.length)) (cond (ixOK (IntKind.wrap .i64 (v7_8 - 1)) d5.1.2.2.2.1.2) (cond (decide (d5.1.2.2.2.1.1 + (IntKind.wrap .i64 (v7_8 - 1)).toNat < l6.length)) (Option.bind (α := Bool) (G_requalQ (Fm.eta (l6.getD (d5.1.2.2.2.1.1 + v7_8.toNat) (Fm.mk 0 0 [] []))) (Fm.eta (l6.getD (d5.1.2.2.2.1.1 + (IntKind.wrap .i64 (v7_8 - 1)).toNat) (Fm.mk 0 0 [] [])))) fun r9 => (
 cond (!r9) (cond (ixOK v7_8 d5.1.2.2.2.1.2) (cond (decide (d5.1.2.2.2.1.1 + v7_8.toNat < l6.length)) (cond (ixOK v5_7 l6.length) (cond (decide (v5_7.toNat < l6.length)) (some (((), (), IntKind.wrap .i64 (v5_7 + 1), (d5.1.2.2.2.1.1, d5.1.2.2.2.1.2), v7_8, ()), (l6.set v5_7.toNat (Fm.eta (l6.getD (d5.1.2.2.2.1.1 + v7_8.toNat) (Fm.mk 0 0 [] []))), ()))) none) none) none) none) (some (((), (), v5_7, (d5.1.2.2.2.1.1, d5.1.2.2.2.1.2), v7_8, ()), (l6, ()))))) none) none) none) none) fun d10 => (
 let l11 := d10.2.1
 let v5_12 := d10.1.2.2.1
 let v7_13 := d10.1.2.2.2.2.1
 some (Step.next (((), (), v5_12, (d10.1.2.2.2.1.1, d10.1.2.2.2.1.2), IntKind.wrap .i64 (v7_13 + 1), ()), (l11, ()))))) (some (Step.done (((), v5_7, ()), (l6, ())))))) (((), (), v5_3, (v5_3.toNat, (l2.length : Int).toNat - v5_3.toNat), 1, ()), (l2, ()))) fun d14 => (
 let l15 := d14.2.1
 let v5_16 := d14.1.2.1
 cond (slOK v5_16 (l15.length : Int) l15.length) (cond (decide (v5_16.toNat + ((l15.length : Int).toNat - v5_16.toNat) ≤ l15.length)) (cond (hiOK v5_16 (l15.take v5_16.toNat ++ (List.replicate ((l15.length : Int).toNat - v5_16.toNat) (Fm.mk 0 0 ([]) ([] : List Fm)) ++ l15.drop (v5_16.toNat + ((l15.length : Int).toNat - v5_16.toNat)))).length) (some (Step.done (Step.done (Step.done ((), ((l15.take v5_16.toNat ++ (List.replicate ((l15.length : Int).toNat - v5_16.toNat) (Fm.mk 0 0 ([]) ([] : List Fm)) ++ l15.drop (v5_16.toNat + ((l15.length : Int).toNat - v5_16.toNat)))).take v5_16.toNat, ())))))) none) none) none)) none) (some (Step.next (((), (), v5_3, ()), (l2, ())))))) none) none) none) none) fun qd17 => match qd17 with
 | .next d17 => (
 let l18 := d17.2.1
 let v5_19 := d17.1.2.2.1
 some (Step.next (((), (), IntKind.wrap .i64 (v5_19 + 1), ()), (l18, ()))))
 | .done r => some r) (some (Step.done (Step.next (((), ()), (l2, ()))))))) (((), (), 1, ()), (o0, ()))) fun qd20 => match qd20 with
 | .next d20 => (
 let l21 := d20.2.1
 some ((), (l21, ())))
 | .done r => some r))
def A_compact : An := .seq (.leaf) (.seq (.leaf) (.join true { env := [(0, (.gs 0 .form))], objs := [(true, .tg .form 26)] } (.seq (.leaf) (.block (.loop { env := [(0, (.gs 0 .form)), (1, (.c (.fn (.func 86) [] []))), (5, (.d (.int .i64)))], objs := [(true, .tg .form 26)] } (.seq (.leaf) (.join true { env := [(0, (.gs 0 .form)), (1, (.c (.fn (.func 86) [] []))), (5, (.d (.int .i64)))], objs := [(true, .tg .form 26)] } (.block (.seq (.leaf) (.cond (.seq (.leaf) (.join false { env := [(0, (.gs 0 .form)), (5, (.d (.int .i64)))], objs := [(true, .tg .form 26)] } (.seq (.leaf) (.block (.loop { env := [(0, (.gs 0 .form)), (1, (.c (.fn (.func 86) [] []))), (5, (.d (.int .i64))), (6, (.gv 0 .form)), (7, (.d (.int .i64)))], objs := [(true, .tg .form 26)] } (.seq (.leaf) (.join false { env := [(0, (.gs 0 .form)), (1, (.c (.fn (.func 86) [] []))), (5, (.d (.int .i64))), (6, (.gv 0 .form)), (7, (.d (.int .i64)))], objs := [(true, .tg .form 26)] } (.leaf) (.leaf)))))) (.leaf))) (.leaf)))) (.leaf)))))) (.leaf)))
def H_compact : Nat → RH := fun r => match r with
 | 15 => { H := { mb := [64] } }
 | _ => {}
noncomputable def S_compact : Sig := .o { pre := [(false, .tg .form 26)], args := [(.gs 0 .form), (.c (.fn (.func 86) [] []))], post := [(false, .tg .form 26)], res := (.gs 0 .form), f := fun x => G_compact x.2.1 }
theorem S_compact_ok : SigOK CX 85 S_compact := sigO_of (l := [(86, S_requalQ)]) ⟨S_requalQ_ok, trivial⟩ (hint := H_compact) (an := A_compact) (by kernel_rfl) (fun x => by kernel_rfl)
end Go.Ab

set_option maxRecDepth 100000
namespace Go.Ab
open Go Go.RowKit Go.Proofs
end Go.Ab

set_option maxRecDepth 100000
namespace Go.Ab
open Go Go.RowKit Go.Proofs
noncomputable def G_own (k : Nat) (x0 : Fm) : Option (Fm) := match k with
| 0 => none
| k + 1 => (
 Option.bind (α := (Unit × Unit × Unit × Unit) × ((Int × Int × (List UInt8) × (List Fm) × Unit) × (Int × Int × (List UInt8) × Unit × Unit) × (List Fm) × Unit))
 (loopM (L := (Unit × Unit × Unit × Int × Unit) × ((Int × Int × (List UInt8) × (List Fm) × Unit) × (Int × Int × (List UInt8) × Unit × Unit) × (List Fm) × Unit)) (R := (Unit × Unit × Unit × Unit) × ((Int × Int × (List UInt8) × (List Fm) × Unit) × (Int × Int × (List UInt8) × Unit × Unit) × (List Fm) × Unit)) (fun d1 => (
 let c2 := d1.2.1.1
 let c3 := d1.2.1.2.1
 let c4 := d1.2.1.2.2.1
 let c5 := d1.2.1.2.2.2.1
 let l6 := d1.2.2.2.1
 let v4_7 := d1.1.2.2.2.1
 cond (decide (v4_7 < (c5.length : Int))) (cond (ixOK v4_7 c5.length) (Option.bind (α := Fm) (G_own k (Fm.eta (c5.getD v4_7.toNat (Fm.mk 0 0 [] [])))) fun r8 => (
 cond (decide ((l6.length + ([(Fm.eta r8)]).length) * 56 ≤ 140737488355328)) (some (Step.next (((), (), (), IntKind.wrap .i64 (v4_7 + 1), ()), ((c2, c3, c4, c5, ()), (d1.2.2.1.1, d1.2.2.1.2.1, d1.2.2.1.2.2.1, (), ()), l6 ++ ([(Fm.eta r8)]), ())))) none)) none) (some (Step.done (((), (), (), ()), ((c2, c3, c4, c5, ()), (d1.2.2.1.1, d1.2.2.1.2.1, d1.2.2.1.2.2.1, (), ()), l6, ())))))) (((), (), (), 0, ()), ((x0.k, x0.n, x0.t, x0.l, ()), (0, 0, [], (), ()), ([] : List Fm), ()))) fun d9 => (
 let c10 := d9.2.1.1
 let c11 := d9.2.1.2.1
 let c12 := d9.2.1.2.2.1
 let c13 := d9.2.1.2.2.2.1
 let l14 := d9.2.2.2.1
 some (Fm.mk c10 c11 c12 l14)))
def A_own : An := .seq (.leaf) (.seq (.leaf) (.join false { env := [(1, (.ref 0 0)), (2, (.ref 1 0)), (3, (.gs 2 .form))], objs := [(false, .cells 26 [(.d (.int .i64)), (.d (.int .i64)), (.d .str), (.d (.slice .form))]), (false, .cells 26 [(.d (.int .i64)), (.d (.int .i64)), (.d .str), (.c (.base (.slice none 0 0)))]), (false, .tg .form 26)] } (.seq (.leaf) (.block (.loop { env := [(1, (.ref 0 0)), (2, (.ref 1 0)), (3, (.gs 2 .form)), (4, (.d (.int .i64)))], objs := [(false, .cells 26 [(.d (.int .i64)), (.d (.int .i64)), (.d .str), (.d (.slice .form))]), (false, .cells 26 [(.d (.int .i64)), (.d (.int .i64)), (.d .str), (.c (.base (.slice none 0 0)))]), (false, .tg .form 26)] } (.leaf)))) (.leaf)))
def H_own : Nat → RH := fun r => match r with
 | 0 => { H := { mb := [1] } }
 | 5 => { H := { ty := [(20, .form)] } }
 | _ => {}
noncomputable def S_own (k : Nat) : Sig := .n [(.d .form)] (.d .form) (fun x => G_own k x.1)
theorem S_own_rec : ∀ k, SigOK CX 87 (S_own k)
| 0 => fun x r h => by cases h
| k + 1 => by
 have ih := S_own_rec k
 exact sigN_of (l := [(87, (S_own k))]) ⟨ih, trivial⟩ (hint := H_own) (an := A_own) (fun x => by kernel_rfl)
theorem S_own_ok : ∀ k, SigOK CX 87 (S_own k) := fun k => S_own_rec k
noncomputable def L_own (x0 : Fm) : Option (Fm) := limF fun k => G_own k x0
noncomputable def S_own_l : Sig := .n [(.d .form)] (.d .form) (fun x => L_own x.1)
theorem S_own_l_ok : SigOK CX 87 S_own_l := SigOK.limN S_own_ok fun x r h => limF_ex h
end Go.Ab
