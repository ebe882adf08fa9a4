/-
  READING: the reference's numbers.
-/
import Derived.Test.YtdagildojaagiaaGreatDoorZ12
import Derived.Test.YtdagildojaagiaaGreatDoorZ14
import Derived.Test.YtdagildojaagiaaGreatDoorZ15
import Derived.Laws.RangeAny
import Derived.Laws.RangeString
import Derived.Lib.AtoiAllCases
set_option linter.unusedVariables false
set_option linter.unusedSimpArgs false
namespace Go.Ab
open Go Go.RowKit
mutual
def eqSh : (s : Sh) → s.den → s.den → Bool
 | .d e, x, y => eqE e x y
 | .c _, _, _ => true
 | .ref _ _, _, _ => true
 | .gs _ _, _, _ => true
 | .mref _ _, x, y => eqBl x y
 | .gv _ _, _, _ => false
 | .agg l, x, y => eqShL l x y
 | .tup l, x, y => eqShL l x y
 | .rptr l, x, y => eqShL l x y
 | .fn _ _ _, _, _ => false
 | .iface _ s, x, y => eqSh s x y
def eqShL : (l : List Sh) → Sh.denL l → Sh.denL l → Bool
 | [], _, _ => true
 | s :: l, x, y => eqSh s x.1 y.1 && eqShL l x.2 y.2
end
mutual
theorem eqSh_sound : ∀ (s : Sh) (x y : s.den), eqSh s x y = true → x = y
 | .d e, x, y, h => eqE_sound e x y h
 | .c _, x, y, h => rfl
 | .ref _ _, x, y, h => rfl
 | .gs _ _, x, y, h => rfl
 | .mref _ _, x, y, h => eqBl_sound x y h
 | .gv _ _, x, y, h => by cases h
 | .agg l, x, y, h => eqShL_sound l x y h
 | .tup l, x, y, h => eqShL_sound l x y h
 | .rptr l, x, y, h => eqShL_sound l x y h
 | .fn _ _ _, x, y, h => by cases h
 | .iface _ s, x, y, h => eqSh_sound s x y h
theorem eqShL_sound : ∀ (l : List Sh) (x y : Sh.denL l), eqShL l x y = true → x = y
 | [], x, y, h => rfl
 | s :: l, (x1, x2), (y1, y2), h => by
  have h : (eqSh s x1 y1 && eqShL l x2 y2) = true := h
  rw [Bool.and_eq_true] at h
  rw [eqSh_sound s x1 y1 h.1, eqShL_sound l x2 y2 h.2]
end
def mgE (res : Sh) (a b : Option res.den) : Option res.den := match a with
 | some x => match b with
  | some y => match eqSh res x y with
   | true => some x
   | false => none
  | none => none
 | none => none
theorem mgE_ok (res : Sh) : MgOK (mgE res) := fun a b r h => by
 unfold mgE at h
 split at h
 ·rename_i x
  split at h
  ·rename_i y
   split at h
   ·rename_i e; cases h; exact ⟨rfl, by rw [eqSh_sound res _ _ e]⟩
   ·cases h
  ·cases h
 ·cases h
def atF (args : List Sh) {R : Type} (x : Sh.denL args) (r : R) (y : Sh.denL args) : Option R := match eqShL args y x with
 | true => some r
 | false => none
theorem sig_at {C : Cx} {l : List (Nat × Sig)} (ht : TabOK C l) {hint : Nat → RH} {g : FuncId} {args : List Sh} {res : Sh} {an : An} {x : Sh.denL args} {r : res.den}
  (h : yfunM C (sigTab l) hint g (mgE res) (fun fn => finN C fn res) args an x = some r) : SigOK C g (.n args res (atF args x r)) := fun y r' hr => by
 unfold atF at hr
 split at hr
 ·rename_i e
  cases hr
  rw [eqShL_sound args y x e]
  exact yfun_sound (sigTab_ok ht) (mgE_ok res) h fun fn s => ⟨fun e he hf => by
   have hf' : (resA C.P fn.results.toList s.st).bind (fun v => resY s.σ res v id) = some r := by rcases he with rfl | rfl <;> exact hf
   obtain ⟨v, h1, h2⟩ := Option.bind_eq_some_iff.1 hf'
   obtain ⟨y, rfl, h3, h4⟩ := resY_sound h2
   exact ⟨v, h1, h3, _, rfl, h4⟩, (fun v hv => by cases hv), (fun i hi => by cases hi), (fun i hi => by cases hi)⟩
 ·cases hr
end Go.Ab

set_option maxRecDepth 100000
namespace Go.Ab
open Go Go.RowKit Go.Proofs
noncomputable def S_nextE : Sig := .o { pre := [(false, .cells 132 [(.d .str), (.d (.int .i64))])], args := [(.ref 0 0)], post := [(true, .cells 132 [(.d .str), (.d (.int .i64))])], res := (.tup [(.d (.pr (.int .u8) .form)), (.d .bool), (.d (.int .i64))]), f := fun x => E_next 60 x.2.1 }
theorem S_nextE_ok : SigOK CX 104 S_nextE := ⟨S_next_ok.1, fun x r hr => S_next_ok.2 x r (E_next_le 60 _ _ hr)⟩
def parseA : An := .seq .leaf (.seq .leaf (.seq .leaf (.block (.unroll 40 (.block (.joinX [4, 5, 6, 7, 8] .leaf (.seq .leaf (.joinX [4, 5, 6] (.block (.seq .leaf (.cond .leaf (.seq .leaf (.cond .leaf (.seq .leaf (.cond .leaf (.seq .leaf (.cond .leaf (.seq .leaf (.cond .leaf (.seq .leaf (.cond (.seq .leaf (.seq (.frzt [74] .leaf) (.seq .leaf (.cond (.seq (.frzt [79] .leaf) .leaf) (.frzt [79] .leaf))))) .leaf))))))))))))) .leaf))))))))
def parseH : Nat → RH := fun r => match r with
 | 1 => { H := { mb := [13] } }
 | 2 => { H := { mb := [14] } }
 | 3 => { H := { ac := [17] } }
 | 5 => { H := { ty := [(32, .form)] }, pair := some ([0, 1, 2, 3, 4, 5, 6, 7, 8, 9, 11], 10, 12, []) }
 | 19 => { pair := some ([0], 1, 2, [3]) }
 | 20 => { H := { ty := [(92, .form)] } }
 | 22 => { H := { ty := [(105, .form)] } }
 | _ => {}
def text1 : List UInt8 := [40, 102, 32, 49, 32, 34, 97, 92, 110, 98, 34, 32, 40, 103, 41, 41]
def form1 : Fm := .mk 3 0 [] [.mk 1 0 [102] [], .mk 0 1 [] [], .mk 2 0 [97, 10, 98] [], .mk 3 0 [] [.mk 1 0 [103] []]]
theorem parse_run : yfunM CX (sigTab [(104, S_nextE), (105, S_touches)]) parseH 59 (mgE (.tup [.d (.slice .form), .d (.int .i64)])) (fun fn => finN CX fn (.tup [.d (.slice .form), .d (.int .i64)])) [.d .str] parseA (text1, ()) = some ([form1], (0 : Int), ()) := by kernel_rfl
end Go.Ab

set_option maxRecDepth 100000
namespace Go.Ab
open Go Go.RowKit Go.Proofs
noncomputable def S_parse1 : Sig := .n [.d .str] (.tup [.d (.slice .form), .d (.int .i64)]) (atF [.d .str] (text1, ()) ([form1], (0 : Int), ()))
theorem S_parse1_ok : SigOK CX 59 S_parse1 := sig_at (l := [(104, S_nextE), (105, S_touches)]) ⟨S_nextE_ok, S_touches_ok, trivial⟩ parse_run
noncomputable def G_readBad (x0 : Fm) : Option (Bool) := (
 Option.bind (α := Bool) (G_rvalid (Fm.eta x0)) fun r1 => (
 some (!r1)))
def A_readBad : An := .leaf
def H_readBad : Nat → RH := fun _ => {}
noncomputable def S_readBad : Sig := .n [(.d .form)] (.d .bool) (fun x => G_readBad x.1)
theorem S_readBad_ok : SigOK CX 61 S_readBad := sigN_of (l := [(34, S_rvalid)]) ⟨S_rvalid_ok, trivial⟩ (hint := H_readBad) (an := A_readBad) (fun x => by kernel_rfl)
noncomputable def G_indexBad (x0 : List Fm) (x1 : Unit) : Option (Int) := (
 Option.bind (α := Step ((Unit) × (Unit)) (Int))
 (loopM (L := ((List Fm) × Unit × Int × Int × Unit) × (Unit)) (R := Step ((Unit) × (Unit)) (Int)) (fun d1 => (
 let v0_2 := d1.1.1
 let v7_3 := d1.1.2.2.1
 let v8_4 := d1.1.2.2.2.1
 cond (decide (v8_4 < v7_3)) (cond (ixOK v8_4 v0_2.length) (Option.bind (α := Bool) (G_readBad (Fm.eta (v0_2.getD v8_4.toNat (Fm.mk 0 0 [] [])))) fun r5 => (
 cond r5 (some (Step.done (Step.done v8_4))) (some (Step.next ((v0_2, (), v7_3, IntKind.wrap .i64 (v8_4 + 1), ()), ()))))) none) (some (Step.done (Step.next ((), ())))))) ((x0, (), (x0.length : Int), 0, ()), ())) fun qd6 => match qd6 with
 | .next d6 => (
 some (-1))
 | .done r => some r)
def A_indexBad : An := .seq (.leaf) (.join true { env := [], objs := [] } (.seq (.leaf) (.block (.loop { env := [(0, (.d (.slice .form))), (1, (.c (.fn (.func 61) [] []))), (7, (.d (.int .i64))), (8, (.d (.int .i64)))], objs := [] } (.leaf)))) (.leaf))
def H_indexBad : Nat → RH := fun _ => {}
noncomputable def S_indexBad : Sig := .n [(.d (.slice .form)), (.c (.fn (.func 61) [] []))] (.d (.int .i64)) (fun x => G_indexBad x.1 x.2.1)
theorem S_indexBad_ok : SigOK CX 106 S_indexBad := sigN_of (l := [(61, S_readBad)]) ⟨S_readBad_ok, trivial⟩ (hint := H_indexBad) (an := A_indexBad) (fun x => by kernel_rfl)
noncomputable def G_containsBad1 (x0 : List Fm) (x1 : Unit) : Option (Bool) := (
 Option.bind (α := Int) (G_indexBad x0 ()) fun r1 => (
 some (decide (r1 ≥ 0))))
def A_containsBad1 : An := .leaf
def H_containsBad1 : Nat → RH := fun _ => {}
noncomputable def S_containsBad1 : Sig := .n [(.d (.slice .form)), (.c (.fn (.func 61) [] []))] (.d .bool) (fun x => G_containsBad1 x.1 x.2.1)
theorem S_containsBad1_ok : SigOK CX 60 S_containsBad1 := sigN_of (l := [(106, S_indexBad)]) ⟨S_indexBad_ok, trivial⟩ (hint := H_containsBad1) (an := A_containsBad1) (fun x => by kernel_rfl)
noncomputable def G_read1 (x0 : List UInt8) : Option ((List Fm) × Int × Unit) := (
 cond (decide ((x0.length : Int) > 60000)) (some (([] : List Fm), 2, ())) (Option.bind (α := (List Fm) × Int × Unit) (atF [.d .str] (text1, ()) (([form1], (0 : Int), ()) : List Fm × Int × Unit) (x0, ())) fun r1 => (
 cond (!decide (r1.2.1 = 0)) (some (([] : List Fm), r1.2.1, ())) (Option.bind (α := Bool) (G_containsBad1 r1.1 ()) fun r2 => (
 cond r2 (some (([] : List Fm), 2, ())) (some (r1.1, 0, ())))))))
def A_read1 : An := .leaf
def H_read1 : Nat → RH := fun _ => {}
noncomputable def S_read1 : Sig := .n [(.d .str)] (.tup [(.d (.slice .form)), (.d (.int .i64))]) (fun x => G_read1 x.1)
theorem S_read1_ok : SigOK CX 20 S_read1 := sigN_of (l := [(59, S_parse1), (60, S_containsBad1)]) ⟨S_parse1_ok, S_containsBad1_ok, trivial⟩ (hint := H_read1) (an := A_read1) (fun x => by kernel_rfl)
noncomputable def G_one1 (x0 : List UInt8) : Option (Fm × Int × Unit) := (
 Option.bind (α := (List Fm) × Int × Unit) (G_read1 x0) fun r1 => (
 cond (!decide (r1.2.1 = 0)) (some ((Fm.mk 0 0 ([]) ([] : List Fm)), r1.2.1, ())) (cond (!decide ((r1.1.length : Int) = 1)) (some ((Fm.mk 0 0 ([]) ([] : List Fm)), 4, ())) (cond (ixOK 0 r1.1.length) (some ((Fm.eta (r1.1.getD (0 : Int).toNat (Fm.mk 0 0 [] []))), 0, ())) none))))
def A_one1 : An := .leaf
def H_one1 : Nat → RH := fun _ => {}
noncomputable def S_one1 : Sig := .n [(.d .str)] (.tup [(.d .form), (.d (.int .i64))]) (fun x => G_one1 x.1)
theorem S_one1_ok : SigOK CX 22 S_one1 := sigN_of (l := [(20, S_read1)]) ⟨S_read1_ok, trivial⟩ (hint := H_one1) (an := A_one1) (fun x => by kernel_rfl)
noncomputable def G_sane01  : Option (Bool) := (
 Option.bind (α := Fm × Int × Unit) (G_one1 ([40, 102, 32, 49, 32, 34, 97, 92, 110, 98, 34, 32, 40, 103, 41, 41])) fun r1 => (
 Option.bind (α := Int) (cond (decide (r1.2.1 = 0)) (L_size (Fm.eta r1.1)) (some (0 : Int))) fun r2 => (
 Option.bind (α := Int) (cond (cond (decide (r1.2.1 = 0)) (decide (r2 = 6)) false) (L_depth (Fm.eta r1.1)) (some (0 : Int))) fun r3 => (
 Option.bind (α := List UInt8) (cond (cond (cond (decide (r1.2.1 = 0)) (decide (r2 = 6)) false) (decide (r3 = 3)) false) (G_head (Fm.eta r1.1)) (some ([] : List UInt8))) fun r4 => (
 some (cond (cond (cond (decide (r1.2.1 = 0)) (decide (r2 = 6)) false) (decide (r3 = 3)) false) (decide (r4 = [102])) false))))))
def A_sane01 : An := .leaf
def H_sane01 : Nat → RH := fun _ => {}
noncomputable def S_sane01 : Sig := .n [] (.d .bool) (fun x => G_sane01 )
theorem S_sane01_ok : SigOK CX 26 S_sane01 := sigN_of (l := [(22, S_one1), (36, S_size_l), (37, S_depth_l), (41, S_head)]) ⟨S_one1_ok, S_size_l_ok, S_depth_l_ok, S_head_ok, trivial⟩ (hint := H_sane01) (an := A_sane01) (fun x => by kernel_rfl)
end Go.Ab

set_option maxRecDepth 100000
namespace Go.Ab
open Go Go.RowKit Go.Proofs
mutual
def validS : Fm → Int → Int → Bool × Int
 | .mk k n t l, p, d => if p - 1 < 0 ∨ d = 0 ∨ leafS k n t l = false then (false, p - 1) else validLS l (p - 1) (d - 1)
def validLS : List Fm → Int → Int → Bool × Int
 | [], p, _ => (true, p)
 | f :: r, p, d => if (validS f p d).1 = true then validLS r (validS f p d).2 d else (false, (validS f p d).2)
end
def validF (f : Fm) : Bool := (validS f 20000 100).1
theorem validLS_drop {l : List Fm} {i : Nat} (h : i < l.length) (p d : Int) : validLS (l.drop i) p d = if (validS l[i] p d).1 = true then validLS (l.drop (i + 1)) (validS l[i] p d).2 d else (false, (validS l[i] p d).2) := by
 rw [List.drop_eq_getElem_cons h]; simp only [validLS]
theorem validLS_ok : ∀ (l : List Fm), (∀ f ∈ l, ∀ p d : Int, 0 ≤ p → (validS f p d).1 = true → 0 ≤ (validS f p d).2 ∧ (validS f p d).2 ≤ p) → ∀ p d : Int, 0 ≤ p → (validLS l p d).1 = true → 0 ≤ (validLS l p d).2 ∧ (validLS l p d).2 ≤ p
 | [], _, p, d, hp, _ => ⟨hp, Int.le_refl _⟩
 | f :: r, h, p, d, hp, ht => by
  simp only [validLS] at ht ⊢
  split at ht
  ·rename_i hf
   rw [if_pos hf]
   obtain ⟨h1, h2⟩ := h f (by simp) p d hp hf
   obtain ⟨h3, h4⟩ := validLS_ok r (fun g hg => h g (by simp [hg])) _ d h1 ht
   exact ⟨h3, by omega⟩
  ·cases ht
theorem validS_ok : ∀ f : Fm, ∀ p d : Int, 0 ≤ p → (validS f p d).1 = true → 0 ≤ (validS f p d).2 ∧ (validS f p d).2 ≤ p := Fm.ind fun k n t l ih p d hp ht => by
 simp only [validS] at ht ⊢
 split at ht
 ·cases ht
 ·rename_i hc
  rw [if_neg hc]
  obtain ⟨h1, h2⟩ := validLS_ok l ih (p - 1) (d - 1) (by have := fun h => hc (.inl h); omega) ht
  exact ⟨h1, by omega⟩
def cI (l : List Fm) (p d : Int) : Nat → Int
 | 0 => p
 | i + 1 => match l[i]? with
  | some f => if (validS f (cI l p d i) d).1 = true then (validS f (cI l p d i) d).2 else cI l p d i
  | none => cI l p d i
theorem cI_ok (l : List Fm) (p d : Int) (hp : 0 ≤ p) : ∀ i, 0 ≤ cI l p d i ∧ cI l p d i ≤ p
 | 0 => ⟨hp, Int.le_refl _⟩
 | i + 1 => by
  obtain ⟨h1, h2⟩ := cI_ok l p d hp i
  simp only [cI]
  split
  ·rename_i f hf
   split
   ·rename_i hv
    obtain ⟨h3, h4⟩ := validS_ok f _ d h1 hv
    exact ⟨h3, by omega⟩
   ·exact ⟨h1, h2⟩
  ·exact ⟨h1, h2⟩
theorem validS_eq (f : Fm) (p d : Int) : validS f p d = if p - 1 < 0 ∨ d = 0 ∨ leafS f.k f.n f.t f.l = false then (false, p - 1) else validLS f.l (p - 1) (d - 1) := by
 cases f; simp only [validS]; rfl
theorem valid_up : ∀ k, ∀ (f : Fm) (p d : Int), f.big ≤ 4611686018427387000 → 0 ≤ p → p ≤ 4611686018427387000 → 0 ≤ d → d ≤ 4611686018427387000 → Up (k < f.big) (G_valid k f d (p, ())) ((validS f p d).1, (((validS f p d).2, ()), ()))
 | 0 => fun f p d hb _ _ _ _ => .inr ⟨by unfold G_valid; rfl, by have := big_pos f; omega⟩
 | k + 1 => fun f p d hb hp0 hp1 hd0 hd1 => by
  have hkb := big_kids f
  have hln := length_le_big f.l
  have hmem : ∀ g ∈ f.l, g.big < f.big := fun g hg => by have := big_mem hg; omega
  rw [validS_eq]
  unfold G_valid
  simp only [Fm.eta_eq, leaf_val]
  rw [show IntKind.wrap .i64 (p - 1) = p - 1 from w64 (by omega) (by omega)]
  generalize leafS f.k f.n f.t f.l = b
  generalize f.l = l at hkb hln hmem
  by_cases h1 : p - 1 < 0
  ·simp only [h1, decide_true, cond_true, Bool.not_true, cond_false, Option.bind_some, true_or, if_true]; exact .of rfl
  ·by_cases h2 : d = 0
   ·simp only [h1, h2, decide_false, decide_true, cond_true, cond_false, Bool.not_true, Option.bind_some, true_or, or_true, if_true]; exact .of rfl
   ·cases b with
    | false => simp only [h1, h2, decide_false, cond_true, cond_false, Bool.not_false, Option.bind_some, or_true, if_true]; exact .of rfl
    | true =>
     simp only [h1, h2, decide_false, cond_true, cond_false, Bool.not_false, Bool.not_true, Option.bind_some, Bool.true_eq_false, or_false, if_false]
     refine loop_ix (fun i => (((), d, l, (l.length : Int), (i : Int), ()), ((cI l (p - 1) (d - 1) i, ()), ()))) (fun i => ((validLS (l.drop i) (cI l (p - 1) (d - 1) i) (d - 1)).1, (((validLS (l.drop i) (cI l (p - 1) (d - 1) i) (d - 1)).2, ()), ()))) l.length (fun i hi => ?_) ?_
     ·have e1 : decide ((i : Int) < (l.length : Int)) = true := by simp [hi]
      have e2 : ixOK (i : Int) l.length = true := ixOK_iff.2 (by omega)
      obtain ⟨c1, c2⟩ := cI_ok l (p - 1) (d - 1) (by omega) i
      have hg := hmem _ (List.getElem_mem hi)
      simp only [e1, e2, cond_true, Int.toNat_natCast, getD_in hi, Fm.eta_eq, wrapN (show i < 4611686018427387904 by omega), validLS_drop hi, w64 (show -9223372036854775808 ≤ d - 1 by omega) (by omega)]
      have hcI : cI l (p - 1) (d - 1) (i + 1) = if (validS l[i] (cI l (p - 1) (d - 1) i) (d - 1)).1 = true then (validS l[i] (cI l (p - 1) (d - 1) i) (d - 1)).2 else cI l (p - 1) (d - 1) i := by
       simp only [cI, List.getElem?_eq_getElem hi]
      rcases valid_up k l[i] (cI l (p - 1) (d - 1) i) (d - 1) (by omega) c1 (by omega) (by omega) (by omega) with h | ⟨h, hn⟩
      ·rw [h]
       simp only [Option.bind_some]
       by_cases hv : (validS l[i] (cI l (p - 1) (d - 1) i) (d - 1)).1 = true
       ·rw [if_pos hv] at hcI
        refine .inl ⟨?_, ?_⟩
        ·rw [hcI, hv]; rfl
        ·rw [if_pos hv, hcI]
       ·have hv' : (validS l[i] (cI l (p - 1) (d - 1) i) (d - 1)).1 = false := by simpa using hv
        refine .inr (.inl ⟨.done (false, (((validS l[i] (cI l (p - 1) (d - 1) i) (d - 1)).2, ()), ())), by rw [hv']; rfl, .of ?_⟩)
        rw [if_neg hv]
      ·rw [h]; exact .inr (.inr ⟨rfl, by omega⟩)
     ·refine ⟨.next ((), ((cI l (p - 1) (d - 1) l.length, ()), ())), by simp, .of ?_⟩
      simp [validLS]
theorem valid_val {f : Fm} {p d : Int} (hb : f.big ≤ 4611686018427387000) (h1 : 0 ≤ p) (h2 : p ≤ 4611686018427387000) (h3 : 0 ≤ d) (h4 : d ≤ 4611686018427387000) : L_valid f d (p, ()) = some ((validS f p d).1, (((validS f p d).2, ()), ())) := limF_up (b := f.big) fun k => valid_up k f p d hb h1 h2 h3 h4
theorem rvalid_val {f : Fm} (hb : f.big ≤ 4611686018427387000) : G_rvalid f = some (validF f) := by
 unfold G_rvalid
 rw [Fm.eta_eq, valid_val hb (by omega) (by omega) (by omega) (by omega)]
 rfl
theorem head_val (f : Fm) : G_head f = some (match (if f.k = 3 then f.l else []) with | [] => [] | g :: _ => if g.k = 1 then g.t else []) := by
 unfold G_head
 simp only [Fm.eta_eq, kids_val, Option.bind_some]
 generalize (if f.k = 3 then f.l else []) = l
 cases l with
 | nil => simp [ixOK]
 | cons g r =>
  have e : ixOK 0 (g :: r).length = true := ixOK_iff.2 (by simp only [List.length_cons]; omega)
  have e2 : decide (((g :: r).length : Int) > 0) = true := by simp only [List.length_cons]; simp
  simp only [e, e2, Bool.true_or, cond_true]
  show cond (decide (g.k = 1)) (some g.t) (some []) = _
  by_cases h : g.k = 1 <;> simp [h]
theorem one1_val : G_one1 text1 = some (form1, 0, ()) := by
 have hbig : form1.big ≤ 4611686018427387000 := by decide
 have hv : validF form1 = true := by kernel_rfl
 have hb : G_containsBad1 [form1] () = some false := by
  unfold G_containsBad1 G_indexBad
  rw [loopM_next (l' := (([form1], (), 1, 1, ()), ())) (by
   show (Option.bind (α := Bool) (G_readBad (Fm.eta form1)) fun r5 => _) = _
   unfold G_readBad
   rw [Fm.eta_eq, Fm.eta_eq, rvalid_val hbig, hv]
   rfl), loopM_done (r := .next ((), ())) (by rfl)]
  rfl
 unfold G_one1 G_read1
 have e1 : decide ((text1.length : Int) > 60000) = false := by decide
 have e2 : (atF [.d .str] (text1, ()) (([form1], (0 : Int), ()) : List Fm × Int × Unit) (text1, ())) = some ([form1], (0 : Int), ()) := by kernel_rfl
 rw [e1, e2]
 simp only [cond_false, Option.bind_some, decide_true, Bool.not_true, hb]
 rfl
theorem sane01_val : G_sane01 = some true := by
 have hbig : form1.big ≤ 4611686018427387000 := by decide
 unfold G_sane01
 rw [show ([40, 102, 32, 49, 32, 34, 97, 92, 110, 98, 34, 32, 40, 103, 41, 41] : List UInt8) = text1 from rfl, one1_val]
 simp only [Option.bind_some, decide_true, cond_true, Fm.eta_eq, size_val hbig, depth_val hbig, head_val]
 rfl
end Go.Ab

set_option maxRecDepth 100000
namespace Go.Ab
open Go Go.RowKit Go.Proofs
end Go.Ab

set_option maxRecDepth 100000
namespace Go.Ab
open Go Go.RowKit Go.Proofs
theorem Up.get {R : Type} {o : Option R} {v : R} (h : Up False o v) : o = some v := h.elim id fun h => h.2.elim
def badB (c : UInt8) : Bool := badR c.toNat
theorem idxR_bad (s : List UInt8) : ∀ (f pos : Nat), s.length < pos + f → (0 ≤ idxR badR s f pos ↔ (s.drop pos).any badB = true)
 | 0, pos, h => by
  rw [List.drop_eq_nil_of_le (by omega)]
  simp [idxR]
 | f + 1, pos, h => by
  unfold idxR
  by_cases hp : pos < s.length
  ·rw [if_pos hp, List.drop_eq_getElem_cons hp, List.any_cons]
   have hsz : pos < (⟨s.toArray⟩ : ByteArray).size := by show pos < s.toArray.size; simpa using hp
   have hel : ((⟨s.toArray⟩ : ByteArray)[pos]'hsz) = s[pos] := by simp [ByteArray.getElem_eq_getElem_data]
   by_cases h8 : s[pos].toNat < 128
   ·have hd := decode_ascii ⟨s.toArray⟩ pos hsz (by rw [hel]; exact h8)
    rw [hd, hel]
    show (0 ≤ (if badR ((s[pos].toNat : Nat) : Int) = true then ((pos : Nat) : Int) else _) ↔ _)
    by_cases hb : badB s[pos] = true
    ·have hb' := hb
     unfold badB at hb'
     rw [if_pos hb', hb]
     simp
    ·have hb' := hb
     unfold badB at hb'
     rw [if_neg hb', idxR_bad s f (pos + 1) (by omega)]
     simp [hb]
   ·have hd := decode_high ⟨s.toArray⟩ pos hsz (by rw [hel]; omega)
    have hb1 : badR (Utf8.decode ⟨s.toArray⟩ pos).1 = true := by
     have := hd.1
     unfold badR
     have a1 : ¬ (((Utf8.decode ⟨s.toArray⟩ pos).1 : Int) = 10) := by omega
     have a2 : (126 < ((Utf8.decode ⟨s.toArray⟩ pos).1 : Int)) := by omega
     simp only [a1, a2, decide_true, decide_false, Bool.not_false, Bool.or_true, Bool.and_true]
    have hb2 : badB s[pos] = true := by
     unfold badB badR
     have a1 : ¬ ((s[pos].toNat : Int) = 10) := by omega
     have a2 : (126 < (s[pos].toNat : Int)) := by omega
     simp only [a1, a2, decide_true, decide_false, Bool.not_false, Bool.or_true, Bool.and_true]
    rw [if_pos hb1, hb2]
    simp
  ·rw [if_neg hp, List.drop_eq_nil_of_le (by omega)]
   simp
theorem badT_any (t : List UInt8) : badT t = t.any badB := by
 unfold badT
 have := idxR_bad t (t.length + 1) 0 (by omega)
 rw [List.drop_zero] at this
 cases h : t.any badB with
 | true => exact decide_eq_true (this.2 h)
 | false => exact decide_eq_false fun hc => by have := this.1 hc; rw [h] at this; cases this
mutual
def fieldsF : Fm → Bool
 | .mk k n t l => leafS k n t l && fieldsL l
def fieldsL : List Fm → Bool
 | [] => true
 | f :: r => fieldsF f && fieldsL r
end
theorem fieldsF_eq (f : Fm) : fieldsF f = (leafS f.k f.n f.t f.l && fieldsL f.l) := by cases f; simp only [fieldsF]; rfl
theorem leafS_kids {k n : Int} {t : List UInt8} {l : List Fm} (h : leafS k n t l = true) : k = 3 ∨ l = [] := by
 unfold leafS at h
 by_cases h3 : k = 3
 ·exact .inl h3
 ·by_cases hl : l = []
  ·exact .inr hl
  ·exfalso
   revert h
   split
   ·simp [hl]
   ·split
    ·simp [hl]
    ·split
     ·simp [hl]
     ·simp [h3]
theorem validLS_iff : ∀ (l : List Fm), (∀ f ∈ l, ∀ p d : Int, 0 ≤ p → 0 ≤ d → (validS f p d).1 = (fieldsF f && (decide ((f.size : Int) ≤ p) && decide ((f.depth : Int) ≤ d))) ∧ ((validS f p d).1 = true → (validS f p d).2 = p - f.size)) →
  ∀ p d : Int, 0 ≤ p → 0 ≤ d → (validLS l p d).1 = (fieldsL l && (decide ((Fm.sizeL l : Int) ≤ p) && decide ((Fm.depthL l : Int) ≤ d))) ∧ ((validLS l p d).1 = true → (validLS l p d).2 = p - Fm.sizeL l)
 | [], _, p, d, hp, hd => by
  simp only [validLS, fieldsL, Fm.sizeL, Fm.depthL]
  refine ⟨?_, fun _ => by simp⟩
  simp [hp, hd]
 | f :: r, h, p, d, hp, hd => by
  obtain ⟨h1, h2⟩ := h f (by simp) p d hp hd
  simp only [validLS, fieldsL, Fm.sizeL, Fm.depthL]
  by_cases hv : (validS f p d).1 = true
  ·rw [if_pos hv]
   have h2' := h2 hv
   rw [hv] at h1
   have h1' := h1.symm
   simp only [Bool.and_eq_true, decide_eq_true_eq] at h1'
   obtain ⟨a1, a2, a3⟩ := h1'
   obtain ⟨b1, b2⟩ := validLS_iff r (fun g hg => h g (by simp [hg])) (validS f p d).2 d (by omega) hd
   refine ⟨?_, fun ht => by have := b2 ht; omega⟩
   rw [b1, a1, h2']
   simp only [Bool.true_and]
   congr 2
   ·apply decide_eq_decide.2; omega
   ·apply decide_eq_decide.2; omega
  ·rw [if_neg hv]
   have hv' : (validS f p d).1 = false := by simpa using hv
   rw [hv'] at h1
   refine ⟨?_, fun h => by cases h⟩
   simp only
   symm
   by_cases a1 : fieldsF f = true
   ·by_cases a2 : (f.size : Int) ≤ p
    ·have a3 : ¬ (f.depth : Int) ≤ d := fun a3 => by rw [a1, decide_eq_true a2, decide_eq_true a3] at h1; cases h1
     have : ¬ (((max f.depth (Fm.depthL r) : Nat) : Int) ≤ d) := by omega
     simp only [this, decide_false, Bool.and_false]
    ·have : ¬ (((f.size + Fm.sizeL r : Nat) : Int) ≤ p) := by omega
     simp only [this, decide_false, Bool.false_and, Bool.and_false]
   ·simp [a1]
theorem validS_iff : ∀ f : Fm, ∀ p d : Int, 0 ≤ p → 0 ≤ d → (validS f p d).1 = (fieldsF f && (decide ((f.size : Int) ≤ p) && decide ((f.depth : Int) ≤ d))) ∧ ((validS f p d).1 = true → (validS f p d).2 = p - f.size) := Fm.ind fun k n t l ih p d hp hd => by
 have eS : (Fm.mk k n t l).size = 1 + (if k = 3 then Fm.sizeL l else 0) := by simp only [Fm.size]
 have eD : (Fm.mk k n t l).depth = 1 + (if k = 3 then Fm.depthL l else 0) := by simp only [Fm.depth]
 generalize (Fm.mk k n t l).size = S at eS ⊢
 generalize (Fm.mk k n t l).depth = D at eD ⊢
 simp only [validS, fieldsF]
 by_cases h1 : p - 1 < 0
 ·rw [if_pos (.inl h1)]
  refine ⟨?_, fun h => by cases h⟩
  have : ¬ ((S : Int) ≤ p) := by omega
  simp only [this, decide_false, Bool.false_and, Bool.and_false]
 ·by_cases h2 : d = 0
  ·rw [if_pos (.inr (.inl h2))]
   refine ⟨?_, fun h => by cases h⟩
   have : ¬ ((D : Int) ≤ d) := by omega
   simp only [this, decide_false, Bool.and_false]
  ·by_cases h3 : leafS k n t l = false
   ·rw [if_pos (.inr (.inr h3)), h3]
    exact ⟨by simp, fun h => by cases h⟩
   ·rw [if_neg (fun h => h.elim h1 fun h => h.elim h2 h3)]
    have h3' : leafS k n t l = true := by simpa using h3
    obtain ⟨b1, b2⟩ := validLS_iff l ih (p - 1) (d - 1) (by omega) (by omega)
    have hs : (if k = 3 then Fm.sizeL l else 0) = Fm.sizeL l ∧ (if k = 3 then Fm.depthL l else 0) = Fm.depthL l := by
     rcases leafS_kids h3' with rfl | rfl
     ·simp
     ·simp [Fm.sizeL, Fm.depthL]
    rw [hs.1] at eS
    rw [hs.2] at eD
    rw [h3', b1]
    refine ⟨?_, fun ht => by rw [← b1] at ht; have := b2 ht; omega⟩
    simp only [Bool.true_and]
    congr 2
    ·apply decide_eq_decide.2; omega
    ·apply decide_eq_decide.2; omega
end Go.Ab

set_option maxRecDepth 100000
namespace Go.Ab
open Go Go.RowKit Go.Proofs
mutual
def wr : Fm → List UInt8
 | .mk k n t l => if k = 0 then Lib.itoa n else if k = 1 then t else if k = 2 then 34 :: (escS t ++ [34]) else 40 :: (wrL true l ++ [41])
def wrL : Bool → List Fm → List UInt8
 | _, [] => []
 | b, f :: r => (if b = true then [] else [32]) ++ (wr f ++ wrL false r)
end
theorem wr_eq (f : Fm) : wr f = if f.k = 0 then Lib.itoa f.n else if f.k = 1 then f.t else if f.k = 2 then 34 :: (escS f.t ++ [34]) else 40 :: (wrL true f.l ++ [41]) := by
 cases f; rw [wr]; rfl
theorem wrL_append : ∀ (a c : List Fm) (b : Bool), wrL b (a ++ c) = wrL b a ++ wrL (b && a.isEmpty) c
 | [], c, b => by simp [wrL]
 | f :: a, c, b => by
  simp only [List.cons_append, wrL, wrL_append a c false, List.isEmpty_cons, Bool.and_false, Bool.false_and, List.append_assoc]
theorem wrL_take (l : List Fm) {i : Nat} (h : i < l.length) : wrL true (l.take (i + 1)) = wrL true (l.take i) ++ ((if i = 0 then [] else [32]) ++ wr l[i]) := by
 rw [List.take_add_one, List.getElem?_eq_getElem h, wrL_append]
 congr 1
 simp only [Option.toList_some, wrL, List.append_nil, Bool.true_and]
 by_cases hi : i = 0
 ·subst hi; simp
 ·have : (l.take i).isEmpty = false := by
   cases hl : l.take i with
   | nil =>
    have := congrArg List.length hl
    rw [List.length_take, Nat.min_eq_left (by omega)] at this
    exact absurd this hi
   | cons a r => rfl
  rw [this]; simp [hi]
theorem nDigits_le : ∀ (k u : Nat), u < 10 ^ k → Lib.nDigits u ≤ k + 1
 | 0, u, h => by rw [Lib.nDigits_small (by simp at h; omega)]; omega
 | k + 1, u, h => by
  by_cases h10 : u < 10
  ·rw [Lib.nDigits_small h10]; omega
  ·rw [Lib.nDigits_big h10]
   have := nDigits_le k (u / 10) (by rw [Nat.pow_succ] at h; omega)
   omega
theorem itoa_len {n : Int} (h1 : -1152921504606846976 ≤ n) (h2 : n ≤ 1152921504606846976) : (Lib.itoa n).length ≤ 21 := by
 unfold Lib.itoa
 split
 ·rw [List.length_cons, Lib.decDigits_length]
  have := nDigits_le 19 n.natAbs (by omega)
  omega
 ·rw [Lib.decDigits_length]
  have := nDigits_le 19 n.toNat (by omega)
  omega
theorem escS_le (t : List UInt8) : (escS t).length ≤ 2 * t.length := by
 rw [escS_len]
 have := cntS_le t
 omega
theorem wr_len : ∀ f : Fm, fieldsF f = true → (wr f).length + 1 ≤ 4101 * f.size := Fm.ind fun k n t l ih hf => by
 rw [fieldsF_eq] at hf
 simp only [Bool.and_eq_true] at hf
 obtain ⟨h1, h2⟩ := hf
 simp only [Fm.k, Fm.n, Fm.t, Fm.l] at h1 h2
 have hs : 1 ≤ (Fm.mk k n t l).size := by rw [Fm.size_eq]; omega
 rw [wr]
 unfold leafS at h1
 by_cases c0 : k = 0
 ·rw [if_pos c0] at h1 ⊢
  simp only [Bool.and_eq_true, decide_eq_true_eq] at h1
  have := itoa_len h1.2.2.1 h1.2.2.2
  omega
 ·rw [if_neg c0] at h1 ⊢
  by_cases c1 : k = 1
  ·rw [if_pos c1] at h1 ⊢
   simp only [wordS, Bool.and_eq_true, decide_eq_true_eq] at h1
   omega
  ·rw [if_neg c1] at h1 ⊢
   by_cases c2 : k = 2
   ·rw [if_pos c2] at h1 ⊢
    simp only [Bool.and_eq_true, decide_eq_true_eq] at h1
    have := escS_le t
    simp only [List.length_cons, List.length_append, List.length_nil]
    omega
   ·rw [if_neg c2] at h1 ⊢
    by_cases c3 : k = 3
    ·have key : ∀ (l : List Fm) (b : Bool), (∀ f ∈ l, fieldsF f = true → (wr f).length + 1 ≤ 4101 * f.size) → fieldsL l = true → (wrL b l).length ≤ 4101 * Fm.sizeL l := by
      intro l
      induction l with
      | nil => intro b _ _; simp [wrL]
      | cons f r ihr =>
       intro b hi hl
       simp only [fieldsL, Bool.and_eq_true] at hl
       have e1 := hi f (by simp) hl.1
       have e2 := ihr false (fun g hg => hi g (List.mem_cons_of_mem _ hg)) hl.2
       simp only [wrL, List.length_append, Fm.sizeL]
       have : (if b = true then [] else [32] : List UInt8).length ≤ 1 := by split <;> simp
       omega
     have := key l true ih h2
     rw [Fm.size_eq]
     have e3 : (if (Fm.mk k n t l).k = 3 then (Fm.mk k n t l).l else []) = l := if_pos c3
     rw [e3]
     simp only [List.length_cons, List.length_append, List.length_nil]
     omega
    ·rw [if_neg c3] at h1; cases h1
theorem wrL_len : ∀ (l : List Fm) (b : Bool), fieldsL l = true → (wrL b l).length ≤ 4101 * Fm.sizeL l
 | [], b, _ => by simp [wrL]
 | f :: r, b, hl => by
  simp only [fieldsL, Bool.and_eq_true] at hl
  have e1 := wr_len f hl.1
  have e2 := wrL_len r false hl.2
  simp only [wrL, List.length_append, Fm.sizeL]
  have : (if b = true then [] else [32] : List UInt8).length ≤ 1 := by split <;> simp
  omega
theorem ints_append (a b : List UInt8) : intsOf a ++ intsOf b = intsOf (a ++ b) := by unfold intsOf; rw [List.map_append]
theorem bldStr_val {x : List UInt8} {b : Bool} {l : List Int} (h : l.length + x.length ≤ 140737488355328) : G_bldStr x (b, (), ()) l = some (((x.length : Int), true, ()), ((true, (), ()), l ++ intsOf x, ())) := by
 unfold G_bldStr
 simp only [Option.bind_some, List.length_map, Nat.mul_one]
 rw [decide_eq_true h]
 rfl
theorem bldByte_val {c : Int} {b : Bool} {l : List Int} (h : l.length + 1 ≤ 140737488355328) : G_bldByte c (b, (), ()) l = some (true, ((true, (), ()), l ++ [c], ())) := by
 unfold G_bldByte
 simp only [Option.bind_some, List.length_cons, List.length_nil, Nat.mul_one, Nat.zero_add]
 rw [decide_eq_true h]
 rfl
end Go.Ab

set_option maxRecDepth 100000
namespace Go.Ab
open Go Go.RowKit Go.Proofs
theorem fieldsL_memX : ∀ {l : List Fm}, fieldsL l = true → ∀ f ∈ l, fieldsF f = true
 | [], _, f, h => by cases h
 | g :: r, hl, f, h => by
  simp only [fieldsL, Bool.and_eq_true] at hl
  rcases List.mem_cons.1 h with rfl | h
  ·exact hl.1
  ·exact fieldsL_memX hl.2 f h
theorem fieldsL_of {l : List Fm} (h : ∀ f ∈ l, fieldsF f = true) : fieldsL l = true := by
 induction l with
 | nil => simp [fieldsL]
 | cons f r ih => simp only [fieldsL, Bool.and_eq_true]; exact ⟨h f (by simp), ih fun g hg => h g (List.mem_cons_of_mem _ hg)⟩
theorem fieldsL_take {l : List Fm} (h : fieldsL l = true) (i : Nat) : fieldsL (l.take i) = true := fieldsL_of fun f hf => fieldsL_memX h f (List.mem_of_mem_take hf)
theorem newRep_val : G_newRep ([[92], [92, 92], [34], [92, 34], [10], [92, 110]]) = some ((), ((0, 0, 0, (), (), ()), old6, ())) := by
 unfold G_newRep
 rfl
theorem replF_val {s : List UInt8} (h : s.length ≤ 1000000) : replF (0, 0, 0, (), (), ()) old6 s = some (escS s, ()) := by
 unfold replF
 rw [if_pos ⟨rfl, rfl, rfl, h⟩]
theorem itoaF_val {n : Int} (h1 : -1152921504606846976 ≤ n) (h2 : n ≤ 1152921504606846976) : itoaF n = some (Lib.itoa n) := by
 unfold itoaF
 rw [if_pos ⟨by omega, by omega⟩]
theorem write_up : ∀ k, ∀ (f : Fm) (b : Bool) (l : List Int), fieldsF f = true → f.big ≤ 4611686018427387000 → l.length + 4101 * f.size ≤ 100000000000 → Up (k < f.big) (G_write k f (b, (), ()) l) ((), ((true, (), ()), l ++ intsOf (wr f), ()))
 | 0 => fun f b l hf hb hl => .inr ⟨by unfold G_write; rfl, by have := big_pos f; omega⟩
 | k + 1 => fun f b l hf hb hl => by
  have hlen := wr_len f hf
  have hw := wr_eq f
  have hf' := hf
  rw [fieldsF_eq] at hf'
  simp only [Bool.and_eq_true] at hf'
  obtain ⟨h1, h2⟩ := hf'
  unfold leafS at h1
  unfold G_write
  by_cases c0 : f.k = 0
  ·rw [if_pos c0] at h1 hw
   simp only [Bool.and_eq_true, decide_eq_true_eq] at h1
   rw [decide_eq_true c0, cond_true, itoaF_val h1.2.2.1 h1.2.2.2]
   simp only [Option.bind_some]
   rw [hw] at hlen ⊢
   rw [bldStr_val (by omega)]
   exact .of rfl
  ·rw [if_neg c0] at h1 hw
   rw [decide_eq_false c0, cond_false]
   by_cases c1 : f.k = 1
   ·rw [if_pos c1] at h1 hw
    rw [decide_eq_true c1, cond_true]
    rw [hw] at hlen ⊢
    rw [bldStr_val (by omega)]
    exact .of rfl
   ·rw [if_neg c1] at h1 hw
    rw [decide_eq_false c1, cond_false]
    by_cases c2 : f.k = 2
    ·rw [if_pos c2] at h1 hw
     simp only [Bool.and_eq_true, decide_eq_true_eq] at h1
     rw [decide_eq_true c2, cond_true]
     rw [hw] at hlen ⊢
     simp only [List.length_cons, List.length_append, List.length_nil] at hlen
     rw [bldByte_val (by omega)]
     simp only [Option.bind_some, newRep_val]
     rw [replF_val (by omega)]
     simp only [Option.bind_some]
     rw [bldStr_val (by simp only [List.length_append, List.length_cons, List.length_nil]; omega)]
     simp only [Option.bind_some]
     rw [bldByte_val (by simp only [List.length_append, List.length_cons, List.length_nil, ints_len]; omega)]
     refine .of ?_
     simp only [Option.bind_some]
     have : l ++ [34] ++ intsOf (escS f.t) ++ [34] = l ++ intsOf (34 :: (escS f.t ++ [34])) := by
      have e1 : intsOf (34 :: (escS f.t ++ [34])) = [34] ++ (intsOf (escS f.t) ++ [34]) := by
       rw [show (34 :: (escS f.t ++ [34]) : List UInt8) = [34] ++ (escS f.t ++ [34]) from rfl, ← ints_append, ← ints_append]
       rfl
      rw [e1]
      simp only [List.append_assoc]
     rw [this]
    ·rw [if_neg c2] at h1 hw
     rw [decide_eq_false c2, cond_false]
     have c3 : f.k = 3 := by
      by_cases c3 : f.k = 3
      ·exact c3
      ·rw [if_neg c3] at h1; cases h1
     have hsz : f.size = 1 + Fm.sizeL f.l := by rw [Fm.size_eq, if_pos c3]
     have hbk := big_kids f
     have hll := length_le_big f.l
     rw [hw] at hlen ⊢
     simp only [List.length_cons, List.length_append, List.length_nil] at hlen
     rw [bldByte_val (by omega)]
     simp only [Option.bind_some]
     refine loop_ix (A := Unit × ((Bool × Unit × Unit) × (List Int) × Unit)) (fun i => (((), f.l, (f.l.length : Int), (i : Int), ()), ((true, (), ()), l ++ intsOf (40 :: wrL true (f.l.take i)), ()))) (fun i => ((), ((true, (), ()), l ++ intsOf (40 :: (wrL true f.l ++ [41])), ()))) f.l.length (fun i hi => ?_) ?_
     ·have e1 : decide ((i : Int) < (f.l.length : Int)) = true := by simp [hi]
      have e2 : ixOK (i : Int) f.l.length = true := ixOK_iff.2 (by omega)
      have hg := big_mem (List.getElem_mem hi)
      have hgf := fieldsL_memX h2 _ (List.getElem_mem hi)
      have hs1 := sizeL_take f.l hi
      have hs2 := sizeL_take_le f.l (i + 1)
      have hw1 := wrL_len (f.l.take i) true (fieldsL_take h2 i)
      simp only [e1, e2, cond_true, Int.toNat_natCast, getD_in hi]
      have step : ∀ (l' : List Int), l'.length + 4101 * f.l[i].size ≤ 100000000000 → l' ++ intsOf (wr f.l[i]) = l ++ intsOf (40 :: wrL true (f.l.take (i + 1))) →
        (Option.bind (α := Unit × ((Bool × Unit × Unit) × (List Int) × Unit)) (G_write k (Fm.mk f.l[i].k f.l[i].n f.l[i].t f.l[i].l) (true, (), ()) l') fun r25 =>
         some (Step.next (R := (Unit × Unit) × ((Bool × Unit × Unit) × (List Int) × Unit)) (((), f.l, (f.l.length : Int), IntKind.wrap .i64 ((i : Int) + 1), ()), ((r25.2.1.1, (), ()), r25.2.2.1, ())))) =
         some (.next (((), f.l, (f.l.length : Int), ((i + 1 : Nat) : Int), ()), ((true, (), ()), l ++ intsOf (40 :: wrL true (f.l.take (i + 1))), ()))) ∨
        (Option.bind (α := Unit × ((Bool × Unit × Unit) × (List Int) × Unit)) (G_write k (Fm.mk f.l[i].k f.l[i].n f.l[i].t f.l[i].l) (true, (), ()) l') fun r25 =>
         some (Step.next (R := (Unit × Unit) × ((Bool × Unit × Unit) × (List Int) × Unit)) (((), f.l, (f.l.length : Int), IntKind.wrap .i64 ((i : Int) + 1), ()), ((r25.2.1.1, (), ()), r25.2.2.1, ())))) = none ∧ k + 1 < f.big := by
       intro l' hl' he
       rw [show Fm.mk f.l[i].k f.l[i].n f.l[i].t f.l[i].l = f.l[i] from Fm.eta_eq _, wrapN (show i < 4611686018427387904 by omega)]
       rcases write_up k f.l[i] true l' hgf (by omega) hl' with h | ⟨h, hn⟩
       ·rw [h, he]; exact .inl rfl
       ·rw [h]; exact .inr ⟨rfl, by omega⟩
      have hcl : (l ++ intsOf (40 :: wrL true (f.l.take i))).length = l.length + 1 + (wrL true (f.l.take i)).length := by
       rw [List.length_append, ints_len, List.length_cons]; omega
      have htk := wrL_take f.l hi
      by_cases hi0 : i = 0
      ·subst hi0
       have e3 : decide (((0 : Nat) : Int) > 0) = false := rfl
       rw [e3, cond_false]
       simp only [Option.bind_some]
       rcases step (l ++ intsOf (40 :: wrL true (f.l.take 0))) (by rw [hcl]; omega) (by
        rw [List.append_assoc, ints_append]
        congr 2
        rw [htk]
        simp) with h | h
       ·rw [h]; exact .inl ⟨rfl, trivial⟩
       ·rw [h.1]; exact .inr (.inr ⟨rfl, h.2⟩)
      ·have e3 : decide ((i : Int) > 0) = true := decide_eq_true (by omega)
       rw [e3, cond_true, bldByte_val (by rw [hcl]; omega)]
       simp only [Option.bind_some]
       rcases step (l ++ intsOf (40 :: wrL true (f.l.take i)) ++ [32]) (by rw [List.length_append, hcl]; simp only [List.length_cons, List.length_nil]; omega) (by
        rw [htk, if_neg hi0]
        rw [show (40 :: (wrL true (f.l.take i) ++ ([32] ++ wr f.l[i])) : List UInt8) = (40 :: wrL true (f.l.take i)) ++ ([32] ++ wr f.l[i]) from rfl, ← ints_append, ← ints_append]
        simp only [List.append_assoc]
        rfl) with h | h
       ·rw [h]; exact .inl ⟨rfl, trivial⟩
       ·rw [h.1]; exact .inr (.inr ⟨rfl, h.2⟩)
     ·have e1 : decide ((f.l.length : Int) < (f.l.length : Int)) = false := by simp
      refine ⟨_, by simp only [e1, cond_false]; rfl, ?_⟩
      simp only [List.take_length]
      rw [bldByte_val (by rw [List.length_append, ints_len, List.length_cons]; omega)]
      refine .of ?_
      simp only [Option.bind_some]
      rw [show (40 :: (wrL true f.l ++ [41]) : List UInt8) = (40 :: wrL true f.l) ++ [41] from rfl, ← ints_append, ← List.append_assoc]
      rfl
theorem write_val {f : Fm} {b : Bool} {l : List Int} (hf : fieldsF f = true) (hb : f.big ≤ 4611686018427387000) (hl : l.length + 4101 * f.size ≤ 100000000000) : L_write f (b, (), ()) l = some ((), ((true, (), ()), l ++ intsOf (wr f), ())) := limF_up (b := f.big) fun k => write_up k f b l hf hb hl
end Go.Ab

set_option maxRecDepth 100000
namespace Go.Ab
open Go Go.RowKit Go.Proofs
end Go.Ab

set_option maxRecDepth 100000
namespace Go.Ab
open Go Go.RowKit Go.Proofs
def wrV (f : Fm) : List UInt8 := if validF f = true then wr f else []
theorem validF_iff (f : Fm) : validF f = (fieldsF f && (decide ((f.size : Int) ≤ 20000) && decide ((f.depth : Int) ≤ 100))) := (validS_iff f 20000 100 (by omega) (by omega)).1
theorem validF_of {f : Fm} (h : validF f = true) : fieldsF f = true ∧ f.size ≤ 20000 := by
 rw [validF_iff] at h
 simp only [Bool.and_eq_true, decide_eq_true_eq] at h
 exact ⟨h.1, by omega⟩
theorem wrV_len (f : Fm) : (wrV f).length ≤ 4101 * 20000 := by
 unfold wrV
 split
 ·rename_i h
  obtain ⟨h1, h2⟩ := validF_of h
  have := wr_len f h1
  omega
 ·simp
theorem rWrite_val {f : Fm} (hb : f.big ≤ 4611686018427387000) : G_rWrite f = some (wrV f) := by
 unfold G_rWrite wrV
 simp only [Fm.eta_eq, rvalid_val hb, Option.bind_some]
 by_cases hv : validF f = true
 ·obtain ⟨h1, h2⟩ := validF_of hv
  rw [hv, if_pos rfl]
  simp only [Bool.not_true, cond_false]
  rw [write_val h1 hb (by simp only [List.length_nil]; omega)]
  simp only [Option.bind_some, List.nil_append, bytes_ints, Option.map_some]
 ·rw [if_neg hv, eq_false_of_ne_true hv]
  rfl
end Go.Ab

set_option maxRecDepth 100000
namespace Go.Ab
open Go Go.RowKit Go.Proofs
noncomputable def G_numberA (x0 : List UInt8) : Option (Int × Int × Unit) := (
 cond ((ixOK 0 (trimPrefixF (x0) ([45])).length) || !(decide (((trimPrefixF (x0) ([45])).length : Int) > 1))) (cond (cond (cond (decide (((trimPrefixF (x0) ([45])).length : Int) > 1)) (decide (byteAt (trimPrefixF (x0) ([45])) 0 = 48)) false) true (decide (x0 = [45, 48]))) (some (0, 4, ())) (Option.bind (α := Int × Bool × Unit) (atoiF (x0)) fun r1 => (
 cond (cond (cond (!r1.2.1) true (decide (r1.1 < (-1152921504606846976)))) true (decide (r1.1 > 1152921504606846976))) (some (0, 5, ())) (some (r1.1, 0, ()))))) none)
def A_numberA : An := .leaf
def H_numberA : Nat → RH := fun _ => {}
noncomputable def S_numberA : Sig := .n [(.d .str)] (.tup [(.d (.int .i64)), (.d (.int .i64))]) (fun x => G_numberA x.1)
theorem S_numberA_ok : SigOK CX 141 S_numberA := sigN_of (l := [(166, S_trimPrefix), (168, S_atoiAll)]) ⟨S_trimPrefix_ok, S_atoiAll_ok, trivial⟩ (hint := H_numberA) (an := A_numberA) (fun x => by kernel_rfl)
noncomputable def G_nextA (o0 : (List UInt8) × Int × Unit) : Option (((Int × Fm) × Bool × Int × Unit) × (((List UInt8) × Int × Unit) × Unit)) := (
 Option.bind (α := (Unit) × (((List UInt8) × Int × Unit) × Unit)) (G_skip (o0.1, o0.2.1, ())) fun r1 => (
 cond (decide (r1.2.1.2.1 = (r1.2.1.1.length : Int))) (some (((0, (Fm.mk 0 0 ([]) ([] : List Fm))), false, 0, ()), ((r1.2.1.1, r1.2.1.2.1, ()), ()))) (cond (ixOK r1.2.1.2.1 r1.2.1.1.length) (cond (cond (decide (byteAt r1.2.1.1 r1.2.1.2.1 = 40)) true (decide (byteAt r1.2.1.1 r1.2.1.2.1 = 41))) (some (((byteAt r1.2.1.1 r1.2.1.2.1, (Fm.mk 0 0 ([]) ([] : List Fm))), true, 0, ()), ((r1.2.1.1, IntKind.wrap .i64 (r1.2.1.2.1 + 1), ()), ()))) (cond (decide (byteAt r1.2.1.1 r1.2.1.2.1 = 34)) (Option.bind (α := ((List UInt8) × Int × Unit) × (((List UInt8) × Int × Unit) × Unit)) (G_text (r1.2.1.1, r1.2.1.2.1, ())) fun r2 => (
 some (((0, (Fm.mk 2 0 r2.1.1 ([] : List Fm))), true, r2.1.2.1, ()), ((r2.2.1.1, r2.2.1.2.1, ()), ())))) (Option.bind (α := Bool) (outsideF (byteAt r1.2.1.1 r1.2.1.2.1)) fun r3 => (
 cond r3 (some (((0, (Fm.mk 0 0 ([]) ([] : List Fm))), true, 4, ()), ((r1.2.1.1, r1.2.1.2.1, ()), ()))) (Option.bind (α := (Unit × Unit × Int × Unit) × (((List UInt8) × Int × Unit) × (Int × Int × Int × (List UInt8) × Unit × Unit) × Unit))
 (loopM (L := (Unit × Unit × Int × Unit) × (((List UInt8) × Int × Unit) × (Int × Int × Int × (List UInt8) × Unit × Unit) × Unit)) (R := (Unit × Unit × Int × Unit) × (((List UInt8) × Int × Unit) × (Int × Int × Int × (List UInt8) × Unit × Unit) × Unit)) (fun d4 => (
 let c5 := d4.2.1.1
 let c6 := d4.2.1.2.1
 let v8_7 := d4.1.2.2.1
 cond ((ixOK c6 c5.length) || !(decide (c6 < (c5.length : Int)))) (Option.bind (α := Bool) (cond (decide (c6 < (c5.length : Int))) (outsideF (byteAt c5 c6)) (some false)) fun r8 => (
 cond (cond (decide (c6 < (c5.length : Int))) (!r8) false) (some (Step.next (((), (), v8_7, ()), ((c5, IntKind.wrap .i64 (c6 + 1), ()), (d4.2.2.1.1, d4.2.2.1.2.1, d4.2.2.1.2.2.1, d4.2.2.1.2.2.2.1, (), ()), ())))) (some (Step.done (((), (), v8_7, ()), ((c5, c6, ()), (d4.2.2.1.1, d4.2.2.1.2.1, d4.2.2.1.2.2.1, d4.2.2.1.2.2.2.1, (), ()), ())))))) none)) (((), (), r1.2.1.2.1, ()), ((r1.2.1.1, r1.2.1.2.1, ()), (0, 0, 0, [], (), ()), ()))) fun d9 => (
 let c10 := d9.2.1.1
 let c11 := d9.2.1.2.1
 let v8_12 := d9.1.2.2.1
 cond (slOK v8_12 c11 c10.length) (Option.bind (α := Bool) (numericF ((c10.drop v8_12.toNat).take (c11.toNat - v8_12.toNat))) fun r13 => (
 cond r13 (Option.bind (α := Int × Int × Unit) (G_numberA ((c10.drop v8_12.toNat).take (c11.toNat - v8_12.toNat))) fun r14 => (
 some (((0, (Fm.mk 0 r14.1 ([]) ([] : List Fm))), true, r14.2.1, ()), ((c10, c11, ()), ())))) (cond (decide ((((c10.drop v8_12.toNat).take (c11.toNat - v8_12.toNat)).length : Int) > 30)) (some (((d9.2.2.1.1, (Fm.mk d9.2.2.1.2.1 d9.2.2.1.2.2.1 d9.2.2.1.2.2.2.1 ([] : List Fm))), true, 4, ()), ((c10, c11, ()), ()))) (some (((0, (Fm.mk 1 0 ((c10.drop v8_12.toNat).take (c11.toNat - v8_12.toNat)) ([] : List Fm))), true, 0, ()), ((c10, c11, ()), ())))))) none)))))) none)))
def A_nextA : An := .seq (.leaf) (.seq (.leaf) (.seq (.leaf) (.seq (.leaf) (.seq (.leaf) (.join false { env := [(0, (.ref 0 0)), (2, (.ref 1 0)), (8, (.d (.int .i64)))], objs := [(true, .cells 132 [(.d .str), (.d (.int .i64))]), (false, .cells 134 [(.d (.int .u8)), (.d (.int .i64)), (.d (.int .i64)), (.d .str), (.c (.base (.slice none 0 0)))])] } (.block (.loop { env := [(0, (.ref 0 0)), (2, (.ref 1 0)), (8, (.d (.int .i64)))], objs := [(true, .cells 132 [(.d .str), (.d (.int .i64))]), (false, .cells 134 [(.d (.int .u8)), (.d (.int .i64)), (.d (.int .i64)), (.d .str), (.c (.base (.slice none 0 0)))])] } (.leaf))) (.leaf))))))
def H_nextA : Nat → RH := fun r => match r with
 | 1 => { H := { ac := [13] } }
 | 9 => { H := { ac := [55] } }
 | _ => {}
noncomputable def S_nextA : Sig := .o { pre := [(false, .cells 132 [(.d .str), (.d (.int .i64))])], args := [(.ref 0 0)], post := [(true, .cells 132 [(.d .str), (.d (.int .i64))])], res := (.tup [(.d (.pr (.int .u8) .form)), (.d .bool), (.d (.int .i64))]), f := fun x => G_nextA x.2.1 }
theorem S_nextA_ok : SigOK CX 104 S_nextA := sigO_of (l := [(137, S_skip), (138, S_text), (139, S_outside), (140, S_numeric), (141, S_numberA)]) ⟨S_skip_ok, S_text_ok, S_outside_ok, S_numeric_ok, S_numberA_ok, trivial⟩ (hint := H_nextA) (an := A_nextA) (by kernel_rfl) (fun x => by kernel_rfl)
end Go.Ab

set_option maxRecDepth 100000
namespace Go.Ab
open Go Go.RowKit Go.Proofs
end Go.Ab

set_option maxRecDepth 100000
namespace Go.Ab
open Go Go.RowKit Go.Proofs
noncomputable def G_parse (x0 : List UInt8) : Option ((List Fm) × Int × Unit) := (
 loopM (L := (Unit × Unit × Unit) × (((List UInt8) × Int × Unit) × (List (List Fm)) × Unit)) (R := (List Fm) × Int × Unit) (fun d1 => (
 let c2 := d1.2.1.1
 let c3 := d1.2.1.2.1
 let l4 := d1.2.2.1
 Option.bind (α := ((Int × Fm) × Bool × Int × Unit) × (((List UInt8) × Int × Unit) × Unit)) (G_nextA (c2, c3, ())) fun r5 => (
 Option.bind (α := Step ((Unit × Unit × (Int × Int × Int × (List UInt8) × (List Fm) × Unit) × Unit) × (((List UInt8) × Int × Unit) × (List (List Fm)) × Unit)) (Step ((Unit × Unit × Unit) × (((List UInt8) × Int × Unit) × (List (List Fm)) × Unit)) ((List Fm) × Int × Unit)))
 (cond (!decide (r5.1.2.2.1 = 0)) (some (Step.done (Step.done (([] : List Fm), r5.1.2.2.1, ())))) (cond (cond (!r5.1.2.1) (decide (IntKind.wrap .i64 ((l4.length : Int) - 1) > 0)) false) (some (Step.done (Step.done (([] : List Fm), 12, ())))) (cond (!r5.1.2.1) (cond (ixOK 0 l4.length) (cond (decide ((0 : Int).toNat < l4.length)) (some (Step.done (Step.done ((l4.getD ((0 : Int).toNat) ([] : List Fm)), 0, ())))) none) none) (cond (decide (r5.1.1.1 = 40)) (cond (decide ((l4.length + 1) * 24 ≤ 140737488355328)) (some (Step.next (((), (), (r5.1.1.1, r5.1.1.2.k, r5.1.1.2.n, r5.1.1.2.t, r5.1.1.2.l, ()), ()), ((r5.2.1.1, r5.2.1.2.1, ()), l4 ++ [([] : List Fm)], ())))) none) (cond (cond (decide (r5.1.1.1 = 41)) (decide (IntKind.wrap .i64 ((l4.length : Int) - 1) = 0)) false) (some (Step.done (Step.done (([] : List Fm), 4, ())))) (cond (decide (r5.1.1.1 = 41)) (cond (ixOK (IntKind.wrap .i64 ((l4.length : Int) - 1)) l4.length) (cond (decide ((IntKind.wrap .i64 ((l4.length : Int) - 1)).toNat < l4.length)) (cond (hiOK (IntKind.wrap .i64 ((l4.length : Int) - 1)) l4.length) (mgC (cond (ixOK (IntKind.wrap .i64 (IntKind.wrap .i64 ((l4.length : Int) - 1) - 1)) ((IntKind.wrap .i64 ((l4.length : Int) - 1)).toNat)) (cond (decide ((IntKind.wrap .i64 (IntKind.wrap .i64 ((l4.length : Int) - 1) - 1)).toNat < (l4.take (IntKind.wrap .i64 ((l4.length : Int) - 1)).toNat).length)) (cond (decide ((IntKind.wrap .i64 (IntKind.wrap .i64 ((l4.length : Int) - 1) - 1)).toNat < (l4.take (IntKind.wrap .i64 ((l4.length : Int) - 1)).toNat).length) && decide ((((l4.take (IntKind.wrap .i64 ((l4.length : Int) - 1)).toNat).getD ((IntKind.wrap .i64 (IntKind.wrap .i64 ((l4.length : Int) - 1) - 1)).toNat) ([] : List Fm)).length + ([(Fm.mk 3 0 ([]) (l4.getD ((IntKind.wrap .i64 ((l4.length : Int) - 1)).toNat) ([] : List Fm)))]).length) * 56 ≤ 140737488355328)) (cond (ixOK (IntKind.wrap .i64 (IntKind.wrap .i64 ((l4.length : Int) - 1) - 1)) ((IntKind.wrap .i64 ((l4.length : Int) - 1)).toNat)) (cond (decide ((IntKind.wrap .i64 (IntKind.wrap .i64 ((l4.length : Int) - 1) - 1)).toNat = (IntKind.wrap .i64 (IntKind.wrap .i64 ((l4.length : Int) - 1) - 1)).toNat) && decide ((IntKind.wrap .i64 (IntKind.wrap .i64 ((l4.length : Int) - 1) - 1)).toNat < (l4.take (IntKind.wrap .i64 ((l4.length : Int) - 1)).toNat).length)) (some (Step.next (((), (), (r5.1.1.1, r5.1.1.2.k, r5.1.1.2.n, r5.1.1.2.t, r5.1.1.2.l, ()), ()), ((r5.2.1.1, r5.2.1.2.1, ()), (l4.take (IntKind.wrap .i64 ((l4.length : Int) - 1)).toNat).set ((IntKind.wrap .i64 (IntKind.wrap .i64 ((l4.length : Int) - 1) - 1)).toNat) (((l4.take (IntKind.wrap .i64 ((l4.length : Int) - 1)).toNat).getD ((IntKind.wrap .i64 (IntKind.wrap .i64 ((l4.length : Int) - 1) - 1)).toNat) ([] : List Fm)) ++ ([(Fm.mk 3 0 ([]) (l4.getD ((IntKind.wrap .i64 ((l4.length : Int) - 1)).toNat) ([] : List Fm)))])), ())))) none) none) none) none) none) (cond (ixOK (IntKind.wrap .i64 (IntKind.wrap .i64 ((l4.length : Int) - 1) - 1)) ((IntKind.wrap .i64 ((l4.length : Int) - 1)).toNat)) (cond (decide ((IntKind.wrap .i64 (IntKind.wrap .i64 ((l4.length : Int) - 1) - 1)).toNat < (l4.take (IntKind.wrap .i64 ((l4.length : Int) - 1)).toNat).length)) (cond (decide ((IntKind.wrap .i64 (IntKind.wrap .i64 ((l4.length : Int) - 1) - 1)).toNat < (l4.take (IntKind.wrap .i64 ((l4.length : Int) - 1)).toNat).length) && decide ((((l4.take (IntKind.wrap .i64 ((l4.length : Int) - 1)).toNat).getD ((IntKind.wrap .i64 (IntKind.wrap .i64 ((l4.length : Int) - 1) - 1)).toNat) ([] : List Fm)).length + ([(Fm.mk 0 0 ([]) ([] : List Fm))]).length) * 56 ≤ 140737488355328)) (cond (ixOK (IntKind.wrap .i64 (IntKind.wrap .i64 ((l4.length : Int) - 1) - 1)) ((IntKind.wrap .i64 ((l4.length : Int) - 1)).toNat)) (cond (decide ((IntKind.wrap .i64 (IntKind.wrap .i64 ((l4.length : Int) - 1) - 1)).toNat = (IntKind.wrap .i64 (IntKind.wrap .i64 ((l4.length : Int) - 1) - 1)).toNat) && decide ((IntKind.wrap .i64 (IntKind.wrap .i64 ((l4.length : Int) - 1) - 1)).toNat < (l4.take (IntKind.wrap .i64 ((l4.length : Int) - 1)).toNat).length)) (cond (ixOK (((l4.take (IntKind.wrap .i64 ((l4.length : Int) - 1)).toNat).getD ((IntKind.wrap .i64 (IntKind.wrap .i64 ((l4.length : Int) - 1) - 1)).toNat) ([] : List Fm)).length : Int) (((l4.take (IntKind.wrap .i64 ((l4.length : Int) - 1)).toNat).getD ((IntKind.wrap .i64 (IntKind.wrap .i64 ((l4.length : Int) - 1) - 1)).toNat) ([] : List Fm)).length + ([(Fm.mk 0 0 ([]) ([] : List Fm))]).length)) (cond ((decide (((l4.take (IntKind.wrap .i64 ((l4.length : Int) - 1)).toNat).getD ((IntKind.wrap .i64 (IntKind.wrap .i64 ((l4.length : Int) - 1) - 1)).toNat) ([] : List Fm)).length ≤ (((l4.take (IntKind.wrap .i64 ((l4.length : Int) - 1)).toNat).getD ((IntKind.wrap .i64 (IntKind.wrap .i64 ((l4.length : Int) - 1) - 1)).toNat) ([] : List Fm)).length : Int).toNat) && decide ((((l4.take (IntKind.wrap .i64 ((l4.length : Int) - 1)).toNat).getD ((IntKind.wrap .i64 (IntKind.wrap .i64 ((l4.length : Int) - 1) - 1)).toNat) ([] : List Fm)).length : Int).toNat < ((l4.take (IntKind.wrap .i64 ((l4.length : Int) - 1)).toNat).getD ((IntKind.wrap .i64 (IntKind.wrap .i64 ((l4.length : Int) - 1) - 1)).toNat) ([] : List Fm)).length + ([(Fm.mk 0 0 ([]) ([] : List Fm))]).length)) && decide ((IntKind.wrap .i64 (IntKind.wrap .i64 ((l4.length : Int) - 1) - 1)).toNat < (l4.take (IntKind.wrap .i64 ((l4.length : Int) - 1)).toNat).length)) (some (Step.next (((), (), (r5.1.1.1, r5.1.1.2.k, r5.1.1.2.n, r5.1.1.2.t, r5.1.1.2.l, ()), ()), ((r5.2.1.1, r5.2.1.2.1, ()), (l4.take (IntKind.wrap .i64 ((l4.length : Int) - 1)).toNat).set ((IntKind.wrap .i64 (IntKind.wrap .i64 ((l4.length : Int) - 1) - 1)).toNat) (((l4.take (IntKind.wrap .i64 ((l4.length : Int) - 1)).toNat).getD ((IntKind.wrap .i64 (IntKind.wrap .i64 ((l4.length : Int) - 1) - 1)).toNat) ([] : List Fm)) ++ (([(Fm.mk 0 0 ([]) ([] : List Fm))]).set ((((l4.take (IntKind.wrap .i64 ((l4.length : Int) - 1)).toNat).getD ((IntKind.wrap .i64 (IntKind.wrap .i64 ((l4.length : Int) - 1) - 1)).toNat) ([] : List Fm)).length : Int).toNat - ((l4.take (IntKind.wrap .i64 ((l4.length : Int) - 1)).toNat).getD ((IntKind.wrap .i64 (IntKind.wrap .i64 ((l4.length : Int) - 1) - 1)).toNat) ([] : List Fm)).length) (Fm.mk 3 0 ([]) (l4.getD ((IntKind.wrap .i64 ((l4.length : Int) - 1)).toNat) ([] : List Fm))))), ())))) none) none) none) none) none) none) none)) none) none) none) (cond (ixOK (IntKind.wrap .i64 ((l4.length : Int) - 1)) l4.length) (cond (decide ((IntKind.wrap .i64 ((l4.length : Int) - 1)).toNat < l4.length)) (cond (decide ((IntKind.wrap .i64 ((l4.length : Int) - 1)).toNat < l4.length) && decide (((l4.getD ((IntKind.wrap .i64 ((l4.length : Int) - 1)).toNat) ([] : List Fm)).length + ([(Fm.mk 0 0 ([]) ([] : List Fm))]).length) * 56 ≤ 140737488355328)) (cond (ixOK ((l4.getD ((IntKind.wrap .i64 ((l4.length : Int) - 1)).toNat) ([] : List Fm)).length : Int) ((l4.getD ((IntKind.wrap .i64 ((l4.length : Int) - 1)).toNat) ([] : List Fm)).length + ([(Fm.mk 0 0 ([]) ([] : List Fm))]).length)) (cond (ixOK (IntKind.wrap .i64 ((l4.length : Int) - 1)) l4.length) (mgC (cond ((decide ((l4.getD ((IntKind.wrap .i64 ((l4.length : Int) - 1)).toNat) ([] : List Fm)).length ≤ ((l4.getD ((IntKind.wrap .i64 ((l4.length : Int) - 1)).toNat) ([] : List Fm)).length : Int).toNat) && decide (((l4.getD ((IntKind.wrap .i64 ((l4.length : Int) - 1)).toNat) ([] : List Fm)).length : Int).toNat < (l4.getD ((IntKind.wrap .i64 ((l4.length : Int) - 1)).toNat) ([] : List Fm)).length + ([(Fm.mk 0 0 ([]) ([] : List Fm))]).length)) && decide ((IntKind.wrap .i64 ((l4.length : Int) - 1)).toNat < l4.length)) (cond (decide ((IntKind.wrap .i64 ((l4.length : Int) - 1)).toNat = (IntKind.wrap .i64 ((l4.length : Int) - 1)).toNat) && decide ((IntKind.wrap .i64 ((l4.length : Int) - 1)).toNat < l4.length)) (some (Step.next (((), (), (r5.1.1.1, r5.1.1.2.k, r5.1.1.2.n, r5.1.1.2.t, r5.1.1.2.l, ()), ()), ((r5.2.1.1, r5.2.1.2.1, ()), l4.set ((IntKind.wrap .i64 ((l4.length : Int) - 1)).toNat) ((l4.getD ((IntKind.wrap .i64 ((l4.length : Int) - 1)).toNat) ([] : List Fm)) ++ (([(Fm.mk 0 0 ([]) ([] : List Fm))]).set (((l4.getD ((IntKind.wrap .i64 ((l4.length : Int) - 1)).toNat) ([] : List Fm)).length : Int).toNat - (l4.getD ((IntKind.wrap .i64 ((l4.length : Int) - 1)).toNat) ([] : List Fm)).length) (Fm.eta r5.1.1.2))), ())))) none) none) (cond (decide ((IntKind.wrap .i64 ((l4.length : Int) - 1)).toNat = (IntKind.wrap .i64 ((l4.length : Int) - 1)).toNat) && decide ((IntKind.wrap .i64 ((l4.length : Int) - 1)).toNat < l4.length)) (cond ((decide ((l4.getD ((IntKind.wrap .i64 ((l4.length : Int) - 1)).toNat) ([] : List Fm)).length ≤ ((l4.getD ((IntKind.wrap .i64 ((l4.length : Int) - 1)).toNat) ([] : List Fm)).length : Int).toNat) && decide (((l4.getD ((IntKind.wrap .i64 ((l4.length : Int) - 1)).toNat) ([] : List Fm)).length : Int).toNat < (l4.getD ((IntKind.wrap .i64 ((l4.length : Int) - 1)).toNat) ([] : List Fm)).length + ([(Fm.mk 0 0 ([]) ([] : List Fm))]).length)) && decide ((IntKind.wrap .i64 ((l4.length : Int) - 1)).toNat < l4.length)) (some (Step.next (((), (), (r5.1.1.1, r5.1.1.2.k, r5.1.1.2.n, r5.1.1.2.t, r5.1.1.2.l, ()), ()), ((r5.2.1.1, r5.2.1.2.1, ()), l4.set ((IntKind.wrap .i64 ((l4.length : Int) - 1)).toNat) ((l4.getD ((IntKind.wrap .i64 ((l4.length : Int) - 1)).toNat) ([] : List Fm)) ++ (([(Fm.mk 0 0 ([]) ([] : List Fm))]).set (((l4.getD ((IntKind.wrap .i64 ((l4.length : Int) - 1)).toNat) ([] : List Fm)).length : Int).toNat - (l4.getD ((IntKind.wrap .i64 ((l4.length : Int) - 1)).toNat) ([] : List Fm)).length) (Fm.eta r5.1.1.2))), ())))) none) none)) none) none) none) none) none))))))) fun qd6 => match qd6 with
 | .next d6 => (
 let c7 := d6.2.1.1
 let c8 := d6.2.1.2.1
 let l9 := d6.2.2.1
 cond ((ixOK c8 c7.length) || !(cond (decide (d6.1.2.2.1.1 = 0)) (decide (c8 < (c7.length : Int))) false)) (Option.bind (α := Bool) (cond (cond (decide (d6.1.2.2.1.1 = 0)) (decide (c8 < (c7.length : Int))) false) (G_touches (byteAt c7 c8)) (some false)) fun r10 => (
 cond (cond (cond (decide (d6.1.2.2.1.1 = 0)) (decide (c8 < (c7.length : Int))) false) r10 false) (some (Step.done (([] : List Fm), 4, ()))) (some (Step.next (((), (), ()), ((c7, c8, ()), l9, ())))))) none)
 | .done r => some r))) (((), (), ()), ((x0, 0, ()), [([] : List Fm)], ())))
def A_parse : An := .seq (.leaf) (.seq (.leaf) (.seq (.leaf) (.block (.loop { env := [(4, (.ref 0 0)), (5, (.gs 1 (.slice .form)))], objs := [(false, .cells 132 [(.d .str), (.d (.int .i64))]), (false, .stk .form 24)] } (.block (.seq (.leaf) (.frz [2] (.join true { env := [(4, (.ref 0 0)), (5, (.gs 1 (.slice .form))), (6, (.rptr [(.d (.int .u8)), (.d (.int .i64)), (.d (.int .i64)), (.d .str), (.d (.slice .form))]))], objs := [(false, .cells 132 [(.d .str), (.d (.int .i64))]), (false, .stk .form 24)] } (.block (.seq (.leaf) (.cond (.leaf) (.seq (.leaf) (.cond (.leaf) (.seq (.leaf) (.cond (.leaf) (.seq (.leaf) (.cond (.leaf) (.seq (.leaf) (.cond (.leaf) (.seq (.leaf) (.cond (.seq (.leaf) (.frz [4] (.leaf))) (.leaf)))))))))))))) (.leaf)))))))))
def H_parse : Nat → RH := fun r => match r with
 | 1 => { H := { mb := [13] } }
 | 2 => { H := { mb := [14], ty := [(14, (.pr (.slice .form) .un))] } }
 | 3 => { H := { ac := [17] } }
 | 5 => { H := { mb := [27], pl := [29], ty := [(27, (.pr (.slice .form) .un)), (32, (.pr (.slice .form) (.pr .un .un)))] }, pair := some ([0, 1, 2, 3, 4, 5, 6, 7, 8, 9, 11], 10, 12, []) }
 | 13 => { H := { ty := [(58, (.pr (.slice .form) .un))] } }
 | 18 => { H := { mb := [78], ty := [(78, (.pr (.slice .form) .un))] } }
 | 19 => { pair := some ([0], 1, 2, [3]) }
 | 20 => { H := { mb := [88], pl := [89], ty := [(88, (.pr (.slice .form) .un)), (92, (.pr (.slice .form) (.pr .un .un)))] } }
 | 22 => { H := { mb := [102], pl := [103], ty := [(102, (.pr (.slice .form) .un)), (105, (.pr (.slice .form) .un))] } }
 | 23 => { H := { pl := [108] } }
 | _ => {}
noncomputable def S_parse : Sig := .n [(.d .str)] (.tup [(.d (.slice .form)), (.d (.int .i64))]) (fun x => G_parse x.1)
theorem S_parse_ok : SigOK CX 59 S_parse := sigN_of (l := [(104, S_nextA), (105, S_touches)]) ⟨S_nextA_ok, S_touches_ok, trivial⟩ (hint := H_parse) (an := A_parse) (fun x => by kernel_rfl)
end Go.Ab

set_option maxRecDepth 100000
namespace Go.Ab
open Go Go.RowKit Go.Proofs
noncomputable def G_readA (x0 : List UInt8) : Option ((List Fm) × Int × Unit) := (
 cond (decide ((x0.length : Int) > 60000)) (some (([] : List Fm), 2, ())) (Option.bind (α := (List Fm) × Int × Unit) (G_parse x0) fun r1 => (
 cond (!decide (r1.2.1 = 0)) (some (([] : List Fm), r1.2.1, ())) (Option.bind (α := Bool) (G_containsBad1 r1.1 ()) fun r2 => (
 cond r2 (some (([] : List Fm), 2, ())) (some (r1.1, 0, ())))))))
def A_readA : An := .leaf
def H_readA : Nat → RH := fun _ => {}
noncomputable def S_readA : Sig := .n [(.d .str)] (.tup [(.d (.slice .form)), (.d (.int .i64))]) (fun x => G_readA x.1)
theorem S_readA_ok : SigOK CX 20 S_readA := sigN_of (l := [(59, S_parse), (60, S_containsBad1)]) ⟨S_parse_ok, S_containsBad1_ok, trivial⟩ (hint := H_readA) (an := A_readA) (fun x => by kernel_rfl)
noncomputable def G_refEqAll (x0 : List Fm) (x1 : List Fm) : Option (Bool) := (
 Option.bind (α := Fm) (G_refList x0) fun r1 => (
 Option.bind (α := Fm) (G_refList x1) fun r2 => (
 Option.bind (α := Bool) (G_refEqual (Fm.eta r1) (Fm.eta r2)) fun r3 => (
 some r3))))
def A_refEqAll : An := .leaf
def H_refEqAll : Nat → RH := fun _ => {}
noncomputable def S_refEqAll : Sig := .n [(.d (.slice .form)), (.d (.slice .form))] (.d .bool) (fun x => G_refEqAll x.1 x.2.1)
theorem S_refEqAll_ok : SigOK CX 15 S_refEqAll := sigN_of (l := [(53, S_refList), (25, S_refEqual)]) ⟨S_refList_ok, S_refEqual_ok, trivial⟩ (hint := H_refEqAll) (an := A_refEqAll) (fun x => by kernel_rfl)
noncomputable def G_allA (x0 : List Fm) (x1 : List Fm) : Option (Bool) := (
 Option.bind (α := Bool) (G_refEqAll x0 x1) fun r1 => (
 some (cond r1 (decide ((x0.length : Int) = (x1.length : Int))) false)))
def A_allA : An := .leaf
def H_allA : Nat → RH := fun _ => {}
noncomputable def S_allA : Sig := .n [(.d (.slice .form)), (.d (.slice .form))] (.d .bool) (fun x => G_allA x.1 x.2.1)
theorem S_allA_ok : SigOK CX 24 S_allA := sigN_of (l := [(15, S_refEqAll)]) ⟨S_refEqAll_ok, trivial⟩ (hint := H_allA) (an := A_allA) (fun x => by kernel_rfl)
end Go.Ab

set_option maxRecDepth 100000
namespace Go.Ab
open Go Go.RowKit Go.Proofs
def visS (c : UInt8) : Bool := !outsideS c
def wrdF (w : List UInt8) : Fm := .mk 1 0 w []
def nuF (n : Int) : Fm := .mk 0 n [] []
def tokS (num : List UInt8 → Int × Int) (w : List UInt8) : Int ⊕ Fm :=
 if numericS w = true then (if (num w).2 = 0 then .inr (nuF (num w).1) else .inl (num w).2)
 else if w.length > 30 then .inl 4 else .inr (wrdF w)
theorem yout (c : UInt8) : outsideF ((c.toNat : Nat) : Int) = some (outsideS c) := by
 unfold outsideF
 have := c.toNat_lt
 rw [if_pos (by omega)]
 congr 2
 simp
def NextQ (num : List UInt8 → Int × Int) (s : List UInt8) (i0 : Nat) (v : ((Int × Fm) × Bool × Int × Unit) × (((List UInt8) × Int × Unit) × Unit)) : List UInt8 → Prop
 | [] => v = (((0, Fm.mk 0 0 [] []), false, 0, ()), ((s, (s.length : Int), ()), ()))
 | c :: r =>
  if c = 40 ∨ c = 41 then ∃ j : Nat, v = (((((c.toNat : Nat) : Int), Fm.mk 0 0 [] []), true, 0, ()), ((s, (j : Int), ()), ())) ∧ i0 < j ∧ j ≤ s.length ∧ s.drop j = r
  else if c = 34 then (match textS r [] with
   | .inl e => e ≠ 0 ∧ ∃ (t : Int × Fm) (a : Bool) (j : Int), v = ((t, a, e, ()), ((s, j, ()), ()))
   | .inr (b, q) => ∃ j : Nat, v = (((0, txtF b), true, 0, ()), ((s, (j : Int), ()), ())) ∧ i0 < j ∧ j ≤ s.length ∧ s.drop j = q)
  else if visS c = true then (match tokS num ((c :: r).takeWhile visS) with
   | .inl e => e ≠ 0 ∧ ∃ (t : Int × Fm) (a : Bool) (j : Int), v = ((t, a, e, ()), ((s, j, ()), ()))
   | .inr f => ∃ j : Nat, v = (((0, f), true, 0, ()), ((s, (j : Int), ()), ())) ∧ i0 < j ∧ j ≤ s.length ∧ s.drop j = (c :: r).dropWhile visS)
  else ∃ (t : Int × Fm) (a : Bool) (j : Int), v = ((t, a, 4, ()), ((s, j, ()), ()))
theorem next_val {num : List UInt8 → Int × Int} {s : List UInt8} {i0 : Nat} (hs : s.length ≤ 1000000000) (h0 : i0 ≤ s.length) (hnum : ∀ w : List UInt8, w.length ≤ s.length → numericS w = true → G_numberA w = some ((num w).1, (num w).2, ())) :
  ∃ v, G_nextA (s, (i0 : Int), ()) = some v ∧ NextQ num s i0 v (skipS false (s.drop i0)) := by
 obtain ⟨i, h1, h2, h3, h4, h5⟩ := skip_val hs h0
 rw [← h4]
 unfold G_nextA
 rw [show G_skip ((s, (i0 : Int), ()).1, (s, (i0 : Int), ()).2.1, ()) = _ from h1]
 simp only [Option.bind_some]
 by_cases hl : i = s.length
 ·have dl : decide ((i : Int) = (s.length : Int)) = true := decide_eq_true (by omega)
  rw [dl, cond_true, List.drop_of_length_le (by omega)]
  exact ⟨_, rfl, by subst hl; rfl⟩
 ·have hi' : i < s.length := by omega
  have dl : decide ((i : Int) = (s.length : Int)) = false := decide_eq_false (by omega)
  have x1 : ixOK (i : Int) s.length = true := ixOK_iff.2 (by omega)
  have q40 : decide (((s[i].toNat : Nat) : Int) = 40) = decide (s[i] = 40) := ybyteD _ 40 (by decide)
  have q41 : decide (((s[i].toNat : Nat) : Int) = 41) = decide (s[i] = 41) := ybyteD _ 41 (by decide)
  have q34 : decide (((s[i].toNat : Nat) : Int) = 34) = decide (s[i] = 34) := ybyteD _ 34 (by decide)
  have hd := ydrop hi'
  rw [hd]
  simp only [dl, cond_false, x1, cond_true, ybyte hi', q40, q41, q34, ywrap (show i < 4611686018427387904 by omega), NextQ]
  by_cases c4 : s[i] = 40 ∨ s[i] = 41
  ·have dd : cond (decide (s[i] = 40)) true (decide (s[i] = 41)) = true := by rcases c4 with h | h <;> simp [h]
   rw [dd, cond_true]
   simp only [if_pos c4]
   exact ⟨_, rfl, i + 1, rfl, by omega, by omega, rfl⟩
  ·have dd : cond (decide (s[i] = 40)) true (decide (s[i] = 41)) = false := by simp only [not_or] at c4; simp [c4.1, c4.2]
   rw [dd, cond_false]
   simp only [if_neg c4]
   by_cases c34 : s[i] = 34
   ·rw [decide_eq_true c34, cond_true]
    simp only [if_pos c34]
    obtain ⟨v, w1, w2⟩ := text_val hs hi'
    rw [w1]
    cases hx : textS (s.drop (i + 1)) [] with
    | inl e =>
     rw [hx] at w2
     obtain ⟨he, j, rfl⟩ := w2
     exact ⟨_, rfl, he, _, _, _, rfl⟩
    | inr p =>
     obtain ⟨b, q⟩ := p
     rw [hx] at w2
     obtain ⟨j, rfl, a1, a2, a3⟩ := w2
     exact ⟨_, rfl, j, rfl, by omega, a2, a3⟩
   ·rw [decide_eq_false c34, cond_false, yout]
    simp only [Option.bind_some, if_neg c34]
    cases ho : outsideS s[i] with
    | true =>
     have hv : ¬ visS s[i] = true := by simp [visS, ho]
     rw [cond_true]
     simp only [if_neg hv]
     exact ⟨_, rfl, _, _, _, rfl⟩
    | false =>
     have hv : visS s[i] = true := by simp [visS, ho]
     rw [cond_false]
     simp only [if_pos hv]
     refine yloop (fun d => ∃ k : Nat, d = (((), (), (i : Int), ()), ((s, (k : Int), ()), (0, 0, 0, [], (), ()), ())) ∧ i ≤ k ∧ k ≤ s.length ∧ (s.drop i).takeWhile visS = (s.drop i).take (k - i) ++ (s.drop k).takeWhile visS ∧ (s.drop i).dropWhile visS = (s.drop k).dropWhile visS) (fun d => s.length - d.2.1.2.1.toNat) _ ?_ ⟨i, rfl, Nat.le_refl _, h3, by simp, rfl⟩
     rintro d ⟨k, rfl, hk1, hk2, hk3, hk4⟩
     simp only [Int.toNat_natCast]
     have sl : slOK (i : Int) (k : Int) s.length = true := slOK_iff.2 (by omega)
     by_cases hk' : k < s.length
     ·have e1 : decide ((k : Int) < (s.length : Int)) = true := by apply decide_eq_true; omega
      have x2 : ixOK (k : Int) s.length = true := ixOK_iff.2 (by omega)
      have hdk := ydrop hk'
      simp only [e1, x2, ybyte hk', yout, cond_true, Bool.true_or, Option.bind_some, ywrap (show k < 4611686018427387904 by omega)]
      cases hok : outsideS s[k] with
      | false =>
       have hvk : visS s[k] = true := by simp [visS, hok]
       simp only [Bool.not_false, cond_true]
       refine .inl ⟨_, rfl, ⟨k + 1, rfl, by omega, by omega, ?_, ?_⟩, by simp only [Int.toNat_natCast]; omega⟩
       ·rw [hk3, hdk, List.takeWhile_cons_of_pos hvk, show k + 1 - i = (k - i) + 1 by omega]
        have hlt : k - i < (s.drop i).length := by rw [List.length_drop]; omega
        rw [List.take_succ_eq_append_getElem hlt, List.append_assoc]
        congr 1
        simp only [List.getElem_drop, List.singleton_append]
        congr 2
        omega
       ·rw [hk4, hdk, List.dropWhile_cons_of_pos hvk]
      | true =>
       have hvk : ¬ visS s[k] = true := by simp [visS, hok]
       have t1 : (s.drop k).takeWhile visS = [] := by rw [hdk, List.takeWhile_cons_of_neg hvk]
       have t2 : (s.drop k).dropWhile visS = s.drop k := by rw [hdk, List.dropWhile_cons_of_neg hvk]
       refine .inr ⟨_, by simp only [Bool.not_true, cond_false]; rfl, ?_⟩
       have hw : (s.drop i).take (k - i) = (s[i] :: s.drop (i + 1)).takeWhile visS := by rw [← hd, hk3, t1, List.append_nil]
       have hq : s.drop k = (s[i] :: s.drop (i + 1)).dropWhile visS := by rw [← hd, hk4, t2]
       have hpos : 0 < k - i := by
        have hne : 0 < ((s.drop i).take (k - i)).length := by rw [hw, List.takeWhile_cons_of_pos hv]; simp
        rw [List.length_take] at hne; omega
       have hwl : ((s.drop i).take (k - i)).length ≤ s.length := by rw [List.length_take, List.length_drop]; omega
       simp only [Int.toNat_natCast, sl, cond_true]
       rw [← hw]
       have hn : numericF ((s.drop i).take (k - i)) = some (numericS ((s.drop i).take (k - i))) := by unfold numericF; rw [if_pos (by omega)]
       rw [hn]
       simp only [Option.bind_some, tokS]
       by_cases hnw : numericS ((s.drop i).take (k - i)) = true
       ·rw [hnw, cond_true, hnum _ hwl hnw]
        refine ⟨_, rfl, ?_⟩
        simp only [if_true]
        by_cases hz : (num ((s.drop i).take (k - i))).2 = 0
        ·simp only [if_pos hz]
         exact ⟨k, by rw [hz]; rfl, by omega, hk2, hq⟩
        ·simp only [if_neg hz]
         exact ⟨hz, _, _, _, rfl⟩
       ·have hnf : numericS ((s.drop i).take (k - i)) = false := by simpa using hnw
        rw [hnf, cond_false]
        by_cases hl30 : ((s.drop i).take (k - i)).length > 30
        ·have d30 : ∀ j : Decidable ((((s.drop i).take (k - i)).length : Int) > 30), @decide _ j = true := fun j => decide_eq_true (by omega)
         rw [d30, cond_true]
         refine ⟨_, rfl, ?_⟩
         simp only [Bool.false_eq_true, if_false, if_pos hl30]
         exact ⟨by decide, _, _, _, rfl⟩
        ·have d30 : ∀ j : Decidable ((((s.drop i).take (k - i)).length : Int) > 30), @decide _ j = false := fun j => decide_eq_false (by omega)
         rw [d30, cond_false]
         refine ⟨_, rfl, ?_⟩
         simp only [Bool.false_eq_true, if_false, if_neg hl30]
         exact ⟨k, rfl, by omega, hk2, hq⟩
     ·have e1 : decide ((k : Int) < (s.length : Int)) = false := by apply decide_eq_false; omega
      have t0 : s.drop k = [] := List.drop_of_length_le (by omega)
      have t1 : (s.drop k).takeWhile visS = [] := by rw [t0]; rfl
      have t2 : (s.drop k).dropWhile visS = s.drop k := by rw [t0]; rfl
      refine .inr ⟨_, by simp only [e1, Bool.not_false, Bool.or_true, cond_true, cond_false, Option.bind_some]; rfl, ?_⟩
      have hw : (s.drop i).take (k - i) = (s[i] :: s.drop (i + 1)).takeWhile visS := by rw [← hd, hk3, t1, List.append_nil]
      have hq : s.drop k = (s[i] :: s.drop (i + 1)).dropWhile visS := by rw [← hd, hk4, t2]
      have hpos : 0 < k - i := by
       have hne : 0 < ((s.drop i).take (k - i)).length := by rw [hw, List.takeWhile_cons_of_pos hv]; simp
       rw [List.length_take] at hne; omega
      have hwl : ((s.drop i).take (k - i)).length ≤ s.length := by rw [List.length_take, List.length_drop]; omega
      simp only [Int.toNat_natCast, sl, cond_true]
      rw [← hw]
      have hn : numericF ((s.drop i).take (k - i)) = some (numericS ((s.drop i).take (k - i))) := by unfold numericF; rw [if_pos (by omega)]
      rw [hn]
      simp only [Option.bind_some, tokS]
      by_cases hnw : numericS ((s.drop i).take (k - i)) = true
      ·rw [hnw, cond_true, hnum _ hwl hnw]
       refine ⟨_, rfl, ?_⟩
       simp only [if_true]
       by_cases hz : (num ((s.drop i).take (k - i))).2 = 0
       ·simp only [if_pos hz]
        exact ⟨k, by rw [hz]; rfl, by omega, hk2, hq⟩
       ·simp only [if_neg hz]
        exact ⟨hz, _, _, _, rfl⟩
      ·have hnf : numericS ((s.drop i).take (k - i)) = false := by simpa using hnw
       rw [hnf, cond_false]
       by_cases hl30 : ((s.drop i).take (k - i)).length > 30
       ·have d30 : ∀ j : Decidable ((((s.drop i).take (k - i)).length : Int) > 30), @decide _ j = true := fun j => decide_eq_true (by omega)
        rw [d30, cond_true]
        refine ⟨_, rfl, ?_⟩
        simp only [Bool.false_eq_true, if_false, if_pos hl30]
        exact ⟨by decide, _, _, _, rfl⟩
       ·have d30 : ∀ j : Decidable ((((s.drop i).take (k - i)).length : Int) > 30), @decide _ j = false := fun j => decide_eq_false (by omega)
        rw [d30, cond_false]
        refine ⟨_, rfl, ?_⟩
        simp only [Bool.false_eq_true, if_false, if_neg hl30]
        exact ⟨k, rfl, by omega, hk2, hq⟩
end Go.Ab

set_option maxRecDepth 100000
namespace Go.Ab
open Go Go.RowKit Go.Proofs
def valD (acc : Nat) (r : List UInt8) : Nat := r.foldl (fun a c => 10 * a + (c.toNat - 48)) acc
theorem valD_cons (acc : Nat) (c : UInt8) (r : List UInt8) : valD acc (c :: r) = valD (10 * acc + (c.toNat - 48)) r := by unfold valD; rw [List.foldl_cons]
theorem valD_nil (acc : Nat) : valD acc [] = acc := by unfold valD; rw [List.foldl_nil]
theorem valD_ge (r : List UInt8) : ∀ acc : Nat, acc ≤ valD acc r := by
 induction r with
 | nil => intro acc; rw [valD_nil]; exact Nat.le_refl _
 | cons c r ih =>
  intro acc
  have h := ih (10 * acc + (c.toNat - 48))
  rw [valD_cons]
  exact Nat.le_trans (by omega) h
theorem digit_iff (c : UInt8) : digitB c = true ↔ 48 ≤ c.toNat ∧ c.toNat ≤ 57 := by
 have : ∀ n : Fin 256, digitB (UInt8.ofFin n) = true ↔ 48 ≤ (UInt8.ofFin n).toNat ∧ (UInt8.ofFin n).toNat ≤ 57 := by decide +kernel
 exact this c.toFin
theorem parse_digits : ∀ (r : List UInt8) (acc : Nat), r.all digitB = true → match Lib.parseUint10 acc r with
  | .ok u => u = valD acc r
  | .range => 18446744073709551616 ≤ valD acc r
  | _ => False
 | [], acc, h => by simp only [Lib.parseUint10, valD_nil]
 | c :: r, acc, h => by
  simp only [List.all_cons, Bool.and_eq_true] at h
  have hc := (digit_iff c).1 h.1
  have hge := valD_ge r (10 * acc + (c.toNat - 48))
  have ih := parse_digits r (10 * acc + (c.toNat - 48)) h.2
  rw [valD_cons]
  generalize valD (10 * acc + (c.toNat - 48)) r = v at hge ih ⊢
  simp only [Lib.parseUint10, if_pos hc]
  by_cases h1 : 1844674407370955162 ≤ acc
  ·rw [if_pos h1]
   show 18446744073709551616 ≤ v
   omega
  ·rw [if_neg h1]
   by_cases h2 : 18446744073709551616 ≤ acc * 10 + (c.toNat - 48)
   ·rw [if_pos h2]
    show 18446744073709551616 ≤ v
    omega
   ·rw [if_neg h2, Nat.mul_comm acc 10]
    exact ih
def numS (w : List UInt8) : Int × Int :=
 if (1 < (cutMinus w).length ∧ (cutMinus w).head? = some 48) ∨ w = [45, 48] then (0, 4)
 else if 1152921504606846976 < valD 0 (cutMinus w) then (0, 5)
 else (if w.head? = some 45 then - (valD 0 (cutMinus w) : Int) else (valD 0 (cutMinus w) : Int), 0)
theorem num_atoi {w : List UInt8} (h : numericS w = true) : (match Lib.atoiAll w with
   | .ok v => if v < -1152921504606846976 ∨ v > 1152921504606846976 then ((0 : Int), (5 : Int)) else (v, 0)
   | _ => (0, 5)) = if 1152921504606846976 < valD 0 (cutMinus w) then (0, 5) else (if w.head? = some 45 then - (valD 0 (cutMinus w) : Int) else (valD 0 (cutMinus w) : Int), 0) := by
 unfold numericS at h
 simp only [Bool.and_eq_true, decide_eq_true_eq] at h
 obtain ⟨hne, hd⟩ := h
 have hp := parse_digits (cutMinus w) 0 hd
 generalize hv : valD 0 (cutMinus w) = V at hp ⊢
 cases w with
 | nil => exact absurd rfl hne
 | cons c r =>
  have hc45 : (c.toNat = 45) ↔ c = 45 := by
   constructor
   ·intro e; exact UInt8.toNat_inj.1 e
   ·intro e; subst e; rfl
  by_cases h45 : c = 45
  ·have hcm : cutMinus (c :: r) = r := by unfold cutMinus; rw [if_pos (by simp [h45])]; rfl
   rw [hcm] at hne hp
   have hh : (c :: r).head? = some 45 := by simp [h45]
   have hn : c.toNat = 45 := hc45.2 h45
   simp only [hh, if_true]
   have hm : Lib.parseMag r = Lib.parseUint10 0 r := by unfold Lib.parseMag; rw [if_neg hne]
   clear hv
   simp only [Lib.atoiAll, hn, or_true, if_true, hm]
   cases hx : Lib.parseUint10 0 r with
   | ok u =>
    rw [hx] at hp
    have hp : V = u := Eq.symm hp
    subst hp
    simp only [not_true_eq_false, false_and, if_false, true_and]
    by_cases hb : 9223372036854775808 < V
    ·rw [if_pos hb, if_pos (by omega)]
    ·rw [if_neg hb]
     simp only
     by_cases hm : 1152921504606846976 < V
     ·rw [if_pos hm, if_pos (by omega)]
     ·rw [if_neg hm, if_neg (by omega)]
   | range =>
    rw [hx] at hp
    have hp : 18446744073709551616 ≤ V := hp
    simp only
    rw [if_pos (by omega)]
   | _ => rw [hx] at hp; exact hp.elim
  ·have hcm : cutMinus (c :: r) = c :: r := by unfold cutMinus; rw [if_neg (by simp [h45])]
   rw [hcm] at hne hp hd
   have hh : ¬ (c :: r).head? = some 45 := by simp [h45]
   have hdc := (digit_iff c).1 (by simp only [List.all_cons, Bool.and_eq_true] at hd; exact hd.1)
   have hn : ¬ c.toNat = 45 := by omega
   have hn3 : ¬ (c.toNat = 43 ∨ c.toNat = 45) := by omega
   simp only [hh, if_false]
   have hm : Lib.parseMag (c :: r) = Lib.parseUint10 0 (c :: r) := by unfold Lib.parseMag; rw [if_neg hne]
   clear hv
   have hn43 : ¬ c.toNat = 43 := by omega
   simp only [Lib.atoiAll, hn, hn43, or_self, if_false, hm]
   cases hx : Lib.parseUint10 0 (c :: r) with
   | ok u =>
    rw [hx] at hp
    have hp : V = u := Eq.symm hp
    subst hp
    simp only [not_false_eq_true, true_and, false_and, if_false]
    by_cases hb : 9223372036854775808 ≤ V
    ·rw [if_pos hb, if_pos (by omega)]
    ·rw [if_neg hb]
     simp only
     by_cases hm : 1152921504606846976 < V
     ·rw [if_pos hm, if_pos (by omega)]
     ·rw [if_neg hm, if_neg (by omega)]
   | range =>
    rw [hx] at hp
    have hp : 18446744073709551616 ≤ V := hp
    simp only
    rw [if_pos (by omega)]
   | _ => rw [hx] at hp; exact hp.elim
theorem num_nosyn {w : List UInt8} (h : numericS w = true) : (match Lib.atoiAll w with
  | .ok _ => True
  | .range => True
  | _ => False) := by
 unfold numericS at h
 simp only [Bool.and_eq_true, decide_eq_true_eq] at h
 obtain ⟨hne, hd⟩ := h
 have hp := parse_digits (cutMinus w) 0 hd
 cases hs : Lib.atoiAll w with
 | ok v => trivial
 | range => trivial
 | _ =>
 exfalso
 cases w with
 | nil => exact absurd rfl hne
 | cons c r =>
  by_cases h45 : c = 45
  ·have hcm : cutMinus (c :: r) = r := by unfold cutMinus; rw [if_pos (by simp [h45])]; rfl
   rw [hcm] at hne hp
   have hm : Lib.parseMag r = Lib.parseUint10 0 r := by unfold Lib.parseMag; rw [if_neg hne]
   subst h45
   have e : (45 : UInt8).toNat = 45 := rfl
   simp only [Lib.atoiAll, e, or_true, if_true, hm] at hs
   cases hx : Lib.parseUint10 0 r with
   | range => rw [hx] at hs; cases hs
   | ok u =>
    rw [hx] at hs
    simp only at hs
    split at hs
    ·cases hs
    ·split at hs <;> cases hs
   | _ => rw [hx] at hp; exact hp
  ·have hcm : cutMinus (c :: r) = c :: r := by unfold cutMinus; rw [if_neg (by simp [h45])]
   rw [hcm] at hne hp hd
   have hdc := (digit_iff c).1 (by simp only [List.all_cons, Bool.and_eq_true] at hd; exact hd.1)
   have hm : Lib.parseMag (c :: r) = Lib.parseUint10 0 (c :: r) := by unfold Lib.parseMag; rw [if_neg hne]
   have hn : ¬ c.toNat = 45 := by omega
   have hn43 : ¬ c.toNat = 43 := by omega
   simp only [Lib.atoiAll, hn, hn43, or_self, if_false, hm] at hs
   cases hx : Lib.parseUint10 0 (c :: r) with
   | range => rw [hx] at hs; cases hs
   | ok u =>
    rw [hx] at hs
    simp only at hs
    split at hs
    ·cases hs
    ·split at hs <;> cases hs
   | _ => rw [hx] at hp; exact hp
end Go.Ab

set_option maxRecDepth 100000
namespace Go.Ab
open Go Go.RowKit Go.Proofs
theorem number_val {w : List UInt8} (hw : w.length ≤ 1000000000) (h : numericS w = true) : G_numberA w = some ((numS w).1, (numS w).2, ()) := by
 have hc : trimPrefixF w [45] = cutMinus w := cutMinus_eq w
 have hne : cutMinus w ≠ [] := by
  unfold numericS at h
  simp only [Bool.and_eq_true, decide_eq_true_eq] at h
  exact h.1
 have hpos : 0 < (cutMinus w).length := List.length_pos_iff.2 hne
 have hat := num_atoi h
 unfold G_numberA
 rw [hc]
 have x1 : ixOK 0 (cutMinus w).length = true := ixOK_iff.2 (by omega)
 refine ycond (by rw [x1]; rfl) ?_
 have hb : byteAt (cutMinus w) 0 = (((cutMinus w)[0].toNat : Nat) : Int) := ybyte (i := 0) hpos
 have hh : (cutMinus w).head? = some (cutMinus w)[0] := by rw [List.head?_eq_getElem?, List.getElem?_eq_getElem hpos]
 have q48 : decide (byteAt (cutMinus w) 0 = 48) = decide ((cutMinus w)[0] = 48) := by rw [hb]; exact ybyteD _ 48 (by decide)
 rw [q48]
 unfold numS
 rw [hh]
 by_cases hz : (1 < (cutMinus w).length ∧ some (cutMinus w)[0] = some 48) ∨ w = [45, 48]
 ·rw [if_pos hz]
  refine ycond ?_ rfl
  rcases hz with ⟨z1, z2⟩ | z
  ·have e1 : decide (((cutMinus w).length : Int) > 1) = true := decide_eq_true (by omega)
   have e2 : decide ((cutMinus w)[0] = 48) = true := decide_eq_true (Option.some.inj z2)
   rw [e1, e2]; rfl
  ·rw [decide_eq_true z]
   cases cond (decide (((cutMinus w).length : Int) > 1)) (decide ((cutMinus w)[0] = 48)) false <;> rfl
 ·rw [if_neg hz]
  have z1 : ¬ (1 < (cutMinus w).length ∧ some (cutMinus w)[0] = some 48) := fun h => hz (.inl h)
  have z2 : ¬ w = [45, 48] := fun h => hz (.inr h)
  refine ycondn ?_ ?_
  ·rw [decide_eq_false z2]
   by_cases e : ((cutMinus w).length : Int) > 1
   ·have : ¬ (cutMinus w)[0] = 48 := fun h => z1 ⟨by omega, by rw [h]⟩
    rw [decide_eq_true e, decide_eq_false this]; rfl
   ·rw [decide_eq_false e]; rfl
  ·unfold atoiF
   rw [if_pos (by omega)]
   rw [← hat]
   cases hx : Lib.atoiAll w with
   | ok v =>
    simp only [Option.bind_some, Bool.not_true, cond_false]
    by_cases c : v < -1152921504606846976 ∨ v > 1152921504606846976
    ·rw [if_pos c]
     refine ycond ?_ rfl
     rcases c with c | c
     ·rw [decide_eq_true c]; rfl
     ·rw [decide_eq_true c]; cases decide (v < -1152921504606846976) <;> rfl
    ·rw [if_neg c]
     simp only [not_or] at c
     refine ycondn ?_ rfl
     rw [decide_eq_false c.1, decide_eq_false c.2]; rfl
   | range => rfl
   | _ =>
    exfalso
    have hp := parse_digits (cutMinus w) 0 (by unfold numericS at h; simp only [Bool.and_eq_true] at h; exact h.2)
    have := num_nosyn h
    rw [hx] at this
    exact this
end Go.Ab

set_option maxRecDepth 100000
namespace Go.Ab
open Go Go.RowKit Go.Proofs
end Go.Ab
