/-
  ReaderWrites: the card. For every argument of bulk at most 1048576, as the card says.
-/
import Derived.Test.YtdagildojaagiaaGreatDoorZ15
import Derived.Laws.RangeAny
import Derived.Laws.RangeString
import Derived.Test.YtdagildojaagiaaGreatDoorZ12
set_option linter.unusedVariables false
set_option linter.unusedSimpArgs false
set_option maxRecDepth 100000
namespace Go.Ab
open Go Go.RowKit Go.Proofs
theorem Up.get {R : Type} {o : Option R} {v : R} (h : Up False o v) : o = some v := h.elim id fun h => h.2.elim
theorem byteAt_in {t : List UInt8} {i : Nat} (h : i < t.length) : byteAt t (i : Int) = (t[i].toNat : Int) := by
 unfold byteAt; simp [h]
theorem visible_val (c : UInt8) : G_visible (c.toNat : Int) = some (!outsideS c) := by
 have : ∀ n : Fin 256, G_visible ((UInt8.ofFin n).toNat : Int) = some (!outsideS (UInt8.ofFin n)) := by decide +kernel
 exact this c.toFin
theorem digitB_eq (c : UInt8) : digitB c = (decide (48 ≤ c.toNat) && decide (c.toNat ≤ 57)) := by
 have : ∀ n : Fin 256, digitB (UInt8.ofFin n) = (decide (48 ≤ (UInt8.ofFin n).toNat) && decide ((UInt8.ofFin n).toNat ≤ 57)) := by decide +kernel
 exact this c.toFin
theorem digits_loop (s : List UInt8) (hs : s.length ≤ 4611686018427387000) :
  Option.bind (α := Step (((List UInt8) × Unit) × (Unit)) (Bool))
 (loopM (L := ((List UInt8) × Int × Unit) × (Unit)) (R := Step (((List UInt8) × Unit) × (Unit)) (Bool)) (fun d3 => (
 let v0_4 := d3.1.1
 let v3_5 := d3.1.2.1
 cond (decide (v3_5 < (v0_4.length : Int))) (cond (ixOK v3_5 v0_4.length) (cond ((ixOK v3_5 v0_4.length) || !(!(decide (byteAt v0_4 v3_5 < 48)))) (cond (cond (decide (byteAt v0_4 v3_5 < 48)) true (decide (byteAt v0_4 v3_5 > 57))) (some (Step.done (Step.done false))) (some (Step.next ((v0_4, IntKind.wrap .i64 (v3_5 + 1), ()), ())))) none) none) (some (Step.done (Step.next ((v0_4, ()), ())))))) ((s, 0, ()), ())) (fun qd6 => match qd6 with
 | .next d6 => (
 let v0_7 := d6.1.1
 some (!decide (v0_7 = [])))
 | .done r => some r) = some (!decide (s = []) && s.all digitB) := by
 refine Up.get ?_
 have h := loop_ix (N := False) (F := fun qd6 : Step (((List UInt8) × Unit) × (Unit)) (Bool) => match qd6 with
 | .next d6 => (
 let v0_7 := d6.1.1
 some (!decide (v0_7 = [])))
 | .done r => some r) (b := (fun d3 : ((List UInt8) × Int × Unit) × (Unit) => (
 let v0_4 := d3.1.1
 let v3_5 := d3.1.2.1
 cond (decide (v3_5 < (v0_4.length : Int))) (cond (ixOK v3_5 v0_4.length) (cond ((ixOK v3_5 v0_4.length) || !(!(decide (byteAt v0_4 v3_5 < 48)))) (cond (cond (decide (byteAt v0_4 v3_5 < 48)) true (decide (byteAt v0_4 v3_5 > 57))) (some (Step.done (Step.done false))) (some (Step.next ((v0_4, IntKind.wrap .i64 (v3_5 + 1), ()), ())))) none) none) (some (Step.done (Step.next ((v0_4, ()), ()))))))) (fun i => ((s, (i : Int), ()), ())) (fun i => (!decide (s = []) && (s.drop i).all digitB)) s.length (fun i hi => ?_) ?_
 ·simpa using h
 ·have e1 : decide ((i : Int) < (s.length : Int)) = true := by simp [hi]
  have e2 : ixOK (i : Int) s.length = true := ixOK_iff.2 (by omega)
  have e3 : decide (s = []) = false := by
   apply decide_eq_false
   intro h
   simp [h] at hi
  rw [List.drop_eq_getElem_cons hi]
  simp only [e1, e2, e3, cond_true, Bool.true_or, byteAt_in hi, wrapN (show i < 4611686018427387904 by omega), List.all_cons, Bool.not_false, Bool.true_and]
  by_cases c : digitB s[i] = true
  ·have c' := c
   rw [digitB_eq] at c'
   simp only [Bool.and_eq_true, decide_eq_true_eq] at c'
   refine .inl ⟨?_, by rw [c]; simp⟩
   have a1 : ¬ ((s[i].toNat : Int) < 48) := by omega
   have a2 : ¬ ((s[i].toNat : Int) > 57) := by omega
   simp [a1, a2]
  ·refine .inr (.inl ⟨.done false, ?_, .of (by simp [c])⟩)
   rw [digitB_eq] at c
   by_cases a1 : ((s[i].toNat : Int) < 48)
   ·simp [a1]
   ·have a2 : ((s[i].toNat : Int) > 57) := by
     simp only [Bool.and_eq_true, decide_eq_true_eq] at c
     omega
    simp [a1, a2]
 ·refine ⟨.next ((s, ()), ()), by simp, .of (by simp)⟩
theorem digits_val {t : List UInt8} (ht : t.length ≤ 4611686018427387000) : G_digits t = some (numericS t) := by
 unfold G_digits
 rcases t with _ | ⟨c, _ | ⟨d, r⟩⟩
 ·simp only [List.length_nil]
  show Option.bind (some ((([] : List UInt8), ()), ())) _ = _
  simp only [Option.bind_some]
  refine (digits_loop [] (by simp)).trans ?_
  rfl
 ·have e2 : decide (([c].length : Int) > 1) = false := by simp
  simp only [e2, Bool.not_false, Bool.or_true, cond_true, cond_false, Option.bind_some]
  refine (digits_loop [c] (by simp)).trans ?_
  congr 1
  unfold numericS cutMinus
  by_cases h : c = 45
  ·subst h; simp [digitB]; decide
  ·simp [h]
 ·have e0 : ixOK 0 (c :: d :: r).length = true := ixOK_iff.2 (by simp only [List.length_cons]; omega)
  have e2 : decide (((c :: d :: r).length : Int) > 1) = true := by simp only [List.length_cons]; apply decide_eq_true; omega
  have e3 : byteAt (c :: d :: r) 0 = (c.toNat : Int) := byteAt_in (t := c :: d :: r) (i := 0) (by simp)
  simp only [List.length_cons] at ht
  simp only [e0, e2, e3, cond_true, Bool.true_or]
  by_cases h : c = 45
  ·subst h
   have e4 : slOK 1 (((45 : UInt8) :: d :: r).length : Int) ((45 : UInt8) :: d :: r).length = true := by simp [slOK]; omega
   have e5 : decide (((45 : UInt8).toNat : Int) = 45) = true := by decide
   have e6 : List.take ((((45 : UInt8) :: d :: r).length : Int).toNat - (1 : Int).toNat) (List.drop (1 : Int).toNat ((45 : UInt8) :: d :: r)) = d :: r := by
    simp only [List.length_cons, Int.toNat_one, Int.toNat_natCast, List.drop_succ_cons, List.drop_zero]
    apply List.take_of_length_le
    simp
   simp only [e4, e5, e6, cond_true, Option.bind_some]
   refine (digits_loop (d :: r) (by simp only [List.length_cons]; omega)).trans ?_
   simp [numericS, cutMinus]
  ·have e5 : decide ((c.toNat : Int) = 45) = false := by
    apply decide_eq_false
    intro hc
    exact h (UInt8.toNat_inj.1 (by simpa using (by omega : c.toNat = 45)))
   simp only [e5, cond_false, Option.bind_some]
   refine (digits_loop (c :: d :: r) (by simp only [List.length_cons]; omega)).trans ?_
   congr 1
   simp [numericS, cutMinus, h]
theorem isWord_val {t : List UInt8} (ht : t.length ≤ 4611686018427387000) : G_isWord t = some (wordS t && t.all fun c => !outsideS c) := by
 refine Up.get ?_
 unfold G_isWord
 refine loop_ix (fun i => ((t, (i : Int), ()), ())) (fun i => wordS t && (t.drop i).all fun c => !outsideS c) t.length (fun i hi => ?_) ?_
 ·have e1 : decide ((i : Int) < (t.length : Int)) = true := by simp [hi]
  have e2 : ixOK (i : Int) t.length = true := ixOK_iff.2 (by omega)
  rw [List.drop_eq_getElem_cons hi]
  simp only [e1, e2, cond_true, byteAt_in hi, visible_val, Option.bind_some, wrapN (show i < 4611686018427387904 by omega), List.all_cons]
  cases ho : outsideS t[i] with
  | false => exact .inl ⟨by simp, by simp⟩
  | true => exact .inr (.inl ⟨.done false, by simp, .of (by simp)⟩)
 ·refine ⟨.next ((t, ()), ()), by simp, .of ?_⟩
  simp only [List.drop_length, List.all_nil, Bool.and_true]
  unfold wordS
  by_cases h1 : t = []
  ·subst h1; simp
  ·have a1 : decide ((t.length : Int) ≥ 1) = true := by
    have := List.length_pos_iff.2 h1
    apply decide_eq_true; omega
   by_cases h2 : t.length ≤ 30
   ·have a2 : decide ((t.length : Int) ≤ 30) = true := by apply decide_eq_true; omega
    simp [a1, a2, h1, h2, digits_val ht]
   ·have a2 : decide ((t.length : Int) ≤ 30) = false := by apply decide_eq_false; omega
    simp [a1, a2, h1, h2]
def badB (c : UInt8) : Bool := badR c.toNat
theorem idxR_bad (s : List UInt8) : ∀ (f pos : Nat), s.length < pos + f → (0 ≤ idxR badR s f pos ↔ (s.drop pos).any badB = true)
 | 0, pos, h => by
  rw [List.drop_eq_nil_of_le (by omega)]
  simp [idxR]
 | f + 1, pos, h => by
  unfold idxR
  by_cases hp : pos < s.length
  ·rw [if_pos hp, List.drop_eq_getElem_cons hp, List.any_cons]
   have hsz : pos < (⟨s.toArray⟩ : ByteArray).size := by show pos < s.toArray.size; simpa using hp
   have hel : ((⟨s.toArray⟩ : ByteArray)[pos]'hsz) = s[pos] := by simp [ByteArray.getElem_eq_getElem_data]
   by_cases h8 : s[pos].toNat < 128
   ·have hd := decode_ascii ⟨s.toArray⟩ pos hsz (by rw [hel]; exact h8)
    rw [hd, hel]
    show (0 ≤ (if badR ((s[pos].toNat : Nat) : Int) = true then ((pos : Nat) : Int) else _) ↔ _)
    by_cases hb : badB s[pos] = true
    ·have hb' := hb
     unfold badB at hb'
     rw [if_pos hb', hb]
     simp
    ·have hb' := hb
     unfold badB at hb'
     rw [if_neg hb', idxR_bad s f (pos + 1) (by omega)]
     simp [hb]
   ·have hd := decode_high ⟨s.toArray⟩ pos hsz (by rw [hel]; omega)
    have hb1 : badR (Utf8.decode ⟨s.toArray⟩ pos).1 = true := by
     have := hd.1
     unfold badR
     have a1 : ¬ (((Utf8.decode ⟨s.toArray⟩ pos).1 : Int) = 10) := by omega
     have a2 : (126 < ((Utf8.decode ⟨s.toArray⟩ pos).1 : Int)) := by omega
     simp only [a1, a2, decide_true, decide_false, Bool.not_false, Bool.or_true, Bool.and_true]
    have hb2 : badB s[pos] = true := by
     unfold badB badR
     have a1 : ¬ ((s[pos].toNat : Int) = 10) := by omega
     have a2 : (126 < (s[pos].toNat : Int)) := by omega
     simp only [a1, a2, decide_true, decide_false, Bool.not_false, Bool.or_true, Bool.and_true]
    rw [if_pos hb1, hb2]
    simp
  ·rw [if_neg hp, List.drop_eq_nil_of_le (by omega)]
   simp
theorem badT_any (t : List UInt8) : badT t = t.any badB := by
 unfold badT
 have := idxR_bad t (t.length + 1) 0 (by omega)
 rw [List.drop_zero] at this
 cases h : t.any badB with
 | true => exact decide_eq_true (this.2 h)
 | false => exact decide_eq_false fun hc => by have := this.1 hc; rw [h] at this; cases this
theorem isText_val {t : List UInt8} (ht : t.length ≤ 4611686018427387000) : G_isText t = some (decide (t.length ≤ 2000) && !badT t) := by
 refine Up.get ?_
 rw [badT_any]
 unfold G_isText
 refine loop_ix (fun i => ((t, (i : Int), ()), ())) (fun i => decide (t.length ≤ 2000) && !(t.drop i).any badB) t.length (fun i hi => ?_) ?_
 ·have e1 : decide ((i : Int) < (t.length : Int)) = true := by simp [hi]
  have e2 : ixOK (i : Int) t.length = true := ixOK_iff.2 (by omega)
  rw [List.drop_eq_getElem_cons hi]
  simp only [e1, e2, cond_true, Bool.true_or, byteAt_in hi, wrapN (show i < 4611686018427387904 by omega), List.any_cons]
  have hb : badB t[i] = (cond (!decide ((t[i].toNat : Int) = 10)) (cond (decide ((t[i].toNat : Int) < 32)) true (decide ((t[i].toNat : Int) > 126))) false) := by
   unfold badB badR
   by_cases a1 : (t[i].toNat : Int) = 10
   ·simp only [a1, decide_true, Bool.not_true, cond_false, Bool.false_and]
   ·by_cases a2 : (t[i].toNat : Int) < 32
    ·simp only [a1, a2, decide_true, decide_false, Bool.not_false, cond_true, Bool.true_or, Bool.and_true]
    ·simp only [a1, a2, decide_false, Bool.not_false, cond_true, cond_false, Bool.false_or, Bool.true_and, gt_iff_lt]
  rw [← hb]
  cases ho : badB t[i] with
  | false => exact .inl ⟨by simp, by simp⟩
  | true => exact .inr (.inl ⟨.done false, by simp, .of (by simp)⟩)
 ·refine ⟨.next ((t, ()), ()), by simp, .of ?_⟩
  simp
  omega
mutual
def fieldsF : Fm → Bool
 | .mk k n t l => leafS k n t l && fieldsL l
def fieldsL : List Fm → Bool
 | [] => true
 | f :: r => fieldsF f && fieldsL r
end
theorem fieldsF_eq (f : Fm) : fieldsF f = (leafS f.k f.n f.t f.l && fieldsL f.l) := by cases f; simp only [fieldsF]; rfl
theorem fields_up : ∀ k, ∀ f : Fm, f.big ≤ 4611686018427387000 → Up (k < f.big) (G_fields k f) (fieldsF f)
 | 0 => fun f hb => .inr ⟨by unfold G_fields; rfl, by have := big_pos f; omega⟩
 | k + 1 => fun f hb => by
  have hkb := big_kids f
  have hl := length_le_big f.l
  have htb : f.t.length < f.big := by cases f; simp only [Fm.big, Fm.t]; omega
  unfold G_fields
  rw [fieldsF_eq]
  generalize f.k = a
  generalize f.n = n
  generalize f.t = t at htb
  generalize f.l = l at hkb hl
  by_cases h0 : a = 0
  ·subst h0
   simp only [leafS, decide_true, decide_false, Bool.not_true, Bool.not_false, cond_true, cond_false, if_true, Int.reduceEq]
   cases l with
   | cons g r =>
    have : decide ((((g :: r).length : Nat) : Int) > 0) = true := by simp only [List.length_cons]; apply decide_eq_true; omega
    simp only [this, cond_true]
    exact .of (by simp)
   | nil =>
    by_cases ht : t = []
    ·subst ht
     exact .of (by simp [fieldsL])
    ·exact .of (by simp [ht])
  ·by_cases hn : n = 0
   ·subst hn
    by_cases h3 : a = 3
    ·subst h3
     simp only [leafS, decide_true, decide_false, Bool.not_true, Bool.not_false, cond_true, cond_false, if_true, Int.reduceEq, if_false]
     by_cases ht : t = []
     ·subst ht
      simp only [decide_true, Bool.not_true, Bool.true_and, cond_false]
      refine Up.bind (v := Step.done (fieldsL l)) ?_ (.of rfl)
      refine loop_ix (fun i => (((3, 0, [], l, ()), (i : Int), ()), ())) (fun i => (Step.done (fieldsL (l.drop i)) : Step ((Unit) × (Unit)) (Bool))) l.length (fun i hi => ?_) ?_
      ·have e1 : decide ((i : Int) < (l.length : Int)) = true := by simp [hi]
       have e2 : ixOK (i : Int) l.length = true := ixOK_iff.2 (by omega)
       have hm := big_mem (List.getElem_mem hi)
       rw [List.drop_eq_getElem_cons hi]
       simp only [e1, e2, cond_true, Int.toNat_natCast, getD_in hi, Fm.eta_eq, wrapN (show i < 4611686018427387904 by omega), fieldsL]
       rcases fields_up k l[i] (by omega) with h | ⟨h, hn⟩
       ·rw [h]
        cases fieldsF l[i] with
        | true => exact .inl ⟨by simp, by simp⟩
        | false => exact .inr (.inl ⟨.done (.done false), by simp, .of (by simp)⟩)
       ·rw [h]; exact .inr (.inr ⟨rfl, by omega⟩)
      ·refine ⟨.next ((), ()), by simp, .of ?_⟩
       simp [fieldsL]
     ·exact .of (by simp [ht])
    ·cases l with
     | cons g r =>
      have : decide ((((g :: r).length : Nat) : Int) > 0) = true := by simp only [List.length_cons]; apply decide_eq_true; omega
      have hf : leafS a 0 t (g :: r) = false := by unfold leafS; simp [h0, h3]
      simp only [hf, h0, h3, this, decide_true, decide_false, Bool.not_true, Bool.not_false, cond_true, cond_false]
      exact .of (by simp)
     | nil =>
      by_cases h1 : a = 1
      ·subst h1
       refine .of ?_
       simp [isWord_val (show t.length ≤ 4611686018427387000 by omega), leafS, fieldsL]
      ·by_cases h2 : a = 2
       ·subst h2
        refine .of ?_
        simp [isText_val (show t.length ≤ 4611686018427387000 by omega), leafS, fieldsL]
       ·refine .of ?_
        have hf : leafS a 0 t [] = false := by unfold leafS; simp [h0, h1, h2, h3]
        simp only [hf, h0, h1, h2, h3, decide_true, decide_false, Bool.not_true, Bool.not_false, cond_true, cond_false, Option.bind_some, Bool.false_and]
        cases decide (t = []) <;> simp
   ·have hf : leafS a n t l = false := by unfold leafS; simp [h0, hn]
    refine .of ?_
    simp [h0, hn, hf]
theorem fields_val {f : Fm} (hb : f.big ≤ 4611686018427387000) : L_fields f = some (fieldsF f) := limF_up (b := f.big) fun k => fields_up k f hb
theorem refSize_up : ∀ k, ∀ f : Fm, f.big ≤ 4611686018427387000 → Up (k < f.big) (G_refSize k f) (f.size : Int)
 | 0 => fun f hb => .inr ⟨by unfold G_refSize; rfl, by have := big_pos f; omega⟩
 | k + 1 => fun f hb => by
  obtain ⟨a, n, t, l⟩ := f
  have hs := size_le (.mk a n t l)
  have hkb := big_kids (.mk a n t l)
  have hln := length_le_big l
  simp only [Fm.l] at hkb
  unfold G_refSize
  simp only [Fm.k, Fm.n, Fm.t, Fm.l]
  by_cases h3 : a = 3
  ·subst h3
   simp only [Fm.size, if_true] at hs ⊢
   refine loop_ix (fun i => (((3, n, t, l, ()), ((1 + Fm.sizeL (l.take i) : Nat) : Int), (i : Int), ()), ())) (fun i => ((1 + Fm.sizeL l : Nat) : Int)) l.length (fun i hi => ?_) ?_
   ·have e1 : decide ((i : Int) < (l.length : Int)) = true := by simp [hi]
    have e2 : ixOK (i : Int) l.length = true := ixOK_iff.2 (by omega)
    have hm := big_mem (List.getElem_mem hi)
    have h2 := sizeL_take l hi
    have h3 := sizeL_take_le l (i + 1)
    simp only [decide_true, e1, e2, cond_true, Int.toNat_natCast, getD_in hi, Fm.eta_eq, wrapN (show i < 4611686018427387904 by omega)]
    rcases refSize_up k l[i] (by omega) with h | ⟨h, hn⟩
    ·rw [h]
     refine .inl ⟨?_, trivial⟩
     simp only [Option.bind_some]
     rw [w64 (by omega) (by omega)]
     have : ((1 + Fm.sizeL (l.take i) : Nat) : Int) + (l[i].size : Int) = ((1 + Fm.sizeL (l.take (i + 1)) : Nat) : Int) := by omega
     rw [this]
    ·rw [h]; exact .inr (.inr ⟨rfl, by omega⟩)
   ·refine ⟨((((1 + Fm.sizeL (l.take l.length) : Nat) : Int), ()), ()), by simp, .of ?_⟩
    simp
  ·rw [loopM_done (r := ((1, ()), ())) (by simp [h3])]
   exact .of (by simp [Fm.size, h3])
theorem refSize_val {f : Fm} (hb : f.big ≤ 4611686018427387000) : L_refSize f = some (f.size : Int) := limF_up (b := f.big) fun k => refSize_up k f hb
theorem refDepth_up : ∀ k, ∀ f : Fm, f.big ≤ 4611686018427387000 → Up (k < f.big) (G_refDepth k f) (f.depth : Int)
 | 0 => fun f hb => .inr ⟨by unfold G_refDepth; rfl, by have := big_pos f; omega⟩
 | k + 1 => fun f hb => by
  obtain ⟨a, n, t, l⟩ := f
  have hs := depth_le (.mk a n t l)
  have hkb := big_kids (.mk a n t l)
  have hln := length_le_big l
  simp only [Fm.l] at hkb
  unfold G_refDepth
  simp only [Fm.k, Fm.n, Fm.t, Fm.l]
  by_cases h3 : a = 3
  ·subst h3
   simp only [Fm.depth, if_true] at hs ⊢
   refine loop_ix (fun i => (((3, n, t, l, ()), (Fm.depthL (l.take i) : Int), (i : Int), ()), ())) (fun i => ((1 + Fm.depthL l : Nat) : Int)) l.length (fun i hi => ?_) ?_
   ·have e1 : decide ((i : Int) < (l.length : Int)) = true := by simp [hi]
    have e2 : ixOK (i : Int) l.length = true := ixOK_iff.2 (by omega)
    have hm := big_mem (List.getElem_mem hi)
    have h2 := depthL_take l hi
    simp only [decide_true, e1, e2, cond_true, Int.toNat_natCast, getD_in hi, Fm.eta_eq, wrapN (show i < 4611686018427387904 by omega)]
    rcases refDepth_up k l[i] (by omega) with h | ⟨h, hn⟩
    ·rw [h]
     refine .inl ⟨?_, trivial⟩
     simp only [Option.bind_some]
     have : (if (l[i].depth : Int) > (Fm.depthL (l.take i) : Int) then (l[i].depth : Int) else (Fm.depthL (l.take i) : Int)) = (Fm.depthL (l.take (i + 1)) : Int) := by
      rw [h2]; split <;> omega
     rw [this]
    ·rw [h]; exact .inr (.inr ⟨rfl, by omega⟩)
   ·refine ⟨(((Fm.depthL (l.take l.length) : Int), ()), ()), by simp, .of ?_⟩
    simp only [List.take_length]
    rw [w64 (by omega) (by omega)]
    congr 1; omega
  ·rw [loopM_done (r := ((0, ()), ())) (by simp [h3])]
   exact .of (by simp only [Option.bind_some, Fm.depth, h3, if_false]; rfl)
theorem refDepth_val {f : Fm} (hb : f.big ≤ 4611686018427387000) : L_refDepth f = some (f.depth : Int) := limF_up (b := f.big) fun k => refDepth_up k f hb
theorem leafS_kids {k n : Int} {t : List UInt8} {l : List Fm} (h : leafS k n t l = true) : k = 3 ∨ l = [] := by
 unfold leafS at h
 by_cases h3 : k = 3
 ·exact .inl h3
 ·by_cases hl : l = []
  ·exact .inr hl
  ·exfalso
   revert h
   split
   ·simp [hl]
   ·split
    ·simp [hl]
    ·split
     ·simp [hl]
     ·simp [h3]
theorem validLS_iff : ∀ (l : List Fm), (∀ f ∈ l, ∀ p d : Int, 0 ≤ p → 0 ≤ d → (validS f p d).1 = (fieldsF f && (decide ((f.size : Int) ≤ p) && decide ((f.depth : Int) ≤ d))) ∧ ((validS f p d).1 = true → (validS f p d).2 = p - f.size)) →
  ∀ p d : Int, 0 ≤ p → 0 ≤ d → (validLS l p d).1 = (fieldsL l && (decide ((Fm.sizeL l : Int) ≤ p) && decide ((Fm.depthL l : Int) ≤ d))) ∧ ((validLS l p d).1 = true → (validLS l p d).2 = p - Fm.sizeL l)
 | [], _, p, d, hp, hd => by
  simp only [validLS, fieldsL, Fm.sizeL, Fm.depthL]
  refine ⟨?_, fun _ => by simp⟩
  simp [hp, hd]
 | f :: r, h, p, d, hp, hd => by
  obtain ⟨h1, h2⟩ := h f (by simp) p d hp hd
  simp only [validLS, fieldsL, Fm.sizeL, Fm.depthL]
  by_cases hv : (validS f p d).1 = true
  ·rw [if_pos hv]
   have h2' := h2 hv
   rw [hv] at h1
   have h1' := h1.symm
   simp only [Bool.and_eq_true, decide_eq_true_eq] at h1'
   obtain ⟨a1, a2, a3⟩ := h1'
   obtain ⟨b1, b2⟩ := validLS_iff r (fun g hg => h g (by simp [hg])) (validS f p d).2 d (by omega) hd
   refine ⟨?_, fun ht => by have := b2 ht; omega⟩
   rw [b1, a1, h2']
   simp only [Bool.true_and]
   congr 2
   ·apply decide_eq_decide.2; omega
   ·apply decide_eq_decide.2; omega
  ·rw [if_neg hv]
   have hv' : (validS f p d).1 = false := by simpa using hv
   rw [hv'] at h1
   refine ⟨?_, fun h => by cases h⟩
   simp only
   symm
   by_cases a1 : fieldsF f = true
   ·by_cases a2 : (f.size : Int) ≤ p
    ·have a3 : ¬ (f.depth : Int) ≤ d := fun a3 => by rw [a1, decide_eq_true a2, decide_eq_true a3] at h1; cases h1
     have : ¬ (((max f.depth (Fm.depthL r) : Nat) : Int) ≤ d) := by omega
     simp only [this, decide_false, Bool.and_false]
    ·have : ¬ (((f.size + Fm.sizeL r : Nat) : Int) ≤ p) := by omega
     simp only [this, decide_false, Bool.false_and, Bool.and_false]
   ·simp [a1]
theorem validS_iff : ∀ f : Fm, ∀ p d : Int, 0 ≤ p → 0 ≤ d → (validS f p d).1 = (fieldsF f && (decide ((f.size : Int) ≤ p) && decide ((f.depth : Int) ≤ d))) ∧ ((validS f p d).1 = true → (validS f p d).2 = p - f.size) := Fm.ind fun k n t l ih p d hp hd => by
 have eS : (Fm.mk k n t l).size = 1 + (if k = 3 then Fm.sizeL l else 0) := by simp only [Fm.size]
 have eD : (Fm.mk k n t l).depth = 1 + (if k = 3 then Fm.depthL l else 0) := by simp only [Fm.depth]
 generalize (Fm.mk k n t l).size = S at eS ⊢
 generalize (Fm.mk k n t l).depth = D at eD ⊢
 simp only [validS, fieldsF]
 by_cases h1 : p - 1 < 0
 ·rw [if_pos (.inl h1)]
  refine ⟨?_, fun h => by cases h⟩
  have : ¬ ((S : Int) ≤ p) := by omega
  simp only [this, decide_false, Bool.false_and, Bool.and_false]
 ·by_cases h2 : d = 0
  ·rw [if_pos (.inr (.inl h2))]
   refine ⟨?_, fun h => by cases h⟩
   have : ¬ ((D : Int) ≤ d) := by omega
   simp only [this, decide_false, Bool.and_false]
  ·by_cases h3 : leafS k n t l = false
   ·rw [if_pos (.inr (.inr h3)), h3]
    exact ⟨by simp, fun h => by cases h⟩
   ·rw [if_neg (fun h => h.elim h1 fun h => h.elim h2 h3)]
    have h3' : leafS k n t l = true := by simpa using h3
    obtain ⟨b1, b2⟩ := validLS_iff l ih (p - 1) (d - 1) (by omega) (by omega)
    have hs : (if k = 3 then Fm.sizeL l else 0) = Fm.sizeL l ∧ (if k = 3 then Fm.depthL l else 0) = Fm.depthL l := by
     rcases leafS_kids h3' with rfl | rfl
     ·simp
     ·simp [Fm.sizeL, Fm.depthL]
    rw [hs.1] at eS
    rw [hs.2] at eD
    rw [h3', b1]
    refine ⟨?_, fun ht => by rw [← b1] at ht; have := b2 ht; omega⟩
    simp only [Bool.true_and]
    congr 2
    ·apply decide_eq_decide.2; omega
    ·apply decide_eq_decide.2; omega
theorem refValid_val {f : Fm} (hb : f.big ≤ 4611686018427387000) : G_refValid f = some (validF f) := by
 unfold G_refValid G_small1 validF
 rw [(validS_iff f 20000 100 (by omega) (by omega)).1]
 simp only [Fm.eta_eq, fields_val hb, refSize_val hb, refDepth_val hb, Option.bind_some]
 cases fieldsF f with
 | false => rfl
 | true =>
  by_cases h : (f.size : Int) ≤ 20000
  ·simp [h]
  ·simp [h]
end Go.Ab

set_option maxRecDepth 100000
namespace Go.Ab
open Go Go.RowKit Go.Proofs
mutual
def wr : Fm → List UInt8
 | .mk k n t l => if k = 0 then Lib.itoa n else if k = 1 then t else if k = 2 then 34 :: (escS t ++ [34]) else 40 :: (wrL true l ++ [41])
def wrL : Bool → List Fm → List UInt8
 | _, [] => []
 | b, f :: r => (if b = true then [] else [32]) ++ (wr f ++ wrL false r)
end
theorem wr_eq (f : Fm) : wr f = if f.k = 0 then Lib.itoa f.n else if f.k = 1 then f.t else if f.k = 2 then 34 :: (escS f.t ++ [34]) else 40 :: (wrL true f.l ++ [41]) := by
 cases f; rw [wr]; rfl
theorem wrL_append : ∀ (a c : List Fm) (b : Bool), wrL b (a ++ c) = wrL b a ++ wrL (b && a.isEmpty) c
 | [], c, b => by simp [wrL]
 | f :: a, c, b => by
  simp only [List.cons_append, wrL, wrL_append a c false, List.isEmpty_cons, Bool.and_false, Bool.false_and, List.append_assoc]
theorem wrL_take (l : List Fm) {i : Nat} (h : i < l.length) : wrL true (l.take (i + 1)) = wrL true (l.take i) ++ ((if i = 0 then [] else [32]) ++ wr l[i]) := by
 rw [List.take_add_one, List.getElem?_eq_getElem h, wrL_append]
 congr 1
 simp only [Option.toList_some, wrL, List.append_nil, Bool.true_and]
 by_cases hi : i = 0
 ·subst hi; simp
 ·have : (l.take i).isEmpty = false := by
   cases hl : l.take i with
   | nil =>
    have := congrArg List.length hl
    rw [List.length_take, Nat.min_eq_left (by omega)] at this
    exact absurd this hi
   | cons a r => rfl
  rw [this]; simp [hi]
theorem nDigits_le : ∀ (k u : Nat), u < 10 ^ k → Lib.nDigits u ≤ k + 1
 | 0, u, h => by rw [Lib.nDigits_small (by simp at h; omega)]; omega
 | k + 1, u, h => by
  by_cases h10 : u < 10
  ·rw [Lib.nDigits_small h10]; omega
  ·rw [Lib.nDigits_big h10]
   have := nDigits_le k (u / 10) (by rw [Nat.pow_succ] at h; omega)
   omega
theorem itoa_len {n : Int} (h1 : -1152921504606846976 ≤ n) (h2 : n ≤ 1152921504606846976) : (Lib.itoa n).length ≤ 21 := by
 unfold Lib.itoa
 split
 ·rw [List.length_cons, Lib.decDigits_length]
  have := nDigits_le 19 n.natAbs (by omega)
  omega
 ·rw [Lib.decDigits_length]
  have := nDigits_le 19 n.toNat (by omega)
  omega
theorem escS_le (t : List UInt8) : (escS t).length ≤ 2 * t.length := by
 rw [escS_len]
 have := cntS_le t
 omega
theorem wr_len : ∀ f : Fm, fieldsF f = true → (wr f).length + 1 ≤ 4101 * f.size := Fm.ind fun k n t l ih hf => by
 rw [fieldsF_eq] at hf
 simp only [Bool.and_eq_true] at hf
 obtain ⟨h1, h2⟩ := hf
 simp only [Fm.k, Fm.n, Fm.t, Fm.l] at h1 h2
 have hs : 1 ≤ (Fm.mk k n t l).size := by rw [Fm.size_eq]; omega
 rw [wr]
 unfold leafS at h1
 by_cases c0 : k = 0
 ·rw [if_pos c0] at h1 ⊢
  simp only [Bool.and_eq_true, decide_eq_true_eq] at h1
  have := itoa_len h1.2.2.1 h1.2.2.2
  omega
 ·rw [if_neg c0] at h1 ⊢
  by_cases c1 : k = 1
  ·rw [if_pos c1] at h1 ⊢
   simp only [wordS, Bool.and_eq_true, decide_eq_true_eq] at h1
   omega
  ·rw [if_neg c1] at h1 ⊢
   by_cases c2 : k = 2
   ·rw [if_pos c2] at h1 ⊢
    simp only [Bool.and_eq_true, decide_eq_true_eq] at h1
    have := escS_le t
    simp only [List.length_cons, List.length_append, List.length_nil]
    omega
   ·rw [if_neg c2] at h1 ⊢
    by_cases c3 : k = 3
    ·have key : ∀ (l : List Fm) (b : Bool), (∀ f ∈ l, fieldsF f = true → (wr f).length + 1 ≤ 4101 * f.size) → fieldsL l = true → (wrL b l).length ≤ 4101 * Fm.sizeL l := by
      intro l
      induction l with
      | nil => intro b _ _; simp [wrL]
      | cons f r ihr =>
       intro b hi hl
       simp only [fieldsL, Bool.and_eq_true] at hl
       have e1 := hi f (by simp) hl.1
       have e2 := ihr false (fun g hg => hi g (List.mem_cons_of_mem _ hg)) hl.2
       simp only [wrL, List.length_append, Fm.sizeL]
       have : (if b = true then [] else [32] : List UInt8).length ≤ 1 := by split <;> simp
       omega
     have := key l true ih h2
     rw [Fm.size_eq]
     have e3 : (if (Fm.mk k n t l).k = 3 then (Fm.mk k n t l).l else []) = l := if_pos c3
     rw [e3]
     simp only [List.length_cons, List.length_append, List.length_nil]
     omega
    ·rw [if_neg c3] at h1; cases h1
theorem wrL_len : ∀ (l : List Fm) (b : Bool), fieldsL l = true → (wrL b l).length ≤ 4101 * Fm.sizeL l
 | [], b, _ => by simp [wrL]
 | f :: r, b, hl => by
  simp only [fieldsL, Bool.and_eq_true] at hl
  have e1 := wr_len f hl.1
  have e2 := wrL_len r false hl.2
  simp only [wrL, List.length_append, Fm.sizeL]
  have : (if b = true then [] else [32] : List UInt8).length ≤ 1 := by split <;> simp
  omega
theorem ints_append (a b : List UInt8) : intsOf a ++ intsOf b = intsOf (a ++ b) := by unfold intsOf; rw [List.map_append]
theorem bldStr_val {x : List UInt8} {b : Bool} {l : List Int} (h : l.length + x.length ≤ 140737488355328) : G_bldStr x (b, (), ()) l = some (((x.length : Int), true, ()), ((true, (), ()), l ++ intsOf x, ())) := by
 unfold G_bldStr
 simp only [Option.bind_some, List.length_map, Nat.mul_one]
 rw [decide_eq_true h]
 rfl
theorem bldByte_val {c : Int} {b : Bool} {l : List Int} (h : l.length + 1 ≤ 140737488355328) : G_bldByte c (b, (), ()) l = some (true, ((true, (), ()), l ++ [c], ())) := by
 unfold G_bldByte
 simp only [Option.bind_some, List.length_cons, List.length_nil, Nat.mul_one, Nat.zero_add]
 rw [decide_eq_true h]
 rfl
end Go.Ab

set_option maxRecDepth 100000
namespace Go.Ab
open Go Go.RowKit Go.Proofs
theorem fieldsL_memX : ∀ {l : List Fm}, fieldsL l = true → ∀ f ∈ l, fieldsF f = true
 | [], _, f, h => by cases h
 | g :: r, hl, f, h => by
  simp only [fieldsL, Bool.and_eq_true] at hl
  rcases List.mem_cons.1 h with rfl | h
  ·exact hl.1
  ·exact fieldsL_memX hl.2 f h
theorem fieldsL_of {l : List Fm} (h : ∀ f ∈ l, fieldsF f = true) : fieldsL l = true := by
 induction l with
 | nil => simp [fieldsL]
 | cons f r ih => simp only [fieldsL, Bool.and_eq_true]; exact ⟨h f (by simp), ih fun g hg => h g (List.mem_cons_of_mem _ hg)⟩
theorem fieldsL_take {l : List Fm} (h : fieldsL l = true) (i : Nat) : fieldsL (l.take i) = true := fieldsL_of fun f hf => fieldsL_memX h f (List.mem_of_mem_take hf)
theorem newRep_val : G_newRep ([[92], [92, 92], [34], [92, 34], [10], [92, 110]]) = some ((), ((0, 0, 0, (), (), ()), old6, ())) := by
 unfold G_newRep
 rfl
theorem replF_val {s : List UInt8} (h : s.length ≤ 1000000) : replF (0, 0, 0, (), (), ()) old6 s = some (escS s, ()) := by
 unfold replF
 rw [if_pos ⟨rfl, rfl, rfl, h⟩]
theorem itoaF_val {n : Int} (h1 : -1152921504606846976 ≤ n) (h2 : n ≤ 1152921504606846976) : itoaF n = some (Lib.itoa n) := by
 unfold itoaF
 rw [if_pos ⟨by omega, by omega⟩]
theorem write_up : ∀ k, ∀ (f : Fm) (b : Bool) (l : List Int), fieldsF f = true → f.big ≤ 4611686018427387000 → l.length + 4101 * f.size ≤ 100000000000 → Up (k < f.big) (G_write k f (b, (), ()) l) ((), ((true, (), ()), l ++ intsOf (wr f), ()))
 | 0 => fun f b l hf hb hl => .inr ⟨by unfold G_write; rfl, by have := big_pos f; omega⟩
 | k + 1 => fun f b l hf hb hl => by
  have hlen := wr_len f hf
  have hw := wr_eq f
  have hf' := hf
  rw [fieldsF_eq] at hf'
  simp only [Bool.and_eq_true] at hf'
  obtain ⟨h1, h2⟩ := hf'
  unfold leafS at h1
  unfold G_write
  by_cases c0 : f.k = 0
  ·rw [if_pos c0] at h1 hw
   simp only [Bool.and_eq_true, decide_eq_true_eq] at h1
   rw [decide_eq_true c0, cond_true, itoaF_val h1.2.2.1 h1.2.2.2]
   simp only [Option.bind_some]
   rw [hw] at hlen ⊢
   rw [bldStr_val (by omega)]
   exact .of rfl
  ·rw [if_neg c0] at h1 hw
   rw [decide_eq_false c0, cond_false]
   by_cases c1 : f.k = 1
   ·rw [if_pos c1] at h1 hw
    rw [decide_eq_true c1, cond_true]
    rw [hw] at hlen ⊢
    rw [bldStr_val (by omega)]
    exact .of rfl
   ·rw [if_neg c1] at h1 hw
    rw [decide_eq_false c1, cond_false]
    by_cases c2 : f.k = 2
    ·rw [if_pos c2] at h1 hw
     simp only [Bool.and_eq_true, decide_eq_true_eq] at h1
     rw [decide_eq_true c2, cond_true]
     rw [hw] at hlen ⊢
     simp only [List.length_cons, List.length_append, List.length_nil] at hlen
     rw [bldByte_val (by omega)]
     simp only [Option.bind_some, newRep_val]
     rw [replF_val (by omega)]
     simp only [Option.bind_some]
     rw [bldStr_val (by simp only [List.length_append, List.length_cons, List.length_nil]; omega)]
     simp only [Option.bind_some]
     rw [bldByte_val (by simp only [List.length_append, List.length_cons, List.length_nil, ints_len]; omega)]
     refine .of ?_
     simp only [Option.bind_some]
     have : l ++ [34] ++ intsOf (escS f.t) ++ [34] = l ++ intsOf (34 :: (escS f.t ++ [34])) := by
      have e1 : intsOf (34 :: (escS f.t ++ [34])) = [34] ++ (intsOf (escS f.t) ++ [34]) := by
       rw [show (34 :: (escS f.t ++ [34]) : List UInt8) = [34] ++ (escS f.t ++ [34]) from rfl, ← ints_append, ← ints_append]
       rfl
      rw [e1]
      simp only [List.append_assoc]
     rw [this]
    ·rw [if_neg c2] at h1 hw
     rw [decide_eq_false c2, cond_false]
     have c3 : f.k = 3 := by
      by_cases c3 : f.k = 3
      ·exact c3
      ·rw [if_neg c3] at h1; cases h1
     have hsz : f.size = 1 + Fm.sizeL f.l := by rw [Fm.size_eq, if_pos c3]
     have hbk := big_kids f
     have hll := length_le_big f.l
     rw [hw] at hlen ⊢
     simp only [List.length_cons, List.length_append, List.length_nil] at hlen
     rw [bldByte_val (by omega)]
     simp only [Option.bind_some]
     refine loop_ix (A := Unit × ((Bool × Unit × Unit) × (List Int) × Unit)) (fun i => (((), f.l, (f.l.length : Int), (i : Int), ()), ((true, (), ()), l ++ intsOf (40 :: wrL true (f.l.take i)), ()))) (fun i => ((), ((true, (), ()), l ++ intsOf (40 :: (wrL true f.l ++ [41])), ()))) f.l.length (fun i hi => ?_) ?_
     ·have e1 : decide ((i : Int) < (f.l.length : Int)) = true := by simp [hi]
      have e2 : ixOK (i : Int) f.l.length = true := ixOK_iff.2 (by omega)
      have hg := big_mem (List.getElem_mem hi)
      have hgf := fieldsL_memX h2 _ (List.getElem_mem hi)
      have hs1 := sizeL_take f.l hi
      have hs2 := sizeL_take_le f.l (i + 1)
      have hw1 := wrL_len (f.l.take i) true (fieldsL_take h2 i)
      simp only [e1, e2, cond_true, Int.toNat_natCast, getD_in hi]
      have step : ∀ (l' : List Int), l'.length + 4101 * f.l[i].size ≤ 100000000000 → l' ++ intsOf (wr f.l[i]) = l ++ intsOf (40 :: wrL true (f.l.take (i + 1))) →
        (Option.bind (α := Unit × ((Bool × Unit × Unit) × (List Int) × Unit)) (G_write k (Fm.mk f.l[i].k f.l[i].n f.l[i].t f.l[i].l) (true, (), ()) l') fun r25 =>
         some (Step.next (R := (Unit × Unit) × ((Bool × Unit × Unit) × (List Int) × Unit)) (((), f.l, (f.l.length : Int), IntKind.wrap .i64 ((i : Int) + 1), ()), ((r25.2.1.1, (), ()), r25.2.2.1, ())))) =
         some (.next (((), f.l, (f.l.length : Int), ((i + 1 : Nat) : Int), ()), ((true, (), ()), l ++ intsOf (40 :: wrL true (f.l.take (i + 1))), ()))) ∨
        (Option.bind (α := Unit × ((Bool × Unit × Unit) × (List Int) × Unit)) (G_write k (Fm.mk f.l[i].k f.l[i].n f.l[i].t f.l[i].l) (true, (), ()) l') fun r25 =>
         some (Step.next (R := (Unit × Unit) × ((Bool × Unit × Unit) × (List Int) × Unit)) (((), f.l, (f.l.length : Int), IntKind.wrap .i64 ((i : Int) + 1), ()), ((r25.2.1.1, (), ()), r25.2.2.1, ())))) = none ∧ k + 1 < f.big := by
       intro l' hl' he
       rw [show Fm.mk f.l[i].k f.l[i].n f.l[i].t f.l[i].l = f.l[i] from Fm.eta_eq _, wrapN (show i < 4611686018427387904 by omega)]
       rcases write_up k f.l[i] true l' hgf (by omega) hl' with h | ⟨h, hn⟩
       ·rw [h, he]; exact .inl rfl
       ·rw [h]; exact .inr ⟨rfl, by omega⟩
      have hcl : (l ++ intsOf (40 :: wrL true (f.l.take i))).length = l.length + 1 + (wrL true (f.l.take i)).length := by
       rw [List.length_append, ints_len, List.length_cons]; omega
      have htk := wrL_take f.l hi
      by_cases hi0 : i = 0
      ·subst hi0
       have e3 : decide (((0 : Nat) : Int) > 0) = false := rfl
       rw [e3, cond_false]
       simp only [Option.bind_some]
       rcases step (l ++ intsOf (40 :: wrL true (f.l.take 0))) (by rw [hcl]; omega) (by
        rw [List.append_assoc, ints_append]
        congr 2
        rw [htk]
        simp) with h | h
       ·rw [h]; exact .inl ⟨rfl, trivial⟩
       ·rw [h.1]; exact .inr (.inr ⟨rfl, h.2⟩)
      ·have e3 : decide ((i : Int) > 0) = true := decide_eq_true (by omega)
       rw [e3, cond_true, bldByte_val (by rw [hcl]; omega)]
       simp only [Option.bind_some]
       rcases step (l ++ intsOf (40 :: wrL true (f.l.take i)) ++ [32]) (by rw [List.length_append, hcl]; simp only [List.length_cons, List.length_nil]; omega) (by
        rw [htk, if_neg hi0]
        rw [show (40 :: (wrL true (f.l.take i) ++ ([32] ++ wr f.l[i])) : List UInt8) = (40 :: wrL true (f.l.take i)) ++ ([32] ++ wr f.l[i]) from rfl, ← ints_append, ← ints_append]
        simp only [List.append_assoc]
        rfl) with h | h
       ·rw [h]; exact .inl ⟨rfl, trivial⟩
       ·rw [h.1]; exact .inr (.inr ⟨rfl, h.2⟩)
     ·have e1 : decide ((f.l.length : Int) < (f.l.length : Int)) = false := by simp
      refine ⟨_, by simp only [e1, cond_false]; rfl, ?_⟩
      simp only [List.take_length]
      rw [bldByte_val (by rw [List.length_append, ints_len, List.length_cons]; omega)]
      refine .of ?_
      simp only [Option.bind_some]
      rw [show (40 :: (wrL true f.l ++ [41]) : List UInt8) = (40 :: wrL true f.l) ++ [41] from rfl, ← ints_append, ← List.append_assoc]
      rfl
theorem write_val {f : Fm} {b : Bool} {l : List Int} (hf : fieldsF f = true) (hb : f.big ≤ 4611686018427387000) (hl : l.length + 4101 * f.size ≤ 100000000000) : L_write f (b, (), ()) l = some ((), ((true, (), ()), l ++ intsOf (wr f), ())) := limF_up (b := f.big) fun k => write_up k f b l hf hb hl
end Go.Ab

set_option maxRecDepth 100000
namespace Go.Ab
open Go Go.RowKit Go.Proofs
theorem str_intsX (b : List UInt8) : strOf (intsOf b) = b := by
 unfold strOf intsOf
 rw [List.map_map]
 refine List.map_id'' (fun c => ?_) b
 simp
theorem byteD (c : UInt8) (n : Nat) (h : n < 256) : decide (((c.toNat : Nat) : Int) = ((n : Nat) : Int)) = decide (c = UInt8.ofNat n) := ybyteD c n h
theorem repB_other {c : UInt8} (h1 : c ≠ 10) (h2 : c ≠ 34) (h3 : c ≠ 92) : repB c.toNat = none := by
 have key : ∀ d : UInt8, c ≠ d → Nat.beq c.toNat d.toNat = false := fun d h => by
  cases hb : Nat.beq c.toNat d.toNat with
  | false => rfl
  | true => exact absurd (UInt8.toNat_inj.1 (Nat.eq_of_beq_eq_true hb)) h
 have k1 : Nat.beq c.toNat 10 = false := key 10 h1
 have k2 : Nat.beq c.toNat 34 = false := key 34 h2
 have k3 : Nat.beq c.toNat 92 = false := key 92 h3
 simp [repB, k1, k2, k3]
theorem rtext_up : ∀ k, ∀ (f : Fm), fieldsF f = true → f.big ≤ 4611686018427387000 → 4101 * f.size ≤ 100000000000 → Up (k < f.big) (G_rtext k f) (wr f)
 | 0 => fun f hf hb hl => .inr ⟨by unfold G_rtext; rfl, by have := big_pos f; omega⟩
 | k + 1 => fun f hf hb hl => by
  have hlen := wr_len f hf
  have hw := wr_eq f
  have hf' := hf
  rw [fieldsF_eq] at hf'
  simp only [Bool.and_eq_true] at hf'
  obtain ⟨h1, h2⟩ := hf'
  unfold leafS at h1
  unfold G_rtext
  by_cases c0 : f.k = 0
  ·rw [if_pos c0] at h1 hw
   simp only [Bool.and_eq_true, decide_eq_true_eq] at h1
   rw [decide_eq_true c0, cond_true, itoaF_val h1.2.2.1 h1.2.2.2, hw]
   exact .of rfl
  ·rw [if_neg c0] at h1 hw
   rw [decide_eq_false c0, cond_false]
   by_cases c1 : f.k = 1
   ·rw [if_pos c1] at h1 hw
    rw [decide_eq_true c1, cond_true, hw]
    exact .of rfl
   ·rw [if_neg c1] at h1 hw
    rw [decide_eq_false c1, cond_false]
    by_cases c2 : f.k = 2
    ·rw [if_pos c2] at h1 hw
     simp only [Bool.and_eq_true, decide_eq_true_eq] at h1
     rw [decide_eq_true c2, cond_true]
     have ht := h1.1
     refine Up.bind (v := Step.done (wr f)) ?_ (.of rfl)
     rw [hw]
     generalize f.t = t at ht
     refine loop_ix (A := Step (((Int × Int × (List UInt8) × (List Fm) × Unit) × Unit) × (Unit)) (List UInt8)) (fun i => (((f.k, f.n, t, f.l, ()), (), (i : Int), ()), (intsOf (escS (t.take i)), ()))) (fun i => Step.done (34 :: (escS t ++ [34]))) t.length (fun i hi => ?_) ?_
     ·have e1 : decide ((i : Int) < (t.length : Int)) = true := by simp [hi]
      have e2 : ixOK (i : Int) t.length = true := ixOK_iff.2 (by omega)
      have hle := escS_le (t.take i)
      rw [List.length_take, Nat.min_eq_left (by omega)] at hle
      have hes := escS_take t i t[i] (List.getElem?_eq_getElem hi)
      have d1 : decide ((intsOf (escS (t.take i))).length + 2 ≤ 140737488355328) = true := decide_eq_true (by rw [ints_len]; omega)
      have d2 : decide ((intsOf (escS (t.take i))).length + 1 ≤ 140737488355328) = true := decide_eq_true (by rw [ints_len]; omega)
      have d3 : decide (((t[i].toNat : Nat) : Int) = 10) = decide (t[i] = UInt8.ofNat 10) := byteD t[i] 10 (by omega)
      have d4 : decide (((t[i].toNat : Nat) : Int) = 34) = decide (t[i] = UInt8.ofNat 34) := byteD t[i] 34 (by omega)
      have d5 : decide (((t[i].toNat : Nat) : Int) = 92) = decide (t[i] = UInt8.ofNat 92) := byteD t[i] 92 (by omega)
      refine .inl ⟨?_, rfl⟩
      simp only [e1, e2, cond_true, ybyte hi, List.length_cons, List.length_nil, Nat.zero_add, Nat.mul_one, wrapN (show i < 4611686018427387904 by omega)]
      rw [hes]
      generalize t[i] = c at d3 d4 d5
      generalize escS (t.take i) = p at d1 d2
      rw [d3, d4, d5]
      by_cases x1 : c = 10
      ·subst x1
       simp only [show decide ((10 : UInt8) = UInt8.ofNat 10) = true from rfl, cond_true, Option.bind_some, d1, wrapN (show i < 4611686018427387904 by omega)]
       rw [← ints_append]
       rfl
      ·rw [decide_eq_false (show ¬ c = UInt8.ofNat 10 from x1)]
       by_cases x2 : c = 34
       ·subst x2
        simp only [show decide ((34 : UInt8) = UInt8.ofNat 34) = true from rfl, cond_true, cond_false, Option.bind_some, d1, wrapN (show i < 4611686018427387904 by omega)]
        rw [← ints_append]
        rfl
       ·rw [decide_eq_false (show ¬ c = UInt8.ofNat 34 from x2)]
        by_cases x3 : c = 92
        ·subst x3
         simp only [show decide ((92 : UInt8) = UInt8.ofNat 92) = true from rfl, cond_true, cond_false, Option.bind_some, d1, wrapN (show i < 4611686018427387904 by omega)]
         rw [← ints_append]
         rfl
        ·rw [decide_eq_false (show ¬ c = UInt8.ofNat 92 from x3), repB_other x1 x2 x3]
         simp only [cond_true, cond_false, Option.bind_some, d2, wrapN (show i < 4611686018427387904 by omega)]
         rw [← ints_append]
         rfl
     ·have e1 : decide ((t.length : Int) < (t.length : Int)) = false := by simp
      refine ⟨_, by simp only [e1, cond_false]; rfl, ?_⟩
      have hle := escS_le t
      simp only [List.take_length, str_intsX, List.length_cons, List.length_nil, List.length_append]
      rw [decide_eq_true (by omega), decide_eq_true (by omega)]
      exact .of rfl
    ·rw [if_neg c2] at h1 hw
     rw [decide_eq_false c2, cond_false]
     have c3 : f.k = 3 := by
      by_cases c3 : f.k = 3
      ·exact c3
      ·rw [if_neg c3] at h1; cases h1
     have hsz : f.size = 1 + Fm.sizeL f.l := by rw [Fm.size_eq, if_pos c3]
     have hbk := big_kids f
     have hll := length_le_big f.l
     rw [hw] at hlen ⊢
     simp only [List.length_cons, List.length_append, List.length_nil] at hlen
     refine Up.bind (v := _) (.of rfl) ?_
     simp only
     refine loop_ix (A := List UInt8) (fun i => (((f.k, f.n, f.t, f.l, ()), (), (i : Int), ()), (intsOf (40 :: wrL true (f.l.take i)), ()))) (fun i => 40 :: (wrL true f.l ++ [41])) f.l.length (fun i hi => ?_) ?_
     ·have e1 : decide ((i : Int) < (f.l.length : Int)) = true := by simp [hi]
      have e2 : ixOK (i : Int) f.l.length = true := ixOK_iff.2 (by omega)
      have hg := big_mem (List.getElem_mem hi)
      have hgf := fieldsL_memX h2 _ (List.getElem_mem hi)
      have hs1 := sizeL_take f.l hi
      have hs2 := sizeL_take_le f.l (i + 1)
      have hw1 := wrL_len (f.l.take i) true (fieldsL_take h2 i)
      have hgl := wr_len _ hgf
      have htk := wrL_take f.l hi
      simp only [e1, e2, cond_true, Int.toNat_natCast, getD_in hi, Fm.eta_eq, List.length_cons, List.length_nil, Nat.zero_add, Nat.mul_one]
      rcases rtext_up k f.l[i] hgf (by omega) (by omega) with h | ⟨h, hn⟩
      ·refine .inl ⟨?_, trivial⟩
       by_cases hi0 : i = 0
       ·subst hi0
        have e3 : decide (((0 : Nat) : Int) > 0) = false := rfl
        simp only [e2, e3, cond_false, cond_true, Option.bind_some, Int.toNat_natCast, getD_in hi, Fm.eta_eq, h, List.length_map]
        rw [decide_eq_true (by rw [ints_len, List.length_cons]; omega), wrapN (show 0 < 4611686018427387904 by omega), htk]
        simp only [cond_true, if_true, List.nil_append]
        rw [show (40 :: (wrL true (f.l.take 0) ++ wr f.l[0]) : List UInt8) = (40 :: wrL true (f.l.take 0)) ++ wr f.l[0] from rfl, ← ints_append]
        rfl
       ·have e3 : decide ((i : Int) > 0) = true := decide_eq_true (by omega)
        have e4 : decide ((intsOf (40 :: wrL true (f.l.take i))).length + 1 ≤ 140737488355328) = true := decide_eq_true (by rw [ints_len, List.length_cons]; omega)
        simp only [e2, e3, e4, cond_true, Option.bind_some, Int.toNat_natCast, getD_in hi, Fm.eta_eq, h, List.length_map]
        rw [decide_eq_true (by rw [List.length_append, ints_len, List.length_cons]; simp only [List.length_cons, List.length_nil]; omega), wrapN (show i < 4611686018427387904 by omega), htk, if_neg hi0]
        simp only [cond_true]
        rw [show (40 :: (wrL true (f.l.take i) ++ ([32] ++ wr f.l[i])) : List UInt8) = (40 :: wrL true (f.l.take i)) ++ ([32] ++ wr f.l[i]) from rfl, ← ints_append, ← ints_append, ← List.append_assoc]
        rfl
      ·refine .inr (.inr ⟨?_, by omega⟩)
       by_cases hi0 : i = 0
       ·subst hi0
        have e3 : decide (((0 : Nat) : Int) > 0) = false := rfl
        simp only [e2, e3, cond_false, cond_true, Option.bind_some, Option.bind_none, Int.toNat_natCast, getD_in hi, Fm.eta_eq, h]
       ·have e3 : decide ((i : Int) > 0) = true := decide_eq_true (by omega)
        have e4 : decide ((intsOf (40 :: wrL true (f.l.take i))).length + 1 ≤ 140737488355328) = true := decide_eq_true (by rw [ints_len, List.length_cons]; omega)
        simp only [e2, e3, e4, cond_true, Option.bind_some, Option.bind_none, Int.toNat_natCast, getD_in hi, Fm.eta_eq, h]
     ·have e1 : decide ((f.l.length : Int) < (f.l.length : Int)) = false := by simp
      refine ⟨_, by simp only [e1, cond_false]; rfl, ?_⟩
      simp only [List.take_length, List.length_cons, List.length_nil, Nat.zero_add, Nat.mul_one]
      rw [decide_eq_true (by rw [ints_len, List.length_cons]; omega), cond_true]
      refine .of ?_
      rw [show (intsOf (40 :: wrL true f.l) ++ [41]) = intsOf (40 :: (wrL true f.l ++ [41])) by
       rw [show (40 :: (wrL true f.l ++ [41]) : List UInt8) = (40 :: wrL true f.l) ++ [41] from rfl, ← ints_append]
       rfl, str_intsX]
theorem rtext_val {f : Fm} (hf : fieldsF f = true) (hb : f.big ≤ 4611686018427387000) (hl : 4101 * f.size ≤ 100000000000) : L_rtext f = some (wr f) := limF_up (b := f.big) fun k => rtext_up k f hf hb hl
end Go.Ab

set_option maxRecDepth 100000
namespace Go.Ab
open Go Go.RowKit Go.Proofs
noncomputable def G_lawWrites (x0 : Fm) : Option (Bool) := (
 Option.bind (α := List UInt8) (G_rWrite (Fm.eta x0)) fun r1 => (
 Option.bind (α := List UInt8) (G_refWrite (Fm.eta x0)) fun r2 => (
 Option.bind (α := Bool) (cond (decide (r1 = r2)) (G_rvalid (Fm.eta x0)) (some false)) fun r3 => (
 Option.bind (α := Bool) (cond (decide (r1 = r2)) (G_refValid (Fm.eta x0)) (some false)) fun r4 => (
 Option.bind (α := Int) (cond (cond (decide (r1 = r2)) (r3 == r4) false) (L_size (Fm.eta x0)) (some (0 : Int))) fun r5 => (
 Option.bind (α := Int) (cond (cond (decide (r1 = r2)) (r3 == r4) false) (L_refSize (Fm.eta x0)) (some (0 : Int))) fun r6 => (
 Option.bind (α := Int) (cond (cond (cond (decide (r1 = r2)) (r3 == r4) false) (decide (r5 = r6)) false) (L_depth (Fm.eta x0)) (some (0 : Int))) fun r7 => (
 Option.bind (α := Int) (cond (cond (cond (decide (r1 = r2)) (r3 == r4) false) (decide (r5 = r6)) false) (L_refDepth (Fm.eta x0)) (some (0 : Int))) fun r8 => (
 Option.bind (α := Int) (cond (cond (cond (cond (decide (r1 = r2)) (r3 == r4) false) (decide (r5 = r6)) false) (decide (r7 = r8)) false) (G_rSum (Fm.eta x0)) (some (0 : Int))) fun r9 => (
 Option.bind (α := Int) (cond (cond (cond (cond (decide (r1 = r2)) (r3 == r4) false) (decide (r5 = r6)) false) (decide (r7 = r8)) false) (G_refSum (Fm.eta x0)) (some (0 : Int))) fun r10 => (
 Option.bind (α := List UInt8) (cond (cond (cond (cond (cond (decide (r1 = r2)) (r3 == r4) false) (decide (r5 = r6)) false) (decide (r7 = r8)) false) (decide (r9 = r10)) false) (G_head (Fm.eta x0)) (some ([] : List UInt8))) fun r11 => (
 Option.bind (α := List UInt8) (cond (cond (cond (cond (cond (decide (r1 = r2)) (r3 == r4) false) (decide (r5 = r6)) false) (decide (r7 = r8)) false) (decide (r9 = r10)) false) (G_refHead (Fm.eta x0)) (some ([] : List UInt8))) fun r12 => (
 Option.bind (α := Bool) (cond (cond (cond (cond (cond (cond (decide (r1 = r2)) (r3 == r4) false) (decide (r5 = r6)) false) (decide (r7 = r8)) false) (decide (r9 = r10)) false) (decide (r11 = r12)) false) (G_sane01) (some false)) fun r13 => (
 some (cond (cond (cond (cond (cond (cond (decide (r1 = r2)) (r3 == r4) false) (decide (r5 = r6)) false) (decide (r7 = r8)) false) (decide (r9 = r10)) false) (decide (r11 = r12)) false) r13 false)))))))))))))))
def A_lawWrites : An := .leaf
def H_lawWrites : Nat → RH := fun r => match r with
 | 1 => { H := { pl := [3, 5, 9, 11, 16, 18, 23, 25, 30, 32, 37, 39] } }
 | _ => {}
noncomputable def S_lawWrites : Sig := .n [(.d .form)] (.d .bool) (fun x => G_lawWrites x.1)
theorem S_lawWrites_ok : SigOK CX 6 S_lawWrites := sigN_of (l := [(32, S_rWrite), (33, S_refWrite), (34, S_rvalid), (35, S_refValid), (36, S_size_l), (10, S_refSize_l), (37, S_depth_l), (38, S_refDepth_l), (39, S_rSum), (40, S_refSum), (41, S_head), (42, S_refHead), (26, S_sane01)]) ⟨S_rWrite_ok, S_refWrite_ok, S_rvalid_ok, S_refValid_ok, S_size_l_ok, S_refSize_l_ok, S_depth_l_ok, S_refDepth_l_ok, S_rSum_ok, S_refSum_ok, S_head_ok, S_refHead_ok, S_sane01_ok, trivial⟩ (hint := H_lawWrites) (an := A_lawWrites) (fun x => by kernel_rfl)
def wrV (f : Fm) : List UInt8 := if validF f = true then wr f else []
theorem validF_iff (f : Fm) : validF f = (fieldsF f && (decide ((f.size : Int) ≤ 20000) && decide ((f.depth : Int) ≤ 100))) := (validS_iff f 20000 100 (by omega) (by omega)).1
theorem validF_of {f : Fm} (h : validF f = true) : fieldsF f = true ∧ f.size ≤ 20000 := by
 rw [validF_iff] at h
 simp only [Bool.and_eq_true, decide_eq_true_eq] at h
 exact ⟨h.1, by omega⟩
theorem wrV_len (f : Fm) : (wrV f).length ≤ 4101 * 20000 := by
 unfold wrV
 split
 ·rename_i h
  obtain ⟨h1, h2⟩ := validF_of h
  have := wr_len f h1
  omega
 ·simp
theorem rWrite_val {f : Fm} (hb : f.big ≤ 4611686018427387000) : G_rWrite f = some (wrV f) := by
 unfold G_rWrite wrV
 simp only [Fm.eta_eq, rvalid_val hb, Option.bind_some]
 by_cases hv : validF f = true
 ·obtain ⟨h1, h2⟩ := validF_of hv
  rw [hv, if_pos rfl]
  simp only [Bool.not_true, cond_false]
  rw [write_val h1 hb (by simp only [List.length_nil]; omega)]
  simp only [Option.bind_some, List.nil_append, bytes_ints, Option.map_some]
 ·rw [if_neg hv, eq_false_of_ne_true hv]
  rfl
theorem refWrite_val {f : Fm} (hb : f.big ≤ 4611686018427387000) : G_refWrite f = some (wrV f) := by
 unfold G_refWrite wrV
 simp only [Fm.eta_eq, refValid_val hb, Option.bind_some]
 by_cases hv : validF f = true
 ·obtain ⟨h1, h2⟩ := validF_of hv
  rw [hv, if_pos rfl]
  simp only [Bool.not_true, cond_false]
  rw [rtext_val h1 hb (by omega)]
  rfl
 ·rw [if_neg hv, eq_false_of_ne_true hv]
  rfl
def sumT (n c : Int) : Int := Int.tmod (IntKind.wrap .i64 (IntKind.wrap .i64 (31 * n) + IntKind.wrap .i64 c)) 1000003
def sumS (s : List UInt8) : Int := s.foldl (fun n c => sumT n (c.toNat : Int)) 7
theorem sumS_take (s : List UInt8) {i : Nat} (h : i < s.length) : sumS (s.take (i + 1)) = sumT (sumS (s.take i)) (s[i].toNat : Int) := by
 unfold sumS
 rw [List.take_add_one, List.getElem?_eq_getElem h, List.foldl_append]
 rfl
theorem rSum_val {f : Fm} (hb : f.big ≤ 4611686018427387000) : G_rSum f = some (sumS (wrV f)) := by
 refine Up.get ?_
 unfold G_rSum
 have hl := wrV_len f
 simp only [Fm.eta_eq, rWrite_val hb, Option.bind_some]
 generalize wrV f = s at hl
 rw [decide_eq_true (show s.length ≤ 4611686018427387904 by omega), cond_true]
 refine loop_ix (N := False) (A := Int) (fun i => ((sumS (s.take i), intsOf s, ((intsOf s).length : Int), (i : Int), ()), ())) (fun i => sumS s) s.length (fun i hi => ?_) ?_
 ·have e1 : decide ((i : Int) < ((intsOf s).length : Int)) = true := by rw [ints_len]; simp [hi]
  have e2 : ixOK (i : Int) (intsOf s).length = true := ixOK_iff.2 (by rw [ints_len]; omega)
  refine .inl ⟨?_, rfl⟩
  have e3 : (intsOf s).getD i 0 = (s[i].toNat : Int) := by
   unfold intsOf
   rw [List.getD_eq_getElem?_getD, List.getElem?_map, List.getElem?_eq_getElem hi]
   rfl
  simp only [e1, e2, cond_true, Int.toNat_natCast, e3, wrapN (show i < 4611686018427387904 by omega), sumS_take s hi]
  rfl
 ·refine ⟨_, by rw [ints_len]; simp only [show decide ((s.length : Int) < (s.length : Int)) = false by simp, cond_false]; rfl, .of ?_⟩
  simp
theorem refSum_val {f : Fm} (hb : f.big ≤ 4611686018427387000) : G_refSum f = some (sumS (wrV f)) := by
 refine Up.get ?_
 unfold G_refSum
 have hl := wrV_len f
 simp only [Fm.eta_eq, refWrite_val hb, Option.bind_some]
 generalize wrV f = s at hl
 refine loop_ix (N := False) (A := Int) (fun i => ((sumS (s.take i), s, (i : Int), ()), ())) (fun i => sumS s) s.length (fun i hi => ?_) ?_
 ·have e1 : decide ((i : Int) < (s.length : Int)) = true := by simp [hi]
  have e2 : ixOK (i : Int) s.length = true := ixOK_iff.2 (by omega)
  refine .inl ⟨?_, rfl⟩
  simp only [e1, e2, cond_true, ybyte hi, wrapN (show i < 4611686018427387904 by omega), sumS_take s hi]
  rfl
 ·refine ⟨_, by simp only [show decide ((s.length : Int) < (s.length : Int)) = false by simp, cond_false]; rfl, .of ?_⟩
  simp
def hdW (f : Fm) : List UInt8 := match (if f.k = 3 then f.l else []) with | [] => [] | g :: _ => if g.k = 1 then g.t else []
theorem refHead_valW (f : Fm) : G_refHead f = some (hdW f) := by
 unfold G_refHead hdW
 by_cases h3 : f.k = 3
 ·cases hl : f.l with
  | nil => simp [h3, ixOK]
  | cons g r =>
   have e : ixOK 0 (g :: r).length = true := ixOK_iff.2 (by simp only [List.length_cons]; omega)
   have e2 : decide (((g :: r).length : Int) = 0) = false := by apply decide_eq_false; simp only [List.length_cons]; omega
   simp only [h3, e, e2, decide_true, Bool.not_true, Bool.true_or, cond_true, cond_false, if_true]
   show cond (cond false true (!decide (g.k = 1))) (some []) (some g.t) = _
   by_cases h : g.k = 1 <;> simp [h]
 ·simp [h3]
theorem lawWrites_val {f : Fm} (hb : f.big ≤ 4611686018427387000) : G_lawWrites f = some true := by
 have hv : G_head f = some (hdW f) := by rw [head_val]; rfl
 unfold G_lawWrites
 simp only [Fm.eta_eq, rWrite_val hb, refWrite_val hb, rvalid_val hb, refValid_val hb, size_val hb, refSize_val hb, depth_val hb, refDepth_val hb, rSum_val hb, refSum_val hb, Option.bind_some, hv, refHead_valW, sane01_val, decide_true, cond_true, BEq.rfl]
theorem writes_call {f : Fm} (hb : f.big ≤ 4611686018427387000) : PCall CX 6 [.agg (E.cells .form f)] (· = .ret (.bool true)) :=
 S_lawWrites_ok (f, ()) true (lawWrites_val hb)
end Go.Ab

set_option maxRecDepth 100000
namespace Go.Proofs.YtdagildojaagiaaGreatDoor.readerWrites
open Go Go.ChangeShapes Go.WideShapes Go.ChangeAt Go.RowKit Go.Ab
theorem own : ownKnob Tryz.prog.godebug = none := by kernel_rfl
def flat {H : Type} : Nat → DataW H → List Value
 | 0, _ => []
 | n + 1, d => match d with
  | .lit (.int k x) => [.int k x]
  | .agg l => l.flatMap (flat n)
  | _ => []
noncomputable def lay (W : World) (name : String) (d : DataW Unit) : World :=
 match Tryz.prog.globalNamed name with
 | some g => match d with
  | .iface _ (.ptr (.agg [.lit (.string bs)])) => { W with heap := (W.heap.push (.cells #[.string ⟨bs.toArray⟩] 298 (0, 0))).modify g fun
   | .cells _ t fz => .cells #[.iface 296 (.pointer (some ⟨W.heap.size, 0, none⟩))] t fz
   | o => o }
  | d => { W with heap := W.heap.modify g fun
   | .cells _ t fz => .cells (flat 4 d).toArray t fz
   | o => o }
 | none => W
noncomputable def laidWorld (os : Os) : World :=
 lay (lay (lay (lay (lay (lay (lay (World.holding Tryz.prog os ⟨#[], #[], []⟩) "math/bits.deBruijn32tab" Rows.laid_math_bits_deBruijn32tab) "math/bits.deBruijn64tab" Rows.laid_math_bits_deBruijn64tab) "internal/strconv.uint64pow10" Rows.laid_internal_strconv_uint64pow10) "unicode/utf8.acceptRanges" Rows.laid_unicode_utf8_acceptRanges) "strconv.ErrRange" Rows.laid_strconv_ErrRange) "strconv.ErrSyntax" Rows.laid_strconv_ErrSyntax) "unicode/utf8.first" Rows.laid_unicode_utf8_first
theorem laid_met (os : Os) : laidMet Tryz.prog Rows.readerWritesUptoRow.laid ((laidWorld os).forCall (fun _ _ => 0) ⟨#[], #[(.agg #[.int .i64 0, .int .i64 0, .string ⟨#[]⟩, .slice none 0 0])], []⟩).memory :=
 laidMet_of_run' 8 (by kernel_rfl) (by kernel_rfl)
theorem reads (os : Os) {H : Type} (enc : TypeId × Value → H) : ∃ places, DataW.whole enc Tryz.prog ((laidWorld os).forCall (fun _ _ => 0) ⟨#[], #[(.agg #[.int .i64 0, .int .i64 0, .string ⟨#[]⟩, .slice none 0 0])], []⟩).memory Tryz.f6.params.toList Rows.readerWritesSpec.vars false (#[(.agg #[.int .i64 0, .int .i64 0, .string ⟨#[]⟩, .slice none 0 0])] : Array Value).toList 8 = some ([(.agg [.lit (.int .i64 0), .lit (.int .i64 0), .lit (.string []), .nil])], [], places) :=
 ⟨[], by kernel_rfl⟩
theorem spec_fn (H : Type) (ds : List (DataW H)) (h : ds.length = Tryz.f6.params.toList.length) : Rows.readerWritesSpec.fn H ds = { results := [.lit (.bool true)], args := ds } := by
 rw [Tryz.params6] at h
 rcases ds with _ | ⟨d0, _ | ⟨e, ds⟩⟩
 all_goals first | (simp at h; done) | rfl
theorem contract (H : Type) (enc : TypeId × Value → H) (W : World) (base : Nat) (args : Array Value) (ds gs : List (DataW H)) (before : List MemPlace)
  (hval : ∀ (j : Nat) t v, Tryz.f6.params[j]? = some t → args[j]? = some v → Value.okWide Tryz.prog W .any base t v)
  (hW : DataW.Whole enc Tryz.prog Tryz.f6.params.toList Rows.readerWritesSpec.vars false W args.toList ds gs before) (hb : Rows.uptoSmall H (ds ++ gs) = true) (hE : ErrW W) :
  Calls Tryz.prog 6 args W fun e W' => ∃ v, e = .returned v ∧ Rows.readerWritesSpec.post enc Tryz.prog Tryz.f6 false true false false W args v W' :=
 contract_of (es := [.form]) (n := 12) (tb := 4) rfl spec_fn (by kernel_rfl) (by kernel_rfl) (by kernel_rfl) (by kernel_rfl) (by kernel_rfl) (by kernel_rfl) (fun x hb _ => writes_call (f := x.1) (by simp only [bigA, bigE] at hb; omega)) H enc W base args ds gs before hval hW hb hE
theorem lifted (os : Os) (started : os.Started) (H : Type) (enc : TypeId × Value → H) (F : Stop.Interp) :
  ReturnsInHanded {} Tryz.checked os 6 .any ((Rows.OpenSpec.upto Rows.readerWritesSpec).preRow enc Tryz.prog Tryz.f6 Rows.readerWritesUptoRow.domain false Rows.readerWritesUptoRow.laid) (((Rows.OpenSpec.upto Rows.readerWritesSpec).at F).post enc Tryz.prog Tryz.f6 false true false false) := by
 obtain ⟨places, hx⟩ := reads os enc
 refine returnsInHanded_of_row (C := Tryz.checked) (s := Rows.OpenSpec.upto Rows.readerWritesSpec) own started (by kernel_rfl) Tryz.func6
  (witness_row_at (enc := enc) (C := Tryz.checked) false (laidWorld os) #[(.agg #[.int .i64 0, .int .i64 0, .string ⟨#[]⟩, .slice none 0 0])] rfl (by kernel_rfl) (by kernel_rfl) (by kernel_rfl)
   (OpenSpec.preRow_of_cond 8 hx (by kernel_rfl) (fun k hk => by cases hk; kernel_rfl) (by kernel_rfl) (laid_met os))) ?_
 intro W base args ds gs before hval hW g1 g2 g3 hL g4 g5
 exact contract H enc W base args ds gs before hval hW (g2 _ rfl) (errW_of hL (show ("strconv.ErrRange", Rows.laid_strconv_ErrRange) ∈ Rows.readerWritesUptoRow.laid from by simp [Rows.readerWritesUptoRow]) (fun q hq => by rcases List.mem_singleton.1 hq with rfl; exact (show ("internal/strconv.uint64pow10", Rows.laid_internal_strconv_uint64pow10) ∈ Rows.readerWritesUptoRow.laid from by simp [Rows.readerWritesUptoRow])))
theorem band {a b : Bool} (h : a = true) (h' : b = true) : (a && b) = true := by rw [h, h']; rfl
theorem fact1 : (Rows.readerWritesUptoRow.inPlace == Tryz.pinned.checked.prog.inPlace 6) = true := by kernel_rfl
theorem fact2 : (Rows.readerWritesUptoRow.unfollowed == Tryz.pinned.checked.prog.unfollowed 6) = true := by kernel_rfl
theorem fact3 : (Rows.readerWritesUptoRow.recurses == Tryz.pinned.checked.prog.recurses 6) = true := by kernel_rfl
theorem fact4 : (Rows.readerWritesUptoRow.named == Tryz.pinned.checked.prog.varsNamed 6) = true := by kernel_rfl
theorem fact5 : Tryz.pinned.checked.prog.mayEnter = true := by kernel_rfl
theorem fact6 : Tryz.pinned.checked.prog.stopsHeard = true := by kernel_rfl
theorem closed : joinedFacts Tryz.pinned.checked.prog 6 Tryz.f6 (Rows.OpenSpec.upto Rows.readerWritesSpec).bare Rows.readerWritesUptoRow = true := by
 unfold joinedFacts
 repeat' with_reducible refine band ?_ ?_
 all_goals first | with_reducible exact fact1 | with_reducible exact fact2 | with_reducible exact fact3 | with_reducible exact fact4 | with_reducible exact fact5 | with_reducible exact fact6 | kernel_rfl
theorem said : Rows.ReaderWritesUptoSaid :=
 OpenClaim.holds_of_cond 6 Tryz.f6 rfl rfl rfl rfl rfl rfl rfl ⟨rfl, rfl, rfl, rfl, rfl⟩ rfl rfl rfl rfl rfl (by as_aux_lemma => kernel_rfl) Tryz.func6 closed
  (of_decide_eq_true (by kernel_rfl)) (by unfold Func.isWrapper; first | (rw [if_pos (by decide +kernel)]; kernel_rfl) | (rw [if_neg (by decide +kernel)]; exact ⟨rfl, rfl⟩))
  (fun os started H enc _ F => by rw [OpenClaim.pre_eq_preRow]; exact lifted os started H enc F)
theorem plain (f : FuncId) (fn : Func) (hf : Tryz.pinned.checked.prog.funcNamed "plinth/plinthlaw01.ReaderWrites" = some f) (hfn : Tryz.pinned.checked.prog.funcs[f]? = some fn) :
  true = Tryz.pinned.checked.prog.looks [] ∧ ∀ (j : Nat) t, fn.params[j]? = some t → Tryz.pinned.checked.prog.wantsStandIn t = false := by
 obtain rfl : f = 6 := Option.some.inj ((show Tryz.prog.funcNamed "plinth/plinthlaw01.ReaderWrites" = some 6 by kernel_rfl).symm.trans hf) |>.symm
 obtain rfl : fn = Tryz.f6 := (Option.some.inj (Tryz.func6.symm.trans hfn)).symm
 refine ⟨by kernel_rfl, fun j t ht => ?_⟩
 rw [Tryz.params6] at ht
 have hm := Array.mem_of_getElem? ht
 simp only [List.mem_toArray, List.mem_cons, List.mem_nil_iff, or_false] at hm
 have w0 : Tryz.prog.wantsStandIn 26 = false := by kernel_rfl
 rw [hm]; exact w0
theorem proved : Rows.ReaderWritesUptoCardSaid :=
 Claim7.holds_tied_plain_at .later _ _ _ _ _ said (fun _ h => by cases h) (by kernel_rfl) (fun _ h => by cases h) readerWritesUpto_row_tie rfl ⟨rfl, rfl⟩ (by kernel_rfl) rfl plain (by kernel_rfl)
#print axioms proved
end Go.Proofs.YtdagildojaagiaaGreatDoor.readerWrites
