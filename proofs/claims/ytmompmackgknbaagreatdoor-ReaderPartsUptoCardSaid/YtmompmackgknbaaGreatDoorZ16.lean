/-
  ReaderParts: the card. For every argument of bulk at most 1048576, as the card says.
-/
import Derived.Test.YtmompmackgknbaaGreatDoorZ15
import Derived.Test.YtmompmackgknbaaGreatDoorZ14
import Derived.Laws.RangeAny
import Derived.Laws.RangeString
import Derived.Test.YtmompmackgknbaaGreatDoorZ12
/-
  THE REFERENCE'S VALID FORMS, sizes and depths, in plain terms: the same as the reader's.
-/
set_option linter.unusedVariables false
set_option linter.unusedSimpArgs false
set_option maxRecDepth 100000
namespace Go.Ab
open Go Go.RowKit Go.Proofs
theorem Up.get {R : Type} {o : Option R} {v : R} (h : Up False o v) : o = some v := h.elim id fun h => h.2.elim
theorem byteAt_in {t : List UInt8} {i : Nat} (h : i < t.length) : byteAt t (i : Int) = (t[i].toNat : Int) := by
  unfold byteAt; simp [h]
/-! ### Texts -/
theorem visible_val (c : UInt8) : G_visible (c.toNat : Int) = some (!outsideS c) := by
  have : ∀ n : Fin 256, G_visible ((UInt8.ofFin n).toNat : Int) = some (!outsideS (UInt8.ofFin n)) := by decide +kernel
  exact this c.toFin
theorem digitB_eq (c : UInt8) : digitB c = (decide (48 ≤ c.toNat) && decide (c.toNat ≤ 57)) := by
  have : ∀ n : Fin 256, digitB (UInt8.ofFin n) = (decide (48 ≤ (UInt8.ofFin n).toNat) && decide ((UInt8.ofFin n).toNat ≤ 57)) := by decide +kernel
  exact this c.toFin
theorem digits_loop (s : List UInt8) (hs : s.length ≤ 4611686018427387000) :
    Option.bind (α := Step (((List UInt8) × Unit) × (Unit)) (Bool))
 (loopM (L := ((List UInt8) × Int × Unit) × (Unit)) (R := Step (((List UInt8) × Unit) × (Unit)) (Bool)) (fun d3 => (
 let v0_4 := d3.1.1
 let v3_5 := d3.1.2.1
 cond (decide (v3_5 < (v0_4.length : Int))) (cond (ixOK v3_5 v0_4.length) (cond ((ixOK v3_5 v0_4.length) || !(!(decide (byteAt v0_4 v3_5 < 48)))) (cond (cond (decide (byteAt v0_4 v3_5 < 48)) true (decide (byteAt v0_4 v3_5 > 57))) (some (Step.done (Step.done false))) (some (Step.next ((v0_4, IntKind.wrap .i64 (v3_5 + 1), ()), ())))) none) none) (some (Step.done (Step.next ((v0_4, ()), ())))))) ((s, 0, ()), ())) (fun qd6 => match qd6 with
 | .next d6 => (
 let v0_7 := d6.1.1
 some (!decide (v0_7 = [])))
 | .done r => some r) = some (!decide (s = []) && s.all digitB) := by
  refine Up.get ?_
  have h := loop_ix (N := False) (F := fun qd6 : Step (((List UInt8) × Unit) × (Unit)) (Bool) => match qd6 with
 | .next d6 => (
 let v0_7 := d6.1.1
 some (!decide (v0_7 = [])))
 | .done r => some r) (b := (fun d3 : ((List UInt8) × Int × Unit) × (Unit) => (
 let v0_4 := d3.1.1
 let v3_5 := d3.1.2.1
 cond (decide (v3_5 < (v0_4.length : Int))) (cond (ixOK v3_5 v0_4.length) (cond ((ixOK v3_5 v0_4.length) || !(!(decide (byteAt v0_4 v3_5 < 48)))) (cond (cond (decide (byteAt v0_4 v3_5 < 48)) true (decide (byteAt v0_4 v3_5 > 57))) (some (Step.done (Step.done false))) (some (Step.next ((v0_4, IntKind.wrap .i64 (v3_5 + 1), ()), ())))) none) none) (some (Step.done (Step.next ((v0_4, ()), ()))))))) (fun i => ((s, (i : Int), ()), ())) (fun i => (!decide (s = []) && (s.drop i).all digitB)) s.length (fun i hi => ?_) ?_
  · simpa using h
  · have e1 : decide ((i : Int) < (s.length : Int)) = true := by simp [hi]
    have e2 : ixOK (i : Int) s.length = true := ixOK_iff.2 (by omega)
    have e3 : decide (s = []) = false := by
      apply decide_eq_false
      intro h
      simp [h] at hi
    rw [List.drop_eq_getElem_cons hi]
    simp only [e1, e2, e3, cond_true, Bool.true_or, byteAt_in hi, wrapN (show i < 4611686018427387904 by omega), List.all_cons, Bool.not_false, Bool.true_and]
    by_cases c : digitB s[i] = true
    · have c' := c
      rw [digitB_eq] at c'
      simp only [Bool.and_eq_true, decide_eq_true_eq] at c'
      refine .inl ⟨?_, by rw [c]; simp⟩
      have a1 : ¬ ((s[i].toNat : Int) < 48) := by omega
      have a2 : ¬ ((s[i].toNat : Int) > 57) := by omega
      simp [a1, a2]
    · refine .inr (.inl ⟨.done false, ?_, .of (by simp [c])⟩)
      rw [digitB_eq] at c
      by_cases a1 : ((s[i].toNat : Int) < 48)
      · simp [a1]
      · have a2 : ((s[i].toNat : Int) > 57) := by
          simp only [Bool.and_eq_true, decide_eq_true_eq] at c
          omega
        simp [a1, a2]
  · refine ⟨.next ((s, ()), ()), by simp, .of (by simp)⟩
theorem digits_val {t : List UInt8} (ht : t.length ≤ 4611686018427387000) : G_digits t = some (numericS t) := by
  unfold G_digits
  rcases t with _ | ⟨c, _ | ⟨d, r⟩⟩
  · simp only [List.length_nil]
    show Option.bind (some ((([] : List UInt8), ()), ())) _ = _
    simp only [Option.bind_some]
    refine (digits_loop [] (by simp)).trans ?_
    rfl
  · have e2 : decide (([c].length : Int) > 1) = false := by simp
    simp only [e2, Bool.not_false, Bool.or_true, cond_true, cond_false, Option.bind_some]
    refine (digits_loop [c] (by simp)).trans ?_
    congr 1
    unfold numericS cutMinus
    by_cases h : c = 45
    · subst h; simp [digitB]; decide
    · simp [h]
  · have e0 : ixOK 0 (c :: d :: r).length = true := ixOK_iff.2 (by simp only [List.length_cons]; omega)
    have e2 : decide (((c :: d :: r).length : Int) > 1) = true := by simp only [List.length_cons]; apply decide_eq_true; omega
    have e3 : byteAt (c :: d :: r) 0 = (c.toNat : Int) := byteAt_in (t := c :: d :: r) (i := 0) (by simp)
    simp only [List.length_cons] at ht
    simp only [e0, e2, e3, cond_true, Bool.true_or]
    by_cases h : c = 45
    · subst h
      have e4 : slOK 1 (((45 : UInt8) :: d :: r).length : Int) ((45 : UInt8) :: d :: r).length = true := by simp [slOK]; omega
      have e5 : decide (((45 : UInt8).toNat : Int) = 45) = true := by decide
      have e6 : List.take ((((45 : UInt8) :: d :: r).length : Int).toNat - (1 : Int).toNat) (List.drop (1 : Int).toNat ((45 : UInt8) :: d :: r)) = d :: r := by
        simp only [List.length_cons, Int.toNat_one, Int.toNat_natCast, List.drop_succ_cons, List.drop_zero]
        apply List.take_of_length_le
        simp
      simp only [e4, e5, e6, cond_true, Option.bind_some]
      refine (digits_loop (d :: r) (by simp only [List.length_cons]; omega)).trans ?_
      simp [numericS, cutMinus]
    · have e5 : decide ((c.toNat : Int) = 45) = false := by
        apply decide_eq_false
        intro hc
        exact h (UInt8.toNat_inj.1 (by simpa using (by omega : c.toNat = 45)))
      simp only [e5, cond_false, Option.bind_some]
      refine (digits_loop (c :: d :: r) (by simp only [List.length_cons]; omega)).trans ?_
      congr 1
      simp [numericS, cutMinus, h]
theorem isWord_val {t : List UInt8} (ht : t.length ≤ 4611686018427387000) : G_isWord t = some (wordS t && t.all fun c => !outsideS c) := by
  refine Up.get ?_
  unfold G_isWord
  refine loop_ix (fun i => ((t, (i : Int), ()), ())) (fun i => wordS t && (t.drop i).all fun c => !outsideS c) t.length (fun i hi => ?_) ?_
  · have e1 : decide ((i : Int) < (t.length : Int)) = true := by simp [hi]
    have e2 : ixOK (i : Int) t.length = true := ixOK_iff.2 (by omega)
    rw [List.drop_eq_getElem_cons hi]
    simp only [e1, e2, cond_true, byteAt_in hi, visible_val, Option.bind_some, wrapN (show i < 4611686018427387904 by omega), List.all_cons]
    cases ho : outsideS t[i] with
    | false => exact .inl ⟨by simp, by simp⟩
    | true => exact .inr (.inl ⟨.done false, by simp, .of (by simp)⟩)
  · refine ⟨.next ((t, ()), ()), by simp, .of ?_⟩
    simp only [List.drop_length, List.all_nil, Bool.and_true]
    unfold wordS
    by_cases h1 : t = []
    · subst h1; simp
    · have a1 : decide ((t.length : Int) ≥ 1) = true := by
        have := List.length_pos_iff.2 h1
        apply decide_eq_true; omega
      by_cases h2 : t.length ≤ 30
      · have a2 : decide ((t.length : Int) ≤ 30) = true := by apply decide_eq_true; omega
        simp [a1, a2, h1, h2, digits_val ht]
      · have a2 : decide ((t.length : Int) ≤ 30) = false := by apply decide_eq_false; omega
        simp [a1, a2, h1, h2]
def badB (c : UInt8) : Bool := badR c.toNat
theorem idxR_bad (s : List UInt8) : ∀ (f pos : Nat), s.length < pos + f → (0 ≤ idxR badR s f pos ↔ (s.drop pos).any badB = true)
  | 0, pos, h => by
    rw [List.drop_eq_nil_of_le (by omega)]
    simp [idxR]
  | f + 1, pos, h => by
    unfold idxR
    by_cases hp : pos < s.length
    · rw [if_pos hp, List.drop_eq_getElem_cons hp, List.any_cons]
      have hsz : pos < (⟨s.toArray⟩ : ByteArray).size := by show pos < s.toArray.size; simpa using hp
      have hel : ((⟨s.toArray⟩ : ByteArray)[pos]'hsz) = s[pos] := by simp [ByteArray.getElem_eq_getElem_data]
      by_cases h8 : s[pos].toNat < 128
      · have hd := decode_ascii ⟨s.toArray⟩ pos hsz (by rw [hel]; exact h8)
        rw [hd, hel]
        show (0 ≤ (if badR ((s[pos].toNat : Nat) : Int) = true then ((pos : Nat) : Int) else _) ↔ _)
        by_cases hb : badB s[pos] = true
        · have hb' := hb
          unfold badB at hb'
          rw [if_pos hb', hb]
          simp
        · have hb' := hb
          unfold badB at hb'
          rw [if_neg hb', idxR_bad s f (pos + 1) (by omega)]
          simp [hb]
      · have hd := decode_high ⟨s.toArray⟩ pos hsz (by rw [hel]; omega)
        have hb1 : badR (Utf8.decode ⟨s.toArray⟩ pos).1 = true := by
          have := hd.1
          unfold badR
          have a1 : ¬ (((Utf8.decode ⟨s.toArray⟩ pos).1 : Int) = 10) := by omega
          have a2 : (126 < ((Utf8.decode ⟨s.toArray⟩ pos).1 : Int)) := by omega
          simp only [a1, a2, decide_true, decide_false, Bool.not_false, Bool.or_true, Bool.and_true]
        have hb2 : badB s[pos] = true := by
          unfold badB badR
          have a1 : ¬ ((s[pos].toNat : Int) = 10) := by omega
          have a2 : (126 < (s[pos].toNat : Int)) := by omega
          simp only [a1, a2, decide_true, decide_false, Bool.not_false, Bool.or_true, Bool.and_true]
        rw [if_pos hb1, hb2]
        simp
    · rw [if_neg hp, List.drop_eq_nil_of_le (by omega)]
      simp
theorem badT_any (t : List UInt8) : badT t = t.any badB := by
  unfold badT
  have := idxR_bad t (t.length + 1) 0 (by omega)
  rw [List.drop_zero] at this
  cases h : t.any badB with
  | true => exact decide_eq_true (this.2 h)
  | false => exact decide_eq_false fun hc => by have := this.1 hc; rw [h] at this; cases this
theorem isText_val {t : List UInt8} (ht : t.length ≤ 4611686018427387000) : G_isText t = some (decide (t.length ≤ 2000) && !badT t) := by
  refine Up.get ?_
  rw [badT_any]
  unfold G_isText
  refine loop_ix (fun i => ((t, (i : Int), ()), ())) (fun i => decide (t.length ≤ 2000) && !(t.drop i).any badB) t.length (fun i hi => ?_) ?_
  · have e1 : decide ((i : Int) < (t.length : Int)) = true := by simp [hi]
    have e2 : ixOK (i : Int) t.length = true := ixOK_iff.2 (by omega)
    rw [List.drop_eq_getElem_cons hi]
    simp only [e1, e2, cond_true, Bool.true_or, byteAt_in hi, wrapN (show i < 4611686018427387904 by omega), List.any_cons]
    have hb : badB t[i] = (cond (!decide ((t[i].toNat : Int) = 10)) (cond (decide ((t[i].toNat : Int) < 32)) true (decide ((t[i].toNat : Int) > 126))) false) := by
      unfold badB badR
      by_cases a1 : (t[i].toNat : Int) = 10
      · simp only [a1, decide_true, Bool.not_true, cond_false, Bool.false_and]
      · by_cases a2 : (t[i].toNat : Int) < 32
        · simp only [a1, a2, decide_true, decide_false, Bool.not_false, cond_true, Bool.true_or, Bool.and_true]
        · simp only [a1, a2, decide_false, Bool.not_false, cond_true, cond_false, Bool.false_or, Bool.true_and, gt_iff_lt]
    rw [← hb]
    cases ho : badB t[i] with
    | false => exact .inl ⟨by simp, by simp⟩
    | true => exact .inr (.inl ⟨.done false, by simp, .of (by simp)⟩)
  · refine ⟨.next ((t, ()), ()), by simp, .of ?_⟩
    simp
    omega
/-! ### Fields -/
mutual
def fieldsF : Fm → Bool
  | .mk k n t l => leafS k n t l && fieldsL l
def fieldsL : List Fm → Bool
  | [] => true
  | f :: r => fieldsF f && fieldsL r
end
theorem fieldsF_eq (f : Fm) : fieldsF f = (leafS f.k f.n f.t f.l && fieldsL f.l) := by cases f; simp only [fieldsF]; rfl
theorem fields_up : ∀ k, ∀ f : Fm, f.big ≤ 4611686018427387000 → Up (k < f.big) (G_fields k f) (fieldsF f)
  | 0 => fun f hb => .inr ⟨by unfold G_fields; rfl, by have := big_pos f; omega⟩
  | k + 1 => fun f hb => by
    have hkb := big_kids f
    have hl := length_le_big f.l
    have htb : f.t.length < f.big := by cases f; simp only [Fm.big, Fm.t]; omega
    unfold G_fields
    rw [fieldsF_eq]
    generalize f.k = a
    generalize f.n = n
    generalize f.t = t at htb
    generalize f.l = l at hkb hl
    by_cases h0 : a = 0
    · subst h0
      simp only [leafS, decide_true, decide_false, Bool.not_true, Bool.not_false, cond_true, cond_false, if_true, Int.reduceEq]
      cases l with
      | cons g r =>
        have : decide ((((g :: r).length : Nat) : Int) > 0) = true := by simp only [List.length_cons]; apply decide_eq_true; omega
        simp only [this, cond_true]
        exact .of (by simp)
      | nil =>
        by_cases ht : t = []
        · subst ht
          exact .of (by simp [fieldsL])
        · exact .of (by simp [ht])
    · by_cases hn : n = 0
      · subst hn
        by_cases h3 : a = 3
        · subst h3
          simp only [leafS, decide_true, decide_false, Bool.not_true, Bool.not_false, cond_true, cond_false, if_true, Int.reduceEq, if_false]
          by_cases ht : t = []
          · subst ht
            simp only [decide_true, Bool.not_true, Bool.true_and, cond_false]
            refine Up.bind (v := Step.done (fieldsL l)) ?_ (.of rfl)
            refine loop_ix (fun i => (((3, 0, [], l, ()), (i : Int), ()), ())) (fun i => (Step.done (fieldsL (l.drop i)) : Step ((Unit) × (Unit)) (Bool))) l.length (fun i hi => ?_) ?_
            · have e1 : decide ((i : Int) < (l.length : Int)) = true := by simp [hi]
              have e2 : ixOK (i : Int) l.length = true := ixOK_iff.2 (by omega)
              have hm := big_mem (List.getElem_mem hi)
              rw [List.drop_eq_getElem_cons hi]
              simp only [e1, e2, cond_true, Int.toNat_natCast, getD_in hi, Fm.eta_eq, wrapN (show i < 4611686018427387904 by omega), fieldsL]
              rcases fields_up k l[i] (by omega) with h | ⟨h, hn⟩
              · rw [h]
                cases fieldsF l[i] with
                | true => exact .inl ⟨by simp, by simp⟩
                | false => exact .inr (.inl ⟨.done (.done false), by simp, .of (by simp)⟩)
              · rw [h]; exact .inr (.inr ⟨rfl, by omega⟩)
            · refine ⟨.next ((), ()), by simp, .of ?_⟩
              simp [fieldsL]
          · exact .of (by simp [ht])
        · cases l with
          | cons g r =>
            have : decide ((((g :: r).length : Nat) : Int) > 0) = true := by simp only [List.length_cons]; apply decide_eq_true; omega
            have hf : leafS a 0 t (g :: r) = false := by unfold leafS; simp [h0, h3]
            simp only [hf, h0, h3, this, decide_true, decide_false, Bool.not_true, Bool.not_false, cond_true, cond_false]
            exact .of (by simp)
          | nil =>
            by_cases h1 : a = 1
            · subst h1
              refine .of ?_
              simp [isWord_val (show t.length ≤ 4611686018427387000 by omega), leafS, fieldsL]
            · by_cases h2 : a = 2
              · subst h2
                refine .of ?_
                simp [isText_val (show t.length ≤ 4611686018427387000 by omega), leafS, fieldsL]
              · refine .of ?_
                have hf : leafS a 0 t [] = false := by unfold leafS; simp [h0, h1, h2, h3]
                simp only [hf, h0, h1, h2, h3, decide_true, decide_false, Bool.not_true, Bool.not_false, cond_true, cond_false, Option.bind_some, Bool.false_and]
                cases decide (t = []) <;> simp
      · have hf : leafS a n t l = false := by unfold leafS; simp [h0, hn]
        refine .of ?_
        simp [h0, hn, hf]
theorem fields_val {f : Fm} (hb : f.big ≤ 4611686018427387000) : L_fields f = some (fieldsF f) := limF_up (b := f.big) fun k => fields_up k f hb
theorem refSize_up : ∀ k, ∀ f : Fm, f.big ≤ 4611686018427387000 → Up (k < f.big) (G_refSize k f) (f.size : Int)
  | 0 => fun f hb => .inr ⟨by unfold G_refSize; rfl, by have := big_pos f; omega⟩
  | k + 1 => fun f hb => by
    obtain ⟨a, n, t, l⟩ := f
    have hs := size_le (.mk a n t l)
    have hkb := big_kids (.mk a n t l)
    have hln := length_le_big l
    simp only [Fm.l] at hkb
    unfold G_refSize
    simp only [Fm.k, Fm.n, Fm.t, Fm.l]
    by_cases h3 : a = 3
    · subst h3
      simp only [Fm.size, if_true] at hs ⊢
      refine loop_ix (fun i => (((3, n, t, l, ()), ((1 + Fm.sizeL (l.take i) : Nat) : Int), (i : Int), ()), ())) (fun i => ((1 + Fm.sizeL l : Nat) : Int)) l.length (fun i hi => ?_) ?_
      · have e1 : decide ((i : Int) < (l.length : Int)) = true := by simp [hi]
        have e2 : ixOK (i : Int) l.length = true := ixOK_iff.2 (by omega)
        have hm := big_mem (List.getElem_mem hi)
        have h2 := sizeL_take l hi
        have h3 := sizeL_take_le l (i + 1)
        simp only [decide_true, e1, e2, cond_true, Int.toNat_natCast, getD_in hi, Fm.eta_eq, wrapN (show i < 4611686018427387904 by omega)]
        rcases refSize_up k l[i] (by omega) with h | ⟨h, hn⟩
        · rw [h]
          refine .inl ⟨?_, trivial⟩
          simp only [Option.bind_some]
          rw [w64 (by omega) (by omega)]
          have : ((1 + Fm.sizeL (l.take i) : Nat) : Int) + (l[i].size : Int) = ((1 + Fm.sizeL (l.take (i + 1)) : Nat) : Int) := by omega
          rw [this]
        · rw [h]; exact .inr (.inr ⟨rfl, by omega⟩)
      · refine ⟨((((1 + Fm.sizeL (l.take l.length) : Nat) : Int), ()), ()), by simp, .of ?_⟩
        simp
    · rw [loopM_done (r := ((1, ()), ())) (by simp [h3])]
      exact .of (by simp [Fm.size, h3])
theorem refSize_val {f : Fm} (hb : f.big ≤ 4611686018427387000) : L_refSize f = some (f.size : Int) := limF_up (b := f.big) fun k => refSize_up k f hb
theorem refDepth_up : ∀ k, ∀ f : Fm, f.big ≤ 4611686018427387000 → Up (k < f.big) (G_refDepth k f) (f.depth : Int)
  | 0 => fun f hb => .inr ⟨by unfold G_refDepth; rfl, by have := big_pos f; omega⟩
  | k + 1 => fun f hb => by
    obtain ⟨a, n, t, l⟩ := f
    have hs := depth_le (.mk a n t l)
    have hkb := big_kids (.mk a n t l)
    have hln := length_le_big l
    simp only [Fm.l] at hkb
    unfold G_refDepth
    simp only [Fm.k, Fm.n, Fm.t, Fm.l]
    by_cases h3 : a = 3
    · subst h3
      simp only [Fm.depth, if_true] at hs ⊢
      refine loop_ix (fun i => (((3, n, t, l, ()), (Fm.depthL (l.take i) : Int), (i : Int), ()), ())) (fun i => ((1 + Fm.depthL l : Nat) : Int)) l.length (fun i hi => ?_) ?_
      · have e1 : decide ((i : Int) < (l.length : Int)) = true := by simp [hi]
        have e2 : ixOK (i : Int) l.length = true := ixOK_iff.2 (by omega)
        have hm := big_mem (List.getElem_mem hi)
        have h2 := depthL_take l hi
        simp only [decide_true, e1, e2, cond_true, Int.toNat_natCast, getD_in hi, Fm.eta_eq, wrapN (show i < 4611686018427387904 by omega)]
        rcases refDepth_up k l[i] (by omega) with h | ⟨h, hn⟩
        · rw [h]
          refine .inl ⟨?_, trivial⟩
          simp only [Option.bind_some]
          have : (if (l[i].depth : Int) > (Fm.depthL (l.take i) : Int) then (l[i].depth : Int) else (Fm.depthL (l.take i) : Int)) = (Fm.depthL (l.take (i + 1)) : Int) := by
            rw [h2]; split <;> omega
          rw [this]
        · rw [h]; exact .inr (.inr ⟨rfl, by omega⟩)
      · refine ⟨(((Fm.depthL (l.take l.length) : Int), ()), ()), by simp, .of ?_⟩
        simp only [List.take_length]
        rw [w64 (by omega) (by omega)]
        congr 1; omega
    · rw [loopM_done (r := ((0, ()), ())) (by simp [h3])]
      exact .of (by simp only [Option.bind_some, Fm.depth, h3, if_false]; rfl)
theorem refDepth_val {f : Fm} (hb : f.big ≤ 4611686018427387000) : L_refDepth f = some (f.depth : Int) := limF_up (b := f.big) fun k => refDepth_up k f hb
/-! ### Valid -/
theorem leafS_kids {k n : Int} {t : List UInt8} {l : List Fm} (h : leafS k n t l = true) : k = 3 ∨ l = [] := by
  unfold leafS at h
  by_cases h3 : k = 3
  · exact .inl h3
  · by_cases hl : l = []
    · exact .inr hl
    · exfalso
      revert h
      split
      · simp [hl]
      · split
        · simp [hl]
        · split
          · simp [hl]
          · simp [h3]
theorem validLS_iff : ∀ (l : List Fm), (∀ f ∈ l, ∀ p d : Int, 0 ≤ p → 0 ≤ d → (validS f p d).1 = (fieldsF f && (decide ((f.size : Int) ≤ p) && decide ((f.depth : Int) ≤ d))) ∧ ((validS f p d).1 = true → (validS f p d).2 = p - f.size)) →
    ∀ p d : Int, 0 ≤ p → 0 ≤ d → (validLS l p d).1 = (fieldsL l && (decide ((Fm.sizeL l : Int) ≤ p) && decide ((Fm.depthL l : Int) ≤ d))) ∧ ((validLS l p d).1 = true → (validLS l p d).2 = p - Fm.sizeL l)
  | [], _, p, d, hp, hd => by
    simp only [validLS, fieldsL, Fm.sizeL, Fm.depthL]
    refine ⟨?_, fun _ => by simp⟩
    simp [hp, hd]
  | f :: r, h, p, d, hp, hd => by
    obtain ⟨h1, h2⟩ := h f (by simp) p d hp hd
    simp only [validLS, fieldsL, Fm.sizeL, Fm.depthL]
    by_cases hv : (validS f p d).1 = true
    · rw [if_pos hv]
      have h2' := h2 hv
      rw [hv] at h1
      have h1' := h1.symm
      simp only [Bool.and_eq_true, decide_eq_true_eq] at h1'
      obtain ⟨a1, a2, a3⟩ := h1'
      obtain ⟨b1, b2⟩ := validLS_iff r (fun g hg => h g (by simp [hg])) (validS f p d).2 d (by omega) hd
      refine ⟨?_, fun ht => by have := b2 ht; omega⟩
      rw [b1, a1, h2']
      simp only [Bool.true_and]
      congr 2
      · apply decide_eq_decide.2; omega
      · apply decide_eq_decide.2; omega
    · rw [if_neg hv]
      have hv' : (validS f p d).1 = false := by simpa using hv
      rw [hv'] at h1
      refine ⟨?_, fun h => by cases h⟩
      simp only
      symm
      by_cases a1 : fieldsF f = true
      · by_cases a2 : (f.size : Int) ≤ p
        · have a3 : ¬ (f.depth : Int) ≤ d := fun a3 => by rw [a1, decide_eq_true a2, decide_eq_true a3] at h1; cases h1
          have : ¬ (((max f.depth (Fm.depthL r) : Nat) : Int) ≤ d) := by omega
          simp only [this, decide_false, Bool.and_false]
        · have : ¬ (((f.size + Fm.sizeL r : Nat) : Int) ≤ p) := by omega
          simp only [this, decide_false, Bool.false_and, Bool.and_false]
      · simp [a1]
theorem validS_iff : ∀ f : Fm, ∀ p d : Int, 0 ≤ p → 0 ≤ d → (validS f p d).1 = (fieldsF f && (decide ((f.size : Int) ≤ p) && decide ((f.depth : Int) ≤ d))) ∧ ((validS f p d).1 = true → (validS f p d).2 = p - f.size) := Fm.ind fun k n t l ih p d hp hd => by
  have eS : (Fm.mk k n t l).size = 1 + (if k = 3 then Fm.sizeL l else 0) := by simp only [Fm.size]
  have eD : (Fm.mk k n t l).depth = 1 + (if k = 3 then Fm.depthL l else 0) := by simp only [Fm.depth]
  generalize (Fm.mk k n t l).size = S at eS ⊢
  generalize (Fm.mk k n t l).depth = D at eD ⊢
  simp only [validS, fieldsF]
  by_cases h1 : p - 1 < 0
  · rw [if_pos (.inl h1)]
    refine ⟨?_, fun h => by cases h⟩
    have : ¬ ((S : Int) ≤ p) := by omega
    simp only [this, decide_false, Bool.false_and, Bool.and_false]
  · by_cases h2 : d = 0
    · rw [if_pos (.inr (.inl h2))]
      refine ⟨?_, fun h => by cases h⟩
      have : ¬ ((D : Int) ≤ d) := by omega
      simp only [this, decide_false, Bool.and_false]
    · by_cases h3 : leafS k n t l = false
      · rw [if_pos (.inr (.inr h3)), h3]
        exact ⟨by simp, fun h => by cases h⟩
      · rw [if_neg (fun h => h.elim h1 fun h => h.elim h2 h3)]
        have h3' : leafS k n t l = true := by simpa using h3
        obtain ⟨b1, b2⟩ := validLS_iff l ih (p - 1) (d - 1) (by omega) (by omega)
        have hs : (if k = 3 then Fm.sizeL l else 0) = Fm.sizeL l ∧ (if k = 3 then Fm.depthL l else 0) = Fm.depthL l := by
          rcases leafS_kids h3' with rfl | rfl
          · simp
          · simp [Fm.sizeL, Fm.depthL]
        rw [hs.1] at eS
        rw [hs.2] at eD
        rw [h3', b1]
        refine ⟨?_, fun ht => by rw [← b1] at ht; have := b2 ht; omega⟩
        simp only [Bool.true_and]
        congr 2
        · apply decide_eq_decide.2; omega
        · apply decide_eq_decide.2; omega
theorem refValid_val {f : Fm} (hb : f.big ≤ 4611686018427387000) : G_refValid f = some (validF f) := by
  unfold G_refValid G_small1 validF
  rw [(validS_iff f 20000 100 (by omega) (by omega)).1]
  simp only [Fm.eta_eq, fields_val hb, refSize_val hb, refDepth_val hb, Option.bind_some]
  cases fieldsF f with
  | false => rfl
  | true =>
    by_cases h : (f.size : Int) ≤ 20000
    · simp [h]
    · simp [h]
end Go.Ab

/-
  ReaderParts: what it computes.
-/
set_option linter.unusedVariables false
set_option maxRecDepth 100000
namespace Go.Ab
open Go Go.RowKit Go.Proofs
noncomputable def G_lawParts (x0 : Fm) (x1 : List Int) (x2 : Fm) : Option (Bool) := (
 Option.bind (α := Fm × Int × Unit) (G_rat (Fm.eta x0) x1) fun r1 => (
 Option.bind (α := Fm × Int × Unit) (G_refAt (Fm.eta x0) x1) fun r2 => (
 Option.bind (α := Fm × Int × Unit) (G_rPut (Fm.eta x0) x1 (Fm.eta x2)) fun r3 => (
 Option.bind (α := Fm × Int × Unit) (G_refPut (Fm.eta x0) x1 (Fm.eta x2)) fun r4 => (
 Option.bind (α := Bool) (cond (!(cond (!decide (r1.2.1 = r2.2.1)) true (!decide (r3.2.1 = r4.2.1)))) (G_refEqual1 (Fm.eta r1.1) (Fm.eta r2.1)) (some false)) fun r5 => (
 Option.bind (α := Bool) (cond (!(cond (cond (!decide (r1.2.1 = r2.2.1)) true (!decide (r3.2.1 = r4.2.1))) true (!r5))) (G_refEqual1 (Fm.eta r3.1) (Fm.eta r4.1)) (some false)) fun r6 => (
 cond (cond (cond (cond (!decide (r1.2.1 = r2.2.1)) true (!decide (r3.2.1 = r4.2.1))) true (!r5)) true (!r6)) (some false) (Option.bind (α := Step ((Unit) × (Unit)) (Bool))
 (cond (decide (r3.2.1 = 0)) (Option.bind (α := Fm × Int × Unit) (G_rat (Fm.eta r3.1) x1) fun r7 => (
 Option.bind (α := Bool) (cond (!(!decide (r7.2.1 = 0))) (G_refEqual1 (Fm.eta r7.1) (Fm.eta x2)) (some false)) fun r8 => (
 cond (cond (!decide (r7.2.1 = 0)) true (!r8)) (some (Step.done false)) (some (Step.next ((), ())))))) (some (Step.next ((), ())))) fun qd9 => match qd9 with
 | .next d9 => (
 Option.bind (α := Bool) (G_sane01) fun r10 => (
 some r10))
 | .done r => some r))))))))
def A_lawParts : An := .seq (.leaf) (.seq (.leaf) (.seq (.leaf) (.seq (.leaf) (.seq (.leaf) (.seq (.leaf) (.join true { env := [], objs := [] } (.leaf) (.leaf)))))))
def H_lawParts : Nat → RH := fun _ => {}
noncomputable def S_lawParts : Sig := .n [(.d .form), (.d (.slice (.int .i64))), (.d .form)] (.d .bool) (fun x => G_lawParts x.1 x.2.1 x.2.2.1)
theorem S_lawParts_ok : SigOK CX 5 S_lawParts := sigN_of (l := [(29, S_rat), (30, S_refAt), (31, S_rPut), (32, S_refPut), (27, S_refEqual1), (28, S_sane01)]) ⟨S_rat_ok, S_refAt_ok, S_rPut_ok, S_refPut_ok, S_refEqual1_ok, S_sane01_ok, trivial⟩ (hint := H_lawParts) (an := A_lawParts) (fun x => by kernel_rfl)
end Go.Ab

/-
  The reference's PARTS OF A FORM, and a form with another part, in plain terms; ReaderParts's call.
-/
set_option linter.unusedVariables false
set_option linter.unusedSimpArgs false
set_option maxRecDepth 100000
namespace Go.Ab
open Go Go.RowKit Go.Proofs
theorem own_loop {f : Fm} {N : Prop} (G : Fm → Option Fm) (hb : f.big ≤ 2000000000000) (hG : ∀ g ∈ f.l, Up N (G g) g) {A : Type} (F : (Unit × Unit × Unit × Unit) × ((Int × Int × (List UInt8) × (List Fm) × Unit) × (Int × Int × (List UInt8) × Unit × Unit) × (List Fm) × Unit) → Option A) (v : A)
    (hF : F (((), (), (), ()), ((f.k, f.n, f.t, f.l, ()), (0, 0, [], (), ()), f.l, ())) = some v) :
    Up N (Option.bind (α := (Unit × Unit × Unit × Unit) × ((Int × Int × (List UInt8) × (List Fm) × Unit) × (Int × Int × (List UInt8) × Unit × Unit) × (List Fm) × Unit))
 (loopM (L := (Unit × Unit × Unit × Int × Unit) × ((Int × Int × (List UInt8) × (List Fm) × Unit) × (Int × Int × (List UInt8) × Unit × Unit) × (List Fm) × Unit)) (R := (Unit × Unit × Unit × Unit) × ((Int × Int × (List UInt8) × (List Fm) × Unit) × (Int × Int × (List UInt8) × Unit × Unit) × (List Fm) × Unit)) (fun d1 => (
 let c2 := d1.2.1.1
 let c3 := d1.2.1.2.1
 let c4 := d1.2.1.2.2.1
 let c5 := d1.2.1.2.2.2.1
 let l6 := d1.2.2.2.1
 let v4_7 := d1.1.2.2.2.1
 cond (decide (v4_7 < (c5.length : Int))) (cond (ixOK v4_7 c5.length) (Option.bind (α := Fm) (G (Fm.eta (c5.getD v4_7.toNat (Fm.mk 0 0 [] [])))) fun r8 => (
 cond (decide ((l6.length + ([(Fm.eta r8)]).length) * 56 ≤ 140737488355328)) (some (Step.next (((), (), (), IntKind.wrap .i64 (v4_7 + 1), ()), ((c2, c3, c4, c5, ()), (d1.2.2.1.1, d1.2.2.1.2.1, d1.2.2.1.2.2.1, (), ()), l6 ++ ([(Fm.eta r8)]), ())))) none)) none) (some (Step.done (((), (), (), ()), ((c2, c3, c4, c5, ()), (d1.2.2.1.1, d1.2.2.1.2.1, d1.2.2.1.2.2.1, (), ()), l6, ())))))) (((), (), (), 0, ()), ((f.k, f.n, f.t, f.l, ()), (0, 0, [], (), ()), ([] : List Fm), ()))) F) v := by
  have hl := length_le_big f.l
  have hkb := big_kids f
  refine loop_ix (fun i => (((), (), (), (i : Int), ()), ((f.k, f.n, f.t, f.l, ()), (0, 0, [], (), ()), f.l.take i, ()))) (fun i => v) f.l.length (fun i hi => ?_) ?_
  · have e1 : decide ((i : Int) < (f.l.length : Int)) = true := by simp [hi]
    have e2 : ixOK (i : Int) f.l.length = true := ixOK_iff.2 (by omega)
    simp only [e1, e2, cond_true, Int.toNat_natCast, getD_in hi, Fm.eta_eq, wrapN (show i < 4611686018427387904 by omega)]
    rcases hG f.l[i] (List.getElem_mem hi) with h | ⟨h, hn⟩
    · rw [h]
      have e3 : decide (((f.l.take i).length + [f.l[i]].length) * 56 ≤ 140737488355328) = true := by
        apply decide_eq_true
        simp only [List.length_take, List.length_cons, List.length_nil]
        omega
      simp only [Option.bind_some, Fm.eta_eq, e3, cond_true]
      refine .inl ⟨?_, trivial⟩
      rw [List.take_succ_eq_append_getElem hi]
    · rw [h]; exact .inr (.inr ⟨rfl, hn⟩)
  · refine ⟨(((), (), (), ()), ((f.k, f.n, f.t, f.l, ()), (0, 0, [], (), ()), f.l, ())), by simp, .of hF⟩
theorem own_up : ∀ k, ∀ f : Fm, f.big ≤ 2000000000000 → Up (k < f.big) (G_own k f) f
  | 0 => fun f hb => .inr ⟨by unfold G_own; rfl, by have := big_pos f; omega⟩
  | k + 1 => fun f hb => by
    have hkb := big_kids f
    unfold G_own
    refine own_loop (G_own k) hb (fun g hg => ?_) _ f (by show some (Fm.eta f) = _; rw [Fm.eta_eq])
    have := big_mem hg
    exact (own_up k g (by omega)).mono fun h => by omega
theorem own_val {f : Fm} (hb : f.big ≤ 2000000000000) : L_own f = some f := limF_up (b := f.big) fun k => own_up k f hb
theorem ownO_val {f : Fm} (hb : f.big ≤ 2000000000000) : G_ownO f = some ((f.k, f.n, f.t, (), ()), (f.l, ())) := by
  have hkb := big_kids f
  refine Up.get ?_
  unfold G_ownO
  refine own_loop (N := False) L_own hb (fun g hg => ?_) _ _ rfl
  have := big_mem hg
  exact .of (own_val (by omega))
theorem stepI_big (f : Fm) (path : List Int) : ∀ i, (stepI f path i).big ≤ f.big
  | 0 => Nat.le_refl _
  | i + 1 => by
    have ih := stepI_big f path i
    simp only [stepI]
    generalize stepI f path i = g at ih
    by_cases h : (path.getD i 0).toNat < (kidsF g).length
    · rw [getD_in h]
      have hm := List.getElem_mem h
      unfold kidsF at hm h
      have h1 : (if g.k = 3 then g.l else [])[(path.getD i 0).toNat].big < g.big := kids_mem hm
      exact Nat.le_trans (Nat.le_of_lt h1) ih
    · rw [List.getD_eq_getElem?_getD, List.getElem?_eq_none (by omega)]
      exact big_pos f
theorem refAt_val {f : Fm} {path : List Int} (hb : f.big ≤ 2000000000000) (hp : path.length < 4611686018427387904) : G_refAt f path = some (atR path f) := by
  refine Up.get ?_
  unfold G_refAt
  refine loop_ix (fun i => ((path, (), (), (i : Int), ()), (((stepI f path i).k, (stepI f path i).n, (stepI f path i).t, (stepI f path i).l, ()), (0, 0, [], (), ()), ()))) (fun i => atR (path.drop i) (stepI f path i)) path.length (fun i hi => ?_) ?_
  · have e1 : decide ((i : Int) < (path.length : Int)) = true := by simp [hi]
    have e2 : ixOK (i : Int) path.length = true := ixOK_iff.2 (by omega)
    have e3 : stepI f path (i + 1) = (kidsF (stepI f path i)).getD path[i].toNat dF := by simp only [stepI, getD_in hi]
    have e4 : atR (path.drop i) (stepI f path i) = if path[i] < 0 ∨ path[i] ≥ ((kidsF (stepI f path i)).length : Int) then (dF, 3, ()) else atR (path.drop (i + 1)) ((kidsF (stepI f path i)).getD path[i].toNat dF) := by
      unfold atR
      rw [List.drop_eq_getElem_cons hi]
      simp only [atP]
      by_cases c : path[i] < 0 ∨ path[i] ≥ ((kidsF (stepI f path i)).length : Int)
      · rw [if_pos c, if_pos c]
      · rw [if_neg c, if_neg c]
    simp only [e1, e2, e3, e4, cond_true, Bool.true_or, Int.toNat_natCast, getD_in hi, wrapN (show i < 4611686018427387904 by omega)]
    generalize path[i] = j
    generalize stepI f path i = g
    by_cases c0 : g.k = 3
    · have hk : kidsF g = g.l := by unfold kidsF; rw [if_pos c0]
      rw [hk]
      by_cases c1 : j < 0
      · refine .inr (.inl ⟨_, by simp [c0, c1]; rfl, .of ?_⟩)
        simp [c1, dF]
      · by_cases c2 : j ≥ (g.l.length : Int)
        · refine .inr (.inl ⟨_, by simp [c0, c1, c2]; rfl, .of ?_⟩)
          simp [c2, dF]
        · have e6 : ixOK j g.l.length = true := ixOK_iff.2 (by omega)
          refine .inl ⟨?_, ?_⟩
          · simp only [c0, c1, c2, e6, decide_true, decide_false, Bool.not_true, cond_false, cond_true]
            rfl
          · simp [c1, c2]
    · have hk : kidsF g = [] := by unfold kidsF; rw [if_neg c0]
      rw [hk]
      refine .inr (.inl ⟨_, by simp [c0]; rfl, .of ?_⟩)
      have : j < 0 ∨ j ≥ (([] : List Fm).length : Int) := by simp only [List.length_nil]; omega
      rw [if_pos this]
      rfl
  · refine ⟨_, by simp only [Int.lt_irrefl, decide_false, cond_false]; rfl, .of ?_⟩
    simp only [List.drop_length]
    show Option.bind (L_own (Fm.eta (stepI f path path.length))) _ = _
    rw [Fm.eta_eq, own_val (Nat.le_trans (stepI_big f path _) hb)]
    show some (Fm.eta _, 0, ()) = _
    rw [Fm.eta_eq]
    rfl
theorem refput_up : ∀ (path : List Int) (k : Nat) (f g h : Fm), atP path f = some h → path.length ≤ 4611686018427387000 → f.big ≤ 2000000000000 → g.big ≤ 2000000000000 → Up (k < path.length + 1) (G_refput k f path g) (putS path f g)
  | [], k, f, g, h, _, hk, _, hg => by
    cases k with
    | zero => exact .inr ⟨by unfold G_refput; rfl, by omega⟩
    | succ k =>
      refine .of ?_
      unfold G_refput
      simp only [List.length_nil, Fm.eta_eq, ownO_val hg]
      show some (Fm.eta g) = _
      rw [Fm.eta_eq]; rfl
  | i :: p, k, f, g, h, ha, hk, hb, hg => by
    cases k with
    | zero => exact .inr ⟨by unfold G_refput; rfl, by omega⟩
    | succ k =>
      obtain ⟨h1, h2, h3, h4⟩ := atP_cons ha
      simp only [List.length_cons] at hk
      have ei : i.toNat < f.l.length := by omega
      have hl := length_le_big f.l
      have hkb := big_kids f
      have ih := refput_up p k (f.l.getD i.toNat dF) g h h4 (by omega) (by have := kid_big ei; omega) hg
      have e0 : decide (((i :: p).length : Int) = 0) = false := by simp only [List.length_cons]; apply decide_eq_false; omega
      have e1 : ixOK 0 (i :: p).length = true := ixOK_iff.2 (by simp only [List.length_cons]; omega)
      have e2 : ixOK i f.l.length = true := ixOK_iff.2 (by omega)
      have e3 : decide (i.toNat < f.l.length) = true := by simp [ei]
      have e4 : slOK 1 ((i :: p).length : Int) (i :: p).length = true := by simp [slOK]; omega
      have e6 : List.take (((i :: p).length : Int).toNat - (1 : Int).toNat) (List.drop (1 : Int).toNat (i :: p)) = p := by
        simp only [List.length_cons, Int.toNat_one, Int.toNat_natCast, List.drop_succ_cons, List.drop_zero]
        apply List.take_of_length_le
        omega
      have e7 : (i :: p).getD (0 : Int).toNat (0 : Int) = i := rfl
      unfold G_refput
      simp only [e0, e1, ownO_val hb, e6, e7, e2, e3, e4, cond_false, cond_true, Option.bind_some, Fm.eta_eq]
      rcases ih with ih | ⟨ih, hn⟩
      · have ih' : G_refput k (f.l.getD i.toNat (Fm.mk 0 0 [] [])) p g = some (putS p (f.l.getD i.toNat dF) g) := ih
        exact .of (by simp only [ih', Option.bind_some, putS])
      · have ih' : G_refput k (f.l.getD i.toNat (Fm.mk 0 0 [] [])) p g = none := ih
        exact .inr ⟨by simp only [ih', Option.bind_none], by simp only [List.length_cons]; omega⟩
theorem lrefput_val {path : List Int} {f g h : Fm} (ha : atP path f = some h) (hp : path.length ≤ 4611686018427387000) (hb : f.big ≤ 2000000000000) (hg : g.big ≤ 2000000000000) : L_refput f path g = some (putS path f g) :=
  limF_up (b := path.length + 1) fun k => refput_up path k f g h ha hp hb hg
def putR (path : List Int) (f g : Fm) : Fm × Int × Unit := match atP path f with
  | some _ => if validF (putS path f g) = true then (putS path f g, 0, ()) else (dF, 2, ())
  | none => (dF, 3, ())
theorem refPut_val {path : List Int} {f g : Fm} (hb : f.big ≤ 2000000000000) (hg : g.big ≤ 2000000000000) (hp : path.length ≤ 4611686018427387000) (hv : ∀ h, atP path f = some h → (putS path f g).big ≤ 4611686018427387000) : G_refPut f path g = some (putR path f g) := by
  unfold G_refPut
  simp only [Fm.eta_eq, refAt_val hb (show path.length < 4611686018427387904 by omega), Option.bind_some]
  unfold atR putR
  cases ha : atP path f with
  | none => simp [dF]
  | some h =>
    simp only [lrefput_val ha hp hb hg, Option.bind_some, refValid_val (hv h ha), decide_true, Bool.not_true, cond_false]
    cases validF (putS path f g) <;> simp [dF]
theorem bigL_set : ∀ (l : List Fm) (i : Nat) (h : i < l.length) (x : Fm), Fm.bigL (l.set i x) + l[i].big = Fm.bigL l + x.big
  | f :: r, 0, _, x => by simp only [List.set_cons_zero, Fm.bigL, List.getElem_cons_zero]; omega
  | f :: r, i + 1, h, x => by
    have := bigL_set r i (by simpa using h) x
    simp only [List.set_cons_succ, Fm.bigL, List.getElem_cons_succ]; omega
theorem big_eq (f : Fm) : f.big = 1 + f.t.length + Fm.bigL f.l := by cases f; simp only [Fm.big, Fm.t, Fm.l]
theorem putS_big : ∀ (path : List Int) (f g h : Fm), atP path f = some h → (putS path f g).big ≤ f.big + g.big
  | [], f, g, h, _ => by simp only [putS]; omega
  | i :: p, f, g, h, ha => by
    obtain ⟨h1, h2, h3, h4⟩ := atP_cons ha
    have ei : i.toNat < f.l.length := by omega
    have ih := putS_big p _ g h h4
    have hs := bigL_set f.l i.toNat ei (putS p (f.l.getD i.toNat dF) g)
    rw [getD_in ei] at ih hs
    have q1 : (putS (i :: p) f g).t = f.t := rfl
    have q2 : (putS (i :: p) f g).l = f.l.set i.toNat (putS p (f.l.getD i.toNat dF) g) := rfl
    rw [big_eq f, big_eq (putS (i :: p) f g), q1, q2, getD_in ei]
    omega
theorem atP_put : ∀ (path : List Int) (f g h : Fm), atP path f = some h → atP path (putS path f g) = some g
  | [], f, g, h, _ => rfl
  | i :: p, f, g, h, ha => by
    obtain ⟨h1, h2, h3, h4⟩ := atP_cons ha
    have ei : i.toNat < f.l.length := by omega
    have ih := atP_put p _ g h h4
    have hk : kidsF (putS (i :: p) f g) = f.l.set i.toNat (putS p (f.l.getD i.toNat dF) g) := by
      have q3 : (putS (i :: p) f g).k = f.k := rfl
      unfold kidsF
      rw [if_pos (q3.trans h1)]
      rfl
    simp only [atP]
    rw [hk, if_neg (by simp only [List.length_set]; omega), getD_in (by simpa using ei), List.getElem_set_self]
    exact ih
theorem refEqual1_val {f g : Fm} (hb : f.big ≤ 4611686018427387000) : G_refEqual1 f g = some (decide (cmpF f g = 0)) := by
  unfold G_refEqual1
  simp only [Fm.eta_eq, refCompare_val hb, Option.bind_some]
theorem rPut_val' {path : List Int} {f g : Fm} (hb : f.big ≤ 2000000000000) (hg : g.big ≤ 2000000000000) (hp : path.length ≤ 4611686018427387000) (hv : ∀ h, atP path f = some h → (putS path f g).big ≤ 4611686018427387000) : G_rPut f path g = some (putR path f g) := by
  unfold G_rPut
  simp only [Fm.eta_eq, rat_val (show path.length < 4611686018427387904 by omega), Option.bind_some]
  unfold atR putR
  cases ha : atP path f with
  | none => simp [dF]
  | some h =>
    simp only [lput_val ha hp hb, Option.bind_some, rvalid_val (hv h ha), decide_true, Bool.not_true, cond_false]
    cases validF (putS path f g) <;> simp [dF]
theorem lawParts_val {f g : Fm} {path : List Int} (hb : f.big ≤ 1048576) (hg : g.big ≤ 1048576) (hp : path.length ≤ 1048576) : G_lawParts f path g = some true := by
  have hv : ∀ h, atP path f = some h → (putS path f g).big ≤ 4611686018427387000 := fun h ha => by have := putS_big path f g h ha; omega
  have hab : (atR path f).1.big ≤ 4611686018427387000 := by
    unfold atR
    cases ha : atP path f with
    | none => show dF.big ≤ _; decide
    | some h => have := (at_le path f h ha).2.2; show h.big ≤ _; omega
  have hpb : (putR path f g).1.big ≤ 4611686018427387000 := by
    unfold putR
    cases ha : atP path f with
    | none => show dF.big ≤ _; decide
    | some h =>
      simp only
      split
      · exact hv h ha
      · show dF.big ≤ _; decide
  unfold G_lawParts
  simp only [Fm.eta_eq, rat_val (show path.length < 4611686018427387904 by omega), refAt_val (show f.big ≤ 2000000000000 by omega) (show path.length < 4611686018427387904 by omega), rPut_val' (show f.big ≤ 2000000000000 by omega) (show g.big ≤ 2000000000000 by omega) (show path.length ≤ 4611686018427387000 by omega) hv, refPut_val (show f.big ≤ 2000000000000 by omega) (show g.big ≤ 2000000000000 by omega) (show path.length ≤ 4611686018427387000 by omega) hv, refEqual1_val hab, refEqual1_val hpb, refEqual1_val (show g.big ≤ 4611686018427387000 by omega), sane01_val, Option.bind_some, decide_true, Bool.not_true, Bool.not_false, cond_true, cond_false, cmpF_self]
  by_cases hz : (putR path f g).2.1 = 0
  · have : atP path (putR path f g).1 = some g := by
      unfold putR at hz ⊢
      cases ha : atP path f with
      | none => rw [ha] at hz; cases hz
      | some h =>
        rw [ha] at hz
        simp only at hz ⊢
        split at hz
        · rename_i hvv
          rw [if_pos hvv]
          exact atP_put path f g h ha
        · cases hz
    have hat : atR path (putR path f g).1 = (g, 0, ()) := by unfold atR; rw [this]
    simp [hz, hat, refEqual1_val (show g.big ≤ 4611686018427387000 by omega), cmpF_self]
  · simp [hz]
theorem parts_call {f g : Fm} {path : List Int} (hb : f.big ≤ 1048576) (hg : g.big ≤ 1048576) (hp : path.length ≤ 1048576) : PCall CX 5 [.agg (E.cells .form f), .tvec (.int .i64) path, .agg (E.cells .form g)] (· = .ret (.bool true)) :=
  S_lawParts_ok (f, path, g, ()) true (lawParts_val hb hg hp)
end Go.Ab

set_option linter.unusedVariables false
set_option linter.unusedSimpArgs false
set_option maxRecDepth 100000
namespace Go.Proofs.YtmompmackgknbaaGreatDoor.readerParts
open Go Go.ChangeShapes Go.WideShapes Go.ChangeAt Go.RowKit Go.Ab

theorem own : ownKnob Tryz.prog.godebug = none := by kernel_rfl
def flat {H : Type} : Nat → DataW H → List Value
  | 0, _ => []
  | n + 1, d => match d with
    | .lit (.int k x) => [.int k x]
    | .agg l => l.flatMap (flat n)
    | _ => []
noncomputable def lay (W : World) (name : String) (d : DataW Unit) : World :=
  match Tryz.prog.globalNamed name with
  | some g => match d with
    | .iface _ (.ptr (.agg [.lit (.string bs)])) => { W with heap := (W.heap.push (.cells #[.string ⟨bs.toArray⟩] 312 (0, 0))).modify g fun
      | .cells _ t fz => .cells #[.iface 310 (.pointer (some ⟨W.heap.size, 0, none⟩))] t fz
      | o => o }
    | d => { W with heap := W.heap.modify g fun
      | .cells _ t fz => .cells (flat 4 d).toArray t fz
      | o => o }
  | none => W
noncomputable def laidWorld (os : Os) : World :=
  lay (lay (lay (lay (lay (lay (lay (World.holding Tryz.prog os ⟨#[], #[], []⟩) "math/bits.deBruijn32tab" Rows.laid_math_bits_deBruijn32tab) "math/bits.deBruijn64tab" Rows.laid_math_bits_deBruijn64tab) "internal/strconv.uint64pow10" Rows.laid_internal_strconv_uint64pow10) "unicode/utf8.acceptRanges" Rows.laid_unicode_utf8_acceptRanges) "strconv.ErrRange" Rows.laid_strconv_ErrRange) "strconv.ErrSyntax" Rows.laid_strconv_ErrSyntax) "unicode/utf8.first" Rows.laid_unicode_utf8_first
theorem laid_met (os : Os) : laidMet Tryz.prog Rows.readerPartsUptoRow.laid ((laidWorld os).forCall (fun _ _ => 0) ⟨#[], #[(.agg #[.int .i64 0, .int .i64 0, .string ⟨#[]⟩, .slice none 0 0]), (.slice none 0 0), (.agg #[.int .i64 0, .int .i64 0, .string ⟨#[]⟩, .slice none 0 0])], []⟩).memory :=
  laidMet_of_run' 8 (by kernel_rfl) (by kernel_rfl)
theorem reads (os : Os) {H : Type} (enc : TypeId × Value → H) : ∃ places, DataW.whole enc Tryz.prog ((laidWorld os).forCall (fun _ _ => 0) ⟨#[], #[(.agg #[.int .i64 0, .int .i64 0, .string ⟨#[]⟩, .slice none 0 0]), (.slice none 0 0), (.agg #[.int .i64 0, .int .i64 0, .string ⟨#[]⟩, .slice none 0 0])], []⟩).memory Tryz.f5.params.toList Rows.readerPartsSpec.vars false (#[(.agg #[.int .i64 0, .int .i64 0, .string ⟨#[]⟩, .slice none 0 0]), (.slice none 0 0), (.agg #[.int .i64 0, .int .i64 0, .string ⟨#[]⟩, .slice none 0 0])] : Array Value).toList 8 = some ([(.agg [.lit (.int .i64 0), .lit (.int .i64 0), .lit (.string []), .nil]), .nil, (.agg [.lit (.int .i64 0), .lit (.int .i64 0), .lit (.string []), .nil])], [], places) :=
  ⟨[], by kernel_rfl⟩
theorem spec_fn (H : Type) (ds : List (DataW H)) (h : ds.length = Tryz.f5.params.toList.length) : Rows.readerPartsSpec.fn H ds = { results := [.lit (.bool true)], args := ds } := by
  rw [Tryz.params5] at h
  rcases ds with _ | ⟨d0, _ | ⟨d1, _ | ⟨d2, _ | ⟨e, ds⟩⟩⟩⟩
  all_goals first | (simp at h; done) | rfl
theorem contract (H : Type) (enc : TypeId × Value → H) (W : World) (base : Nat) (args : Array Value) (ds gs : List (DataW H)) (before : List MemPlace)
    (hval : ∀ (j : Nat) t v, Tryz.f5.params[j]? = some t → args[j]? = some v → Value.okWide Tryz.prog W .any base t v)
    (hW : DataW.Whole enc Tryz.prog Tryz.f5.params.toList Rows.readerPartsSpec.vars false W args.toList ds gs before) (hb : Rows.uptoSmall H (ds ++ gs) = true) :
    Calls Tryz.prog 5 args W fun e W' => ∃ v, e = .returned v ∧ Rows.readerPartsSpec.post enc Tryz.prog Tryz.f5 false true false false W args v W' :=
  contract_of (es := [.form, (.slice (.int .i64)), .form]) (n := 12) (tb := 4) rfl spec_fn (by kernel_rfl) (by kernel_rfl) (by kernel_rfl) (by kernel_rfl) (by kernel_rfl) (by kernel_rfl) (fun x hb _ => by
      obtain ⟨(f : Fm), (p : List Int), (g : Fm), u⟩ := x
      have h1 : p.length ≤ (p.map fun n => max 1 (bigE (.int .i64) n)).sum := len_sum _ p
      have h2 : f.big + ((p.map fun n => max 1 (bigE (.int .i64) n)).sum + (g.big + 0)) ≤ 1048576 := hb
      exact parts_call (f := f) (path := p) (g := g) (by omega) (by omega) (by omega)) H enc W base args ds gs before hval hW hb

theorem lifted (os : Os) (started : os.Started) (H : Type) (enc : TypeId × Value → H) (F : Stop.Interp) :
    ReturnsInHanded {} Tryz.checked os 5 .any ((Rows.OpenSpec.upto Rows.readerPartsSpec).preRow enc Tryz.prog Tryz.f5 Rows.readerPartsUptoRow.domain false Rows.readerPartsUptoRow.laid) (((Rows.OpenSpec.upto Rows.readerPartsSpec).at F).post enc Tryz.prog Tryz.f5 false true false false) := by
  obtain ⟨places, hx⟩ := reads os enc
  refine returnsInHanded_of_row (C := Tryz.checked) (s := Rows.OpenSpec.upto Rows.readerPartsSpec) own started (by kernel_rfl) Tryz.func5
    (witness_row_at (enc := enc) (C := Tryz.checked) false (laidWorld os) #[(.agg #[.int .i64 0, .int .i64 0, .string ⟨#[]⟩, .slice none 0 0]), (.slice none 0 0), (.agg #[.int .i64 0, .int .i64 0, .string ⟨#[]⟩, .slice none 0 0])] rfl (by kernel_rfl) (by kernel_rfl) (by kernel_rfl)
      (OpenSpec.preRow_of_cond 8 hx (by kernel_rfl) (fun k hk => by cases hk; kernel_rfl) (by kernel_rfl) (laid_met os))) ?_
  intro W base args ds gs before hval hW g1 g2 g3 hL g4 g5
  exact contract H enc W base args ds gs before hval hW (g2 _ rfl)

theorem band {a b : Bool} (h : a = true) (h' : b = true) : (a && b) = true := by rw [h, h']; rfl
theorem fact1 : (Rows.readerPartsUptoRow.inPlace == Tryz.pinned.checked.prog.inPlace 5) = true := by kernel_rfl
theorem fact2 : (Rows.readerPartsUptoRow.unfollowed == Tryz.pinned.checked.prog.unfollowed 5) = true := by kernel_rfl
theorem fact3 : (Rows.readerPartsUptoRow.recurses == Tryz.pinned.checked.prog.recurses 5) = true := by kernel_rfl
theorem fact4 : (Rows.readerPartsUptoRow.named == Tryz.pinned.checked.prog.varsNamed 5) = true := by kernel_rfl
theorem fact5 : Tryz.pinned.checked.prog.mayEnter = true := by kernel_rfl
theorem fact6 : Tryz.pinned.checked.prog.stopsHeard = true := by kernel_rfl
theorem closed : joinedFacts Tryz.pinned.checked.prog 5 Tryz.f5 (Rows.OpenSpec.upto Rows.readerPartsSpec).bare Rows.readerPartsUptoRow = true := by
  unfold joinedFacts
  repeat' with_reducible refine band ?_ ?_
  all_goals first | with_reducible exact fact1 | with_reducible exact fact2 | with_reducible exact fact3 | with_reducible exact fact4 | with_reducible exact fact5 | with_reducible exact fact6 | kernel_rfl
theorem said : Rows.ReaderPartsUptoSaid :=
  OpenClaim.holds_of_cond 5 Tryz.f5 rfl rfl rfl rfl rfl rfl rfl ⟨rfl, rfl, rfl, rfl, rfl⟩ rfl rfl rfl rfl rfl (by as_aux_lemma => kernel_rfl) Tryz.func5 closed
    (of_decide_eq_true (by kernel_rfl)) (by unfold Func.isWrapper; first | (rw [if_pos (by decide +kernel)]; kernel_rfl) | (rw [if_neg (by decide +kernel)]; exact ⟨rfl, rfl⟩))
    (fun os started H enc _ F => by rw [OpenClaim.pre_eq_preRow]; exact lifted os started H enc F)
theorem plain (f : FuncId) (fn : Func) (hf : Tryz.pinned.checked.prog.funcNamed "plinth/plinthlaw01.ReaderParts" = some f) (hfn : Tryz.pinned.checked.prog.funcs[f]? = some fn) :
    true = Tryz.pinned.checked.prog.looks [] ∧ ∀ (j : Nat) t, fn.params[j]? = some t → Tryz.pinned.checked.prog.wantsStandIn t = false := by
  obtain rfl : f = 5 := Option.some.inj ((show Tryz.prog.funcNamed "plinth/plinthlaw01.ReaderParts" = some 5 by kernel_rfl).symm.trans hf) |>.symm
  obtain rfl : fn = Tryz.f5 := (Option.some.inj (Tryz.func5.symm.trans hfn)).symm
  refine ⟨by kernel_rfl, fun j t ht => ?_⟩
  rw [Tryz.params5] at ht
  have hm := Array.mem_of_getElem? ht
  simp only [List.mem_toArray, List.mem_cons, List.mem_nil_iff, or_false] at hm
  have w0 : Tryz.prog.wantsStandIn 26 = false := by kernel_rfl
  have w1 : Tryz.prog.wantsStandIn 23 = false := by kernel_rfl
  rcases hm with h | h | h <;> rw [h] <;> first | exact w0 | exact w1
theorem proved : Rows.ReaderPartsUptoCardSaid :=
  Claim7.holds_tied_plain_at .later _ _ _ _ _ said (fun _ h => by cases h) (by kernel_rfl) (fun _ h => by cases h) readerPartsUpto_row_tie rfl ⟨rfl, rfl⟩ (by kernel_rfl) rfl plain (by kernel_rfl)
#print axioms proved
end Go.Proofs.YtmompmackgknbaaGreatDoor.readerParts
