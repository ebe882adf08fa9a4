/-
  THE REFERENCE's sum of a term.
-/
import Derived.Test.YtmompmackgknbaaDoorF18
set_option linter.unusedVariables false
set_option linter.unusedSimpArgs false
set_option maxRecDepth 100000
namespace Go.Ab
open Go Go.RowKit Go.Proofs

/-- A sum, if there is one; else any. -/
def isR (x : Option Sm) (s : Sm) : Prop := ∀ r, x = some r → s = r
theorem isR_ex (x : Option Sm) : ∃ s, isR x s := by
  cases x with
  | none => exact ⟨nilS, fun r h => by cases h⟩
  | some r => exact ⟨r, fun q h => by cases h; rfl⟩
theorem CallP.ofR {C : Cx} {own tot : Bool} {g : FuncId} {args : List AV} {σ : Sto} {nx : Nat} {K KP : AV → Sto → Nat → Prop} {x : Option Sm} (h : PCall C g args (fun o => ∃ s : Sm, o = .ret (.tup [s.av, .bool x.isSome]) ∧ isR x s)) (hf : RFL args) (hk : ∀ s : Sm, isR x s → K (.tup [s.av, .bool x.isSome]) σ nx) : CallP C own tot g args σ nx K KP := by
  refine CallP.rel h hf ?_ ?_ (.inr ?_)
  · rintro v ⟨s, hs, hr⟩; cases hs; exact hk s hr
  · rintro v ⟨s, hs, hr⟩; cases hs
  · obtain ⟨s, hs⟩ := isR_ex x
    exact ⟨_, s, rfl, hs⟩
theorem isF_iff {k n : Int} {t : List UInt8} {nl : Bool} {l : List Fm} {h : List UInt8} {c : Nat} (hh : h ≠ []) : isF (.mk k n t nl l) h (c : Int) = true ↔ (Fm.head (.mk k n t nl l) = h ∧ l.length = c + 1) := by
  constructor
  · intro hi
    simp only [isF, Bool.and_eq_true, Bool.or_eq_true, decide_eq_true_eq] at hi
    refine ⟨hi.2.1, ?_⟩
    have h3 : ((c : Int) < 0) ∨ ((l.length : Int) = c + 1) := hi.2.2
    omega
  · rintro ⟨h1, h2⟩
    have hk : k = 3 := by
      by_cases hk : k = 3
      · exact hk
      · simp [Fm.head, Fm.kids, Fm.k, hk] at h1; exact absurd h1 hh
    have h3 : ((Fm.mk k n t nl l).l.length : Int) = (c : Int) + 1 := by simp only [Fm.l]; omega
    simp only [isF, Bool.and_eq_true, Bool.or_eq_true, decide_eq_true_eq]
    exact ⟨hk, h1, .inr h3⟩
@[go_sem] theorem loadC_smR (s : Sm) : loadC Tryd.prog 39 s.cells = some s.av := by
  have h := smcells_length s
  simp only [loadC, aggT_39, szT_39, h, Nat.le_refl, if_true, Sm.av]
  rw [List.take_of_length_le (by omega)]
@[go_sem] theorem smcells_mk (k : Int) (nl : Bool) (l : List Pt) : Sm.cells ⟨k, nl, l⟩ = [.int .i64 k, termsA nl (l.map Pt.row)] := rfl
theorem len_two {α : Type} {l : List α} (h : l.length = 2) : ∃ a b, l = [a, b] := by
  match l, h with
  | [a, b], _ => exact ⟨a, b, rfl⟩
theorem len_three {α : Type} {l : List α} (h : l.length = 3) : ∃ a b c, l = [a, b, c] := by
  match l, h with
  | [a, b, c], _ => exact ⟨a, b, c, rfl⟩
theorem refOf_call : ∀ f : Fm, validF f = true → f.big ≤ 1000000000 → PCall CX 41 [f.av] (fun o => ∃ s : Sm, o = .ret (.tup [s.av, .bool (ofS f).isSome]) ∧ isR (ofS f) s) := Fm.ind fun k n t nl l ih hv hb => by
  have hparts := validF_part hv
  have hbig : ∀ g ∈ l, g.big ≤ 1000000000 := fun g hg => by have := big_mem hg; simp only [Fm.big] at hb; omega
  have hneg := isF_iff (k := k) (n := n) (t := t) (nl := nl) (l := l) (h := negB) (c := 1) (by decide)
  have hplus := isF_iff (k := k) (n := n) (t := t) (nl := nl) (l := l) (h := plusB) (c := 2) (by decide)
  have hless := isF_iff (k := k) (n := n) (t := t) (nl := nl) (l := l) (h := lessB) (c := 2) (by decide)
  have hstar := isF_iff (k := k) (n := n) (t := t) (nl := nl) (l := l) (h := starB) (c := 2) (by decide)
  refine pcall_mk 1 128 [.cell 2 39, .tmp 3] Tryd.func41 rfl (by decide) rfl rfl rfl ?_
  simp only [go_sem]
  refine aw_sreg {} rfl (by simp only [allocObjs, go_sem]; rfl) fun K KP hK hP => ?_
  simp only [go_sem, ↓reduceIte, reduceCtorEq, List.tail_cons, List.map_cons, List.map_nil, List.getD_cons_zero, List.getD_cons_succ]
  apply hK; clear hK hP
  refine aw_seq ?_
  refine aw_sreg {} rfl rfl fun K KP hK hP => ?_
  simp only [go_sem, ↓reduceIte, reduceCtorEq, List.tail_cons, List.map_cons, List.map_nil, List.getD_cons_zero, List.getD_cons_succ]
  apply hK; clear hK hP
  refine aw_if (k = 0) (by simp only [go_sem, ↓reduceIte, reduceCtorEq, List.tail_cons, List.map_cons, List.map_nil, List.getD_cons_zero, List.getD_cons_succ]) (fun h1 => ?_) (fun h1 => ?_)
  ·
    refine aw_sreg {} rfl rfl fun K KP hK hP => ?_
    simp only [go_sem, ↓reduceIte, reduceCtorEq, List.tail_cons, List.map_cons, List.map_nil, List.getD_cons_zero, List.getD_cons_succ]
    apply hK; clear hK hP
    refine aw_ret ?_
    refine athen_ret.2 ?_
    simp only [go_sem, ↓reduceIte, reduceCtorEq, List.tail_cons, List.map_cons, List.map_nil, List.getD_cons_zero, List.getD_cons_succ, athen_ret] <;> (
      have h : ofS (.mk k n t nl l) = some ⟨n, true, []⟩ := by simp [ofS, ofC, Fm.k, Fm.n, h1]
      rw [h]
      exact ⟨⟨n, true, []⟩, rfl, fun r hr => by cases hr; rfl⟩)
  ·
    refine aw_skip ?_
    refine athen_normal.2 ?_
    refine aw_sreg {} rfl rfl fun K KP hK hP => ?_
    simp only [go_sem, ↓reduceIte, reduceCtorEq, List.tail_cons, List.map_cons, List.map_nil, List.getD_cons_zero, List.getD_cons_succ]
    refine CallP.ret (refHead_call (.mk k n t nl l)).av (by simp only [go_sem]) ?_
    try simp only [go_sem, ↓reduceIte, reduceCtorEq, List.tail_cons, List.map_cons, List.map_nil, List.getD_cons_zero, List.getD_cons_succ]
    apply hK; clear hK hP
    refine aw_seq ?_
    refine aw_block ?_
    refine aw_sregB {} 20 27 19 (.bool (decide (Fm.head (.mk k n t nl l) = negB ∧ l.length = 2))) rfl rfl rfl (fun K KP hK hP => ?_) (fun junk4 => ?_)
    ·
      simp only [go_sem, ↓reduceIte, reduceCtorEq, List.tail_cons, List.map_cons, List.map_nil, List.getD_cons_zero, List.getD_cons_succ]
      repeat' (first | (refine hK _ (by first | rfl | (simp only [go_sem, ↓reduceIte, reduceCtorEq, List.tail_cons, List.map_cons, List.map_nil, List.getD_cons_zero, List.getD_cons_succ]; done) | (simp only [go_sem, ↓reduceIte, reduceCtorEq, List.tail_cons, List.map_cons, List.map_nil, List.getD_cons_zero, List.getD_cons_succ, *]; done)) rfl ?_) | ((refine gsel_cases (fun h => ?_) (fun h => ?_) <;> (try simp only [Bool.not_eq_true', Bool.not_eq_false', Bool.not_not, decide_eq_true_eq, decide_eq_false_iff_not, ite_eq_left_iff, ite_eq_right_iff] at h)) <;> simp only [go_sem, ↓reduceIte, reduceCtorEq, List.tail_cons, List.map_cons, List.map_nil, List.getD_cons_zero, List.getD_cons_succ, *]) | (simp only [go_sem, ↓reduceIte, reduceCtorEq, List.tail_cons, List.map_cons, List.map_nil, List.getD_cons_zero, List.getD_cons_succ]))
      all_goals (
          try simp only [go_sem, ↓reduceIte, reduceCtorEq, List.tail_cons, List.map_cons, List.map_nil, List.getD_cons_zero, List.getD_cons_succ]
          all_goals first | (simp_all [List.length_pos_iff]; done) | (simp_all; omega))
    ·
      refine aw_if (Fm.head (.mk k n t nl l) = negB ∧ l.length = 2) (by simp only [go_sem, ↓reduceIte, reduceCtorEq, List.tail_cons, List.map_cons, List.map_nil, List.getD_cons_zero, List.getD_cons_succ]) (fun h4 => ?_) (fun h4 => ?_)
      ·
        obtain ⟨hh, hl2⟩ := h4
        obtain ⟨x0, x1, rfl⟩ := len_two hl2
        have hi := hneg.2 ⟨hh, rfl⟩
        have ih1 := ih x1 (by simp) (hparts x1 (by simp)) (hbig x1 (by simp))
        have hof : ofS (.mk k n t nl [x0, x1]) = (ofS x1).bind fun a => plusS nilS a (-1) := ofS_negF h1 (fun h => by simp at hplus; rw [hplus] at h; cases h) (fun h => by simp at hless; rw [hless] at h; cases h) hi
        refine aw_sreg {} rfl (by simp only [allocObjs, go_sem]; rfl) fun K KP hK hP => ?_
        simp only [go_sem, ↓reduceIte, reduceCtorEq, List.tail_cons, List.map_cons, List.map_nil, List.getD_cons_zero, List.getD_cons_succ]
        refine CallP.ofR ih1 (by simp only [go_sem]) fun s1 hs1 => ?_
        try simp only [go_sem, ↓reduceIte, reduceCtorEq, List.tail_cons, List.map_cons, List.map_nil, List.getD_cons_zero, List.getD_cons_succ]
        apply hK; clear hK hP
        refine aw_seq ?_
        refine aw_sreg {} rfl rfl fun K KP hK hP => ?_
        simp only [go_sem, ↓reduceIte, reduceCtorEq, List.tail_cons, List.map_cons, List.map_nil, List.getD_cons_zero, List.getD_cons_succ]
        apply hK; clear hK hP
        refine aw_if (ofS x1 = none) (by simp only [go_sem, ↓reduceIte, Nat.reduceEqDiff]; cases ofS x1 <;> simp) (fun h6 => ?_) (fun h6 => ?_)
        ·
          refine aw_sreg {} rfl rfl fun K KP hK hP => ?_
          simp only [go_sem, ↓reduceIte, reduceCtorEq, List.tail_cons, List.map_cons, List.map_nil, List.getD_cons_zero, List.getD_cons_succ]
          apply hK; clear hK hP
          refine aw_ret ?_
          refine athen_ret.2 ?_
          refine ablock_ret.2 ?_
          refine athen_ret.2 ?_
          simp only [go_sem, ↓reduceIte, reduceCtorEq, List.tail_cons, List.map_cons, List.map_nil, List.getD_cons_zero, List.getD_cons_succ, athen_ret] <;> (
            rw [hof, h6]; exact ⟨nilS, rfl, fun r h => by cases h⟩)
        ·
          obtain ⟨a, ha⟩ := Option.ne_none_iff_exists'.1 h6
          have hsa := hs1 a ha
          subst hsa
          have hsum := refSum_call nilS s1 (-1) nilS_fit (fit_of (hparts x1 (by simp)) (hbig x1 (by simp)) ha) (by decide) (by decide)
          refine aw_skip ?_
          refine athen_normal.2 ?_
          refine aw_sreg {} rfl rfl fun K KP hK hP => ?_
          simp only [go_sem, ↓reduceIte, reduceCtorEq, List.tail_cons, List.map_cons, List.map_nil, List.getD_cons_zero, List.getD_cons_succ]
          refine CallP.ofR (x := plusS nilS s1 (-1)) hsum (by simp only [go_sem]) fun s2 hs2 => ?_
          try simp only [go_sem, ↓reduceIte, reduceCtorEq, List.tail_cons, List.map_cons, List.map_nil, List.getD_cons_zero, List.getD_cons_succ]
          apply hK; clear hK hP
          refine aw_ret ?_
          refine ablock_ret.2 ?_
          refine athen_ret.2 ?_
          simp only [go_sem, ↓reduceIte, reduceCtorEq, List.tail_cons, List.map_cons, List.map_nil, List.getD_cons_zero, List.getD_cons_succ, athen_ret] <;> (
            rw [hof, ha]; exact ⟨s2, rfl, hs2⟩)
      ·
        refine aw_sregB {} 45 60 44 (.bool (decide ((Fm.head (.mk k n t nl l) = plusB ∨ Fm.head (.mk k n t nl l) = lessB ∨ Fm.head (.mk k n t nl l) = starB) ∧ l.length = 3))) rfl rfl rfl (fun K KP hK hP => ?_) (fun junk9 => ?_)
        ·
          simp only [go_sem, ↓reduceIte, reduceCtorEq, List.tail_cons, List.map_cons, List.map_nil, List.getD_cons_zero, List.getD_cons_succ]
          repeat' (first | (refine hK _ (by first | rfl | (simp only [go_sem, ↓reduceIte, reduceCtorEq, List.tail_cons, List.map_cons, List.map_nil, List.getD_cons_zero, List.getD_cons_succ]; done) | (simp only [go_sem, ↓reduceIte, reduceCtorEq, List.tail_cons, List.map_cons, List.map_nil, List.getD_cons_zero, List.getD_cons_succ, *]; done)) rfl ?_) | ((refine gsel_cases (fun h => ?_) (fun h => ?_) <;> (try simp only [Bool.not_eq_true', Bool.not_eq_false', Bool.not_not, decide_eq_true_eq, decide_eq_false_iff_not, ite_eq_left_iff, ite_eq_right_iff] at h)) <;> simp only [go_sem, ↓reduceIte, reduceCtorEq, List.tail_cons, List.map_cons, List.map_nil, List.getD_cons_zero, List.getD_cons_succ, *]) | (simp only [go_sem, ↓reduceIte, reduceCtorEq, List.tail_cons, List.map_cons, List.map_nil, List.getD_cons_zero, List.getD_cons_succ]))
          all_goals (
              try simp only [go_sem, ↓reduceIte, reduceCtorEq, List.tail_cons, List.map_cons, List.map_nil, List.getD_cons_zero, List.getD_cons_succ]
              all_goals first | (simp_all [List.length_pos_iff]; done) | (simp_all; omega))
        ·
          refine aw_if ((Fm.head (.mk k n t nl l) = plusB ∨ Fm.head (.mk k n t nl l) = lessB ∨ Fm.head (.mk k n t nl l) = starB) ∧ l.length = 3) (by simp only [go_sem, ↓reduceIte, reduceCtorEq, List.tail_cons, List.map_cons, List.map_nil, List.getD_cons_zero, List.getD_cons_succ]) (fun h9 => ?_) (fun h9 => ?_)
          ·
            obtain ⟨hh, hl3⟩ := h9
            obtain ⟨x0, x1, x2, rfl⟩ := len_three hl3
            have ih1 := ih x1 (by simp) (hparts x1 (by simp)) (hbig x1 (by simp))
            have ih2 := ih x2 (by simp) (hparts x2 (by simp)) (hbig x2 (by simp))
            have hn : ¬ isF (.mk k n t nl [x0, x1, x2]) negB 1 = true := fun h => by simp at hneg; rw [hneg] at h; cases h
            have hpl : isF (.mk k n t nl [x0, x1, x2]) plusB 2 = true ↔ Fm.head (.mk k n t nl [x0, x1, x2]) = plusB := hplus.trans ⟨fun h => h.1, fun h => ⟨h, rfl⟩⟩
            have hle : isF (.mk k n t nl [x0, x1, x2]) lessB 2 = true ↔ Fm.head (.mk k n t nl [x0, x1, x2]) = lessB := hless.trans ⟨fun h => h.1, fun h => ⟨h, rfl⟩⟩
            have hst : isF (.mk k n t nl [x0, x1, x2]) starB 2 = true ↔ Fm.head (.mk k n t nl [x0, x1, x2]) = starB := hstar.trans ⟨fun h => h.1, fun h => ⟨h, rfl⟩⟩
            have hofp : Fm.head (.mk k n t nl [x0, x1, x2]) = plusB → ofS (.mk k n t nl [x0, x1, x2]) = (ofS x1).bind fun a => (ofS x2).bind fun b => plusS a b 1 := fun e => ofS_plusF h1 (hpl.2 e)
            have hofl : Fm.head (.mk k n t nl [x0, x1, x2]) = lessB → ofS (.mk k n t nl [x0, x1, x2]) = (ofS x1).bind fun a => (ofS x2).bind fun b => plusS a b (-1) := fun e => ofS_lessF h1 (fun h => by have := hpl.1 h; rw [e] at this; exact absurd this (by decide)) (hle.2 e)
            have hofs : Fm.head (.mk k n t nl [x0, x1, x2]) = starB → ofS (.mk k n t nl [x0, x1, x2]) = (ofS x1).bind fun a => (ofS x2).bind fun b => if a.l = [] then plusS nilS b a.k else if b.l = [] then plusS nilS a b.k else some (atomS (.mk k n t nl [x0, x1, x2])) := fun e => ofS_starF h1 (fun h => by have := hpl.1 h; rw [e] at this; exact absurd this (by decide)) (fun h => by have := hle.1 h; rw [e] at this; exact absurd this (by decide)) hn (hst.2 e)
            have hnone : (ofS x1 = none ∨ ofS x2 = none) → ofS (.mk k n t nl [x0, x1, x2]) = none := by
              intro h
              rcases hh with e | e | e
              · rw [hofp e]; rcases h with h | h <;> rw [h]
                · rfl
                · cases ofS x1 <;> rfl
              · rw [hofl e]; rcases h with h | h <;> rw [h]
                · rfl
                · cases ofS x1 <;> rfl
              · rw [hofs e]; rcases h with h | h <;> rw [h]
                · rfl
                · cases ofS x1 <;> rfl
            refine aw_sreg {} rfl (by simp only [allocObjs, go_sem]; rfl) fun K KP hK hP => ?_
            simp only [go_sem, ↓reduceIte, reduceCtorEq, List.tail_cons, List.map_cons, List.map_nil, List.getD_cons_zero, List.getD_cons_succ]
            refine CallP.ofR ih1 (by simp only [go_sem]) fun s1 hs1 => ?_
            try simp only [go_sem, ↓reduceIte, reduceCtorEq, List.tail_cons, List.map_cons, List.map_nil, List.getD_cons_zero, List.getD_cons_succ]
            apply hK; clear hK hP
            refine aw_sreg {} rfl (by simp only [allocObjs, go_sem]; rfl) fun K KP hK hP => ?_
            simp only [go_sem, ↓reduceIte, reduceCtorEq, List.tail_cons, List.map_cons, List.map_nil, List.getD_cons_zero, List.getD_cons_succ]
            refine CallP.ofR ih2 (by simp only [go_sem]) fun s2 hs2 => ?_
            try simp only [go_sem, ↓reduceIte, reduceCtorEq, List.tail_cons, List.map_cons, List.map_nil, List.getD_cons_zero, List.getD_cons_succ]
            apply hK; clear hK hP
            refine aw_seq ?_
            refine aw_sregB {} 77 81 82 (.bool (decide (ofS x1 = none ∨ ofS x2 = none))) rfl rfl rfl (fun K KP hK hP => ?_) (fun junk12 => ?_)
            ·
              by_cases c12_0 : ofS x1 = none
              ·
                simp only [go_sem, ↓reduceIte, reduceCtorEq, List.tail_cons, List.map_cons, List.map_nil, List.getD_cons_zero, List.getD_cons_succ, c12_0, Option.isSome_none]
                refine hK _ (by first | rfl | (simp only [go_sem, ↓reduceIte, reduceCtorEq, List.tail_cons, List.map_cons, List.map_nil, List.getD_cons_zero, List.getD_cons_succ, c12_0, Option.isSome_none])) rfl ?_
                simp only [go_sem, ↓reduceIte, Nat.reduceEqDiff]
                cases ofS x2 <;> simp [c12_0]
              ·
                simp only [go_sem, ↓reduceIte, reduceCtorEq, List.tail_cons, List.map_cons, List.map_nil, List.getD_cons_zero, List.getD_cons_succ, c12_0, show (ofS x1).isSome = true from Option.isSome_iff_ne_none.2 c12_0]
                refine hK _ (by first | rfl | (simp only [go_sem, ↓reduceIte, reduceCtorEq, List.tail_cons, List.map_cons, List.map_nil, List.getD_cons_zero, List.getD_cons_succ, c12_0, show (ofS x1).isSome = true from Option.isSome_iff_ne_none.2 c12_0])) rfl ?_
                simp only [go_sem, ↓reduceIte, Nat.reduceEqDiff]
                cases ofS x2 <;> simp [c12_0]
            ·
              refine aw_if (ofS x1 = none ∨ ofS x2 = none) (by simp only [go_sem, ↓reduceIte, reduceCtorEq, List.tail_cons, List.map_cons, List.map_nil, List.getD_cons_zero, List.getD_cons_succ]) (fun h12 => ?_) (fun h12 => ?_)
              ·
                refine aw_sreg {} rfl rfl fun K KP hK hP => ?_
                simp only [go_sem, ↓reduceIte, reduceCtorEq, List.tail_cons, List.map_cons, List.map_nil, List.getD_cons_zero, List.getD_cons_succ]
                apply hK; clear hK hP
                refine aw_ret ?_
                refine athen_ret.2 ?_
                refine ablock_ret.2 ?_
                refine athen_ret.2 ?_
                simp only [go_sem, ↓reduceIte, reduceCtorEq, List.tail_cons, List.map_cons, List.map_nil, List.getD_cons_zero, List.getD_cons_succ, athen_ret] <;> (
                  rw [hnone h12]; exact ⟨nilS, rfl, fun r h => by cases h⟩)
              ·
                obtain ⟨a, ha⟩ := Option.ne_none_iff_exists'.1 (fun h => h12 (.inl h))
                obtain ⟨b, hb'⟩ := Option.ne_none_iff_exists'.1 (fun h => h12 (.inr h))
                have hsa := hs1 a ha
                have hsb := hs2 b hb'
                subst hsa; subst hsb
                have fa := fit_of (hparts x1 (by simp)) (hbig x1 (by simp)) ha
                have fb := fit_of (hparts x2 (by simp)) (hbig x2 (by simp)) hb'
                refine aw_skip ?_
                refine athen_normal.2 ?_
                refine aw_block ?_
                refine aw_sreg {} rfl rfl fun K KP hK hP => ?_
                simp only [go_sem, ↓reduceIte, reduceCtorEq, List.tail_cons, List.map_cons, List.map_nil, List.getD_cons_zero, List.getD_cons_succ]
                apply hK; clear hK hP
                refine aw_if (Fm.head (.mk k n t nl [x0, x1, x2]) = plusB) (by simp only [go_sem, ↓reduceIte, reduceCtorEq, List.tail_cons, List.map_cons, List.map_nil, List.getD_cons_zero, List.getD_cons_succ]) (fun h14 => ?_) (fun h14 => ?_)
                ·
                  refine aw_sreg {} rfl rfl fun K KP hK hP => ?_
                  simp only [go_sem, ↓reduceIte, reduceCtorEq, List.tail_cons, List.map_cons, List.map_nil, List.getD_cons_zero, List.getD_cons_succ]
                  refine CallP.ofR (x := plusS s1 s2 1) (refSum_call s1 s2 1 fa fb (by decide) (by decide)) (by simp only [go_sem]) fun s3 hs3 => ?_
                  try simp only [go_sem, ↓reduceIte, reduceCtorEq, List.tail_cons, List.map_cons, List.map_nil, List.getD_cons_zero, List.getD_cons_succ]
                  apply hK; clear hK hP
                  refine aw_ret ?_
                  refine ablock_ret.2 ?_
                  refine ablock_ret.2 ?_
                  refine athen_ret.2 ?_
                  simp only [go_sem, ↓reduceIte, reduceCtorEq, List.tail_cons, List.map_cons, List.map_nil, List.getD_cons_zero, List.getD_cons_succ, athen_ret] <;> (
                    rw [hofp h14, ha, hb']; exact ⟨s3, rfl, hs3⟩)
                ·
                  refine aw_sreg {} rfl rfl fun K KP hK hP => ?_
                  simp only [go_sem, ↓reduceIte, reduceCtorEq, List.tail_cons, List.map_cons, List.map_nil, List.getD_cons_zero, List.getD_cons_succ]
                  apply hK; clear hK hP
                  refine aw_if (Fm.head (.mk k n t nl [x0, x1, x2]) = lessB) (by simp only [go_sem, ↓reduceIte, reduceCtorEq, List.tail_cons, List.map_cons, List.map_nil, List.getD_cons_zero, List.getD_cons_succ]) (fun h16 => ?_) (fun h16 => ?_)
                  ·
                    refine aw_sreg {} rfl rfl fun K KP hK hP => ?_
                    simp only [go_sem, ↓reduceIte, reduceCtorEq, List.tail_cons, List.map_cons, List.map_nil, List.getD_cons_zero, List.getD_cons_succ]
                    refine CallP.ofR (x := plusS s1 s2 (-1)) (refSum_call s1 s2 (-1) fa fb (by decide) (by decide)) (by simp only [go_sem]) fun s3 hs3 => ?_
                    try simp only [go_sem, ↓reduceIte, reduceCtorEq, List.tail_cons, List.map_cons, List.map_nil, List.getD_cons_zero, List.getD_cons_succ]
                    apply hK; clear hK hP
                    refine aw_ret ?_
                    refine ablock_ret.2 ?_
                    refine ablock_ret.2 ?_
                    refine athen_ret.2 ?_
                    simp only [go_sem, ↓reduceIte, reduceCtorEq, List.tail_cons, List.map_cons, List.map_nil, List.getD_cons_zero, List.getD_cons_succ, athen_ret] <;> (
                      rw [hofl h16, ha, hb']; exact ⟨s3, rfl, hs3⟩)
                  ·
                    have hof := hofs (by rcases hh with e | e | e; exact absurd e h14; exact absurd e h16; exact e)
                    rw [ha, hb', Option.bind_some, Option.bind_some] at hof
                    obtain ⟨ka, na, la⟩ := s1
                    obtain ⟨kb, nb, lb⟩ := s2
                    have fak := fa.k
                    have fbk := fb.k
                    simp only at fak fbk
                    refine aw_sreg {} rfl rfl fun K KP hK hP => ?_
                    simp only [go_sem, ↓reduceIte, reduceCtorEq, List.tail_cons, List.map_cons, List.map_nil, List.getD_cons_zero, List.getD_cons_succ]
                    apply hK; clear hK hP
                    refine aw_if (la = []) (by simp only [go_sem, ↓reduceIte, reduceCtorEq, List.tail_cons, List.map_cons, List.map_nil, List.getD_cons_zero, List.getD_cons_succ, List.length_map, List.length_eq_zero_iff, Int.natCast_eq_zero]) (fun h18 => ?_) (fun h18 => ?_)
                    ·
                      refine aw_sreg {} rfl rfl fun K KP hK hP => ?_
                      simp only [go_sem, ↓reduceIte, reduceCtorEq, List.tail_cons, List.map_cons, List.map_nil, List.getD_cons_zero, List.getD_cons_succ]
                      refine CallP.ofR (x := plusS nilS ⟨kb, nb, lb⟩ ka) (refSum_call nilS ⟨kb, nb, lb⟩ ka nilS_fit fb (by omega) (by omega)) (by simp only [go_sem]) fun s3 hs3 => ?_
                      try simp only [go_sem, ↓reduceIte, reduceCtorEq, List.tail_cons, List.map_cons, List.map_nil, List.getD_cons_zero, List.getD_cons_succ]
                      apply hK; clear hK hP
                      refine aw_ret ?_
                      refine ablock_ret.2 ?_
                      refine ablock_ret.2 ?_
                      refine athen_ret.2 ?_
                      simp only [go_sem, ↓reduceIte, reduceCtorEq, List.tail_cons, List.map_cons, List.map_nil, List.getD_cons_zero, List.getD_cons_succ, athen_ret] <;> (
                        rw [hof]; simp only [h18, if_true]; exact ⟨s3, rfl, hs3⟩)
                    ·
                      refine aw_sreg {} rfl rfl fun K KP hK hP => ?_
                      simp only [go_sem, ↓reduceIte, reduceCtorEq, List.tail_cons, List.map_cons, List.map_nil, List.getD_cons_zero, List.getD_cons_succ]
                      apply hK; clear hK hP
                      refine aw_if (lb = []) (by simp only [go_sem, ↓reduceIte, reduceCtorEq, List.tail_cons, List.map_cons, List.map_nil, List.getD_cons_zero, List.getD_cons_succ, List.length_map, List.length_eq_zero_iff, Int.natCast_eq_zero]) (fun h20 => ?_) (fun h20 => ?_)
                      ·
                        refine aw_sreg {} rfl rfl fun K KP hK hP => ?_
                        simp only [go_sem, ↓reduceIte, reduceCtorEq, List.tail_cons, List.map_cons, List.map_nil, List.getD_cons_zero, List.getD_cons_succ]
                        refine CallP.ofR (x := plusS nilS ⟨ka, na, la⟩ kb) (refSum_call nilS ⟨ka, na, la⟩ kb nilS_fit fa (by omega) (by omega)) (by simp only [go_sem]) fun s3 hs3 => ?_
                        try simp only [go_sem, ↓reduceIte, reduceCtorEq, List.tail_cons, List.map_cons, List.map_nil, List.getD_cons_zero, List.getD_cons_succ]
                        apply hK; clear hK hP
                        refine aw_ret ?_
                        refine ablock_ret.2 ?_
                        refine ablock_ret.2 ?_
                        refine athen_ret.2 ?_
                        simp only [go_sem, ↓reduceIte, reduceCtorEq, List.tail_cons, List.map_cons, List.map_nil, List.getD_cons_zero, List.getD_cons_succ, athen_ret] <;> (
                          rw [hof]; simp only [h18, h20, if_true, if_false]; exact ⟨s3, rfl, hs3⟩)
                      ·
                        refine aw_skip ?_
                        refine ablock_normal.2 ?_
                        refine ablock_normal.2 ?_
                        refine athen_normal.2 ?_
                        refine aw_sreg {} rfl rfl fun K KP hK hP => ?_
                        simp only [go_sem, ↓reduceIte, reduceCtorEq, List.tail_cons, List.map_cons, List.map_nil, List.getD_cons_zero, List.getD_cons_succ, List.replicate_succ]
                        apply hK; clear hK hP
                        refine aw_ret ?_
                        simp only [go_sem, ↓reduceIte, reduceCtorEq, List.tail_cons, List.map_cons, List.map_nil, List.getD_cons_zero, List.getD_cons_succ, athen_ret] <;> (
                          rw [hof]; simp only [h18, h20, if_false]
                          refine ⟨_, ?_, fun r hr => by cases hr; rfl⟩
                          simp only [atomS, go_sem, termsA, List.map_cons, List.map_nil, Pt.row, cells_mk, Option.isSome_some])
          ·
            refine aw_skip ?_
            refine ablock_normal.2 ?_
            refine athen_normal.2 ?_
            refine aw_sreg {} rfl rfl fun K KP hK hP => ?_
            simp only [go_sem, ↓reduceIte, reduceCtorEq, List.tail_cons, List.map_cons, List.map_nil, List.getD_cons_zero, List.getD_cons_succ, List.replicate_succ]
            apply hK; clear hK hP
            refine aw_ret ?_
            simp only [go_sem, ↓reduceIte, reduceCtorEq, List.tail_cons, List.map_cons, List.map_nil, List.getD_cons_zero, List.getD_cons_succ, athen_ret] <;> (
              rw [ofS_atomF (f := .mk k n t nl l) h1 (fun h => h9 ⟨.inl (hplus.1 h).1, (hplus.1 h).2⟩) (fun h => h9 ⟨.inr (.inl (hless.1 h).1), (hless.1 h).2⟩) (fun h => h4 (hneg.1 h)) (fun h => h9 ⟨.inr (.inr (hstar.1 h).1), (hstar.1 h).2⟩)]
              refine ⟨_, ?_, fun r hr => by cases hr; rfl⟩
              simp only [atomS, go_sem, termsA, List.map_cons, List.map_nil, Pt.row, cells_mk, Option.isSome_some])
end Go.Ab
