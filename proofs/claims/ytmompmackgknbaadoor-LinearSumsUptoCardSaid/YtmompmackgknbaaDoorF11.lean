/-
  SUMS OF TERMS, and what is thrown on the way is caught.
-/
import Derived.Test.YtmompmackgknbaaDoorF10t
set_option linter.unusedVariables false
set_option linter.unusedSimpArgs false
set_option maxRecDepth 100000
namespace Go.Ab
open Go Go.RowKit Go.Proofs

/-! ### caught -/
theorem caught1_none (σ : Sto) (nx p nm : Nat) : DCall CX 64 [.ref p nm 0] σ nx none (fun u' σ' _ => u' = none ∧ σ' = σ) := by
  refine dcall_mk {} 15 [] Tryd.func64 rfl (by decide) rfl rfl rfl rfl rfl rfl rfl rfl fun K hK => ?_
  simp only [go_sem, ↓reduceIte, recA]
  apply hK; clear hK
  refine aw_sreg {} rfl rfl fun K KP hK hP => ?_
  simp only [go_sem, ↓reduceIte]
  apply hK; clear hK hP
  refine aw_if (False) (by simp only [go_sem, ↓reduceIte]) (fun h1 => ?_) (fun h1 => ?_)
  ·
    exact h1.elim
  ·
    refine aw_skip ?_
    simp only [go_sem, ↓reduceIte, athen_ret]
theorem caught1_some (σ : Sto) (nx nm : Nat) (b : Bool) : DCall CX 64 [.ref σ.length nm 0] (σ ++ [(nm, .cells 4 [.bool b])]) nx (some beyondA) (fun u' σ' _ => u' = none ∧ ∃ x, σ' = σ ++ [(nm, .cells 4 [.bool true]), x]) := by
  refine dcall_mk {} 15 [] Tryd.func64 rfl (by decide) rfl rfl rfl rfl rfl rfl rfl rfl fun K hK => ?_
  simp only [go_sem, ↓reduceIte, beyondA, recA]
  apply hK; clear hK
  refine aw_sreg {} rfl rfl fun K KP hK hP => ?_
  simp only [go_sem, ↓reduceIte, beyondA]
  apply hK; clear hK hP
  refine aw_if (True) (by simp only [go_sem, ↓reduceIte, beyondA]) (fun h1 => ?_) (fun h1 => ?_)
  ·
    refine aw_seq ?_
    refine aw_sreg {} rfl (by simp only [allocObjs, go_sem]; rfl) fun K KP hK hP => ?_
    simp only [go_sem, ↓reduceIte, beyondA]
    apply hK; clear hK hP
    refine aw_sreg {} rfl rfl fun K KP hK hP => ?_
    simp only [go_sem, ↓reduceIte, beyondA]
    apply hK; clear hK hP
    refine aw_if (False) (by simp only [go_sem, ↓reduceIte, beyondA]) (fun h3 => ?_) (fun h3 => ?_)
    ·
      exact h3.elim
    ·
      refine aw_skip ?_
      refine athen_normal.2 ?_
      refine aw_lreg {} rfl rfl fun K KP hK hP => ?_
      simp only [go_sem, ↓reduceIte, beyondA]
      apply hK; clear hK hP
      simp only [go_sem, ↓reduceIte, beyondA, athen_ret] <;> (
        exact ⟨_, rfl⟩)
  ·
    exact absurd trivial h1
theorem caught_ret {g : FuncId} {first caps : List AV} {σ σ2 : Sto} {nx : Nat} (hlen : σ2.length = σ.length) (hf : ∀ x nx1, ACall CX g (first ++ caps) (σ ++ [x]) nx1 (fun o σ' _ => (∃ v, o = .ret v) ∧ σ' = σ2 ++ [x])) :
    ACall CX 33 [.fn (.func g) first caps] σ nx (GetsN (.bool false) σ2) := by
  refine acall_cut ?_
  refine acall_mkD 6 [.cell 2 4] Tryd.func33 rfl (by decide) rfl rfl rfl ?_
  refine awD_sreg {} rfl (by simp only [allocObjs, go_sem]; rfl) fun K KP hK hP => ?_
  simp only [go_sem, ↓reduceIte]
  apply hK; clear hK hP
  refine awD_sdefer {} (pre := [_]) rfl rfl rfl rfl rfl fun K KP hK hP => ?_
  simp only [go_sem, ↓reduceIte]
  apply hK; clear hK hP
  refine ⟨_, _, by simp only [calleeA, go_sem, ↓reduceIte, Nat.reduceEqDiff]; rfl, ?_⟩
  refine awD_rest fun ds => ?_
  refine aw_sreg { ac := [5] } rfl rfl fun K KP hK hP => ?_
  simp only [go_sem, ↓reduceIte]
  refine ⟨_, hf _ _, ?_, ?_, .inl rfl, .inl rfl⟩
  case refine_2 => rintro v σ' nx' ⟨⟨v, hv⟩, _⟩; cases hv
  rintro v σ' nx' ⟨-, rfl⟩
  try simp only [go_sem, ↓reduceIte]
  apply hK; clear hK hP
  rw [← hlen]
  refine aw_sreg {} rfl rfl fun K KP hK hP => ?_
  simp only [go_sem, ↓reduceIte]
  apply hK; clear hK hP
  refine aw_ret ?_
  simp only [go_sem, ↓reduceIte, athen_ret] <;> (
    refine leaves_one (caught1_none _ _ _ _) fun nx1 => ?_
    simp only [go_sem, ↓reduceIte, Nat.reduceEqDiff])
theorem caught_pan {g : FuncId} {first caps : List AV} {σ σ2 : Sto} {nx : Nat} (hlen : σ2.length = σ.length) (hf : ∀ x nx1, ACall CX g (first ++ caps) (σ ++ [x]) nx1 (fun o σ' _ => o = .pan beyondA ∧ σ' = σ2 ++ [x])) :
    ACall CX 33 [.fn (.func g) first caps] σ nx (GetsN (.bool true) σ2) := by
  refine acall_cut ?_
  refine acall_mkD 6 [.cell 2 4] Tryd.func33 rfl (by decide) rfl rfl rfl ?_
  refine awD_sreg {} rfl (by simp only [allocObjs, go_sem]; rfl) fun K KP hK hP => ?_
  simp only [go_sem, ↓reduceIte]
  apply hK; clear hK hP
  refine awD_sdefer {} (pre := [_]) rfl rfl rfl rfl rfl fun K KP hK hP => ?_
  simp only [go_sem, ↓reduceIte]
  apply hK; clear hK hP
  refine ⟨_, _, by simp only [calleeA, go_sem, ↓reduceIte, Nat.reduceEqDiff]; rfl, ?_⟩
  refine awD_rest fun ds => ?_
  refine aw_sregE { ac := [5] } rfl rfl fun K KP hK hP => ?_
  simp only [go_sem, ↓reduceIte]
  refine ⟨_, hf _ _, ?_, ?_, .inl rfl, .inl rfl⟩
  · rintro v σ' nx' ⟨hv, _⟩; cases hv
  rintro v σ' nx' ⟨hv, rfl⟩
  cases hv
  try simp only [go_sem, ↓reduceIte]
  refine hP _ _ _ fun env henv => ?_
  have h2 := henv 2 (by decide)
  rw [← hlen] at h2 ⊢
  simp only [go_sem, ↓reduceIte, Nat.reduceEqDiff] at h2 ⊢
  refine ⟨_, caught1_some _ _ _ _, ?_⟩
  rintro u' σ' nx1 ⟨rfl, x, rfl⟩
  simp only [go_sem, ↓reduceIte, Nat.reduceEqDiff, h2]

/-! ### Sums of terms -/
theorem isF_kids {k n : Int} {t : List UInt8} {nl : Bool} {l : List Fm} {h : List UInt8} (hi : isF (.mk k n t nl l) h 2 = true) : ∃ x0 x1 x2, l = [x0, x1, x2] := by
  simp [isF, Fm.l] at hi
  have hl : l.length = 3 := by have h3 : (l.length : Int) = 3 := of_decide_eq_true hi.2.2; omega
  match l, hl with
  | [a, b, c], _ => exact ⟨a, b, c, rfl⟩
theorem isF_kid {k n : Int} {t : List UInt8} {nl : Bool} {l : List Fm} {h : List UInt8} (hi : isF (.mk k n t nl l) h 1 = true) : ∃ x0 x1, l = [x0, x1] := by
  simp [isF, Fm.l] at hi
  have hl : l.length = 2 := by have h3 : (l.length : Int) = 2 := of_decide_eq_true hi.2.2; omega
  match l, hl with
  | [a, b], _ => exact ⟨a, b, rfl⟩
theorem fit_of {f : Fm} (hv : validF f = true) (hb : f.big ≤ 1000000000) {s : Sm} (h : ofS f = some s) : s.fit := by
  obtain ⟨⟨hg, hw⟩, hl⟩ := ofS_good f hv s h
  refine ⟨(within_iff _).1 hw, fun p hp => (within_iff _).1 (hg.ok p hp).2.1, fun p hp => ?_, by omega⟩
  have := (hg.ok p hp).2.2.2.2
  omega
theorem nilS_fit : nilS.fit := ⟨by decide, fun p hp => (by cases hp), fun p hp => (by cases hp), by decide⟩
theorem smav' (k : Int) (nl : Bool) (l : List Pt) : Sm.av ⟨k, nl, l⟩ = .agg [.int .i64 k, termsA nl (l.map Pt.row)] := rfl
theorem outS_some {o : Option Sm} {s : Sm} (h : o = some s) : outS o = .ret s.av := by subst h; rfl
theorem outS_none {o : Option Sm} (h : o = none) : outS o = .pan beyondA := by subst h; rfl
theorem ofS_plusF {k n : Int} {t : List UInt8} {nl : Bool} {x0 x1 x2 : Fm} (h1 : ¬ k = 0) (h2 : isF (.mk k n t nl [x0, x1, x2]) plusB 2 = true) : ofS (.mk k n t nl [x0, x1, x2]) = (ofS x1).bind fun a => (ofS x2).bind fun b => plusS a b 1 := by
  simp only [ofS, ofLS, ofC, Fm.k, h1, h2, if_true, if_false]; rfl
theorem ofS_lessF {k n : Int} {t : List UInt8} {nl : Bool} {x0 x1 x2 : Fm} (h1 : ¬ k = 0) (h2 : ¬ isF (.mk k n t nl [x0, x1, x2]) plusB 2 = true) (h3 : isF (.mk k n t nl [x0, x1, x2]) lessB 2 = true) : ofS (.mk k n t nl [x0, x1, x2]) = (ofS x1).bind fun a => (ofS x2).bind fun b => plusS a b (-1) := by
  simp only [ofS, ofLS, ofC, Fm.k, h1, h2, h3, if_true, if_false]; rfl
theorem ofS_negF {k n : Int} {t : List UInt8} {nl : Bool} {x0 x1 : Fm} (h1 : ¬ k = 0) (h2 : ¬ isF (.mk k n t nl [x0, x1]) plusB 2 = true) (h3 : ¬ isF (.mk k n t nl [x0, x1]) lessB 2 = true) (h4 : isF (.mk k n t nl [x0, x1]) negB 1 = true) : ofS (.mk k n t nl [x0, x1]) = (ofS x1).bind fun a => plusS nilS a (-1) := by
  simp only [ofS, ofLS, ofC, Fm.k, h1, h2, h3, h4, if_true, if_false]; rfl
theorem ofS_starF {k n : Int} {t : List UInt8} {nl : Bool} {x0 x1 x2 : Fm} (h1 : ¬ k = 0) (h2 : ¬ isF (.mk k n t nl [x0, x1, x2]) plusB 2 = true) (h3 : ¬ isF (.mk k n t nl [x0, x1, x2]) lessB 2 = true) (h4 : ¬ isF (.mk k n t nl [x0, x1, x2]) negB 1 = true) (h5 : isF (.mk k n t nl [x0, x1, x2]) starB 2 = true) :
    ofS (.mk k n t nl [x0, x1, x2]) = (ofS x1).bind fun a => (ofS x2).bind fun b => if a.l = [] then plusS nilS b a.k else if b.l = [] then plusS nilS a b.k else some (atomS (.mk k n t nl [x0, x1, x2])) := by
  simp only [ofS, ofLS, ofC, Fm.k, h1, h2, h3, h4, h5, if_true, if_false]; rfl
theorem ofS_atomF {f : Fm} (h1 : ¬ f.k = 0) (h2 : ¬ isF f plusB 2 = true) (h3 : ¬ isF f lessB 2 = true) (h4 : ¬ isF f negB 1 = true) (h5 : ¬ isF f starB 2 = true) : ofS f = some (atomS f) := by
  obtain ⟨k, n, t, nl, l⟩ := f
  simp only [ofS, ofC, if_neg h1, if_neg h2, if_neg h3, if_neg h4, if_neg h5]
theorem of_call' : ∀ f : Fm, validF f = true → f.big ≤ 1000000000 → PCall CX 35 [f.av] (· = outS (ofS f)) := Fm.ind fun k n t nl l ih hv hb => by
  have hparts := validF_part hv
  have hbig : ∀ g ∈ l, g.big ≤ 1000000000 := fun g hg => by have := big_mem hg; simp only [Fm.big] at hb; omega
  refine pcall_mk 1 82 [.cell 2 29] Tryd.func35 rfl (by decide) rfl rfl rfl ?_
  simp only [go_sem]
  refine aw_sreg {} rfl (by simp only [allocObjs, go_sem]; rfl) fun K KP hK hP => ?_
  simp only [go_sem, ↓reduceIte, reduceCtorEq, List.tail_cons, List.map_cons, List.map_nil, List.getD_cons_zero, List.getD_cons_succ]
  apply hK; clear hK hP
  refine aw_sreg {} rfl rfl fun K KP hK hP => ?_
  simp only [go_sem, ↓reduceIte, reduceCtorEq, List.tail_cons, List.map_cons, List.map_nil, List.getD_cons_zero, List.getD_cons_succ]
  refine CallP.ret (rest_call k n t nl l).av (by simp only [go_sem]) ?_
  try simp only [go_sem, ↓reduceIte, reduceCtorEq, List.tail_cons, List.map_cons, List.map_nil, List.getD_cons_zero, List.getD_cons_succ]
  apply hK; clear hK hP
  refine aw_seq ?_
  refine aw_block ?_
  refine aw_sreg {} rfl rfl fun K KP hK hP => ?_
  simp only [go_sem, ↓reduceIte, reduceCtorEq, List.tail_cons, List.map_cons, List.map_nil, List.getD_cons_zero, List.getD_cons_succ]
  apply hK; clear hK hP
  refine aw_if (k = 0) (by simp only [go_sem, ↓reduceIte, reduceCtorEq, List.tail_cons, List.map_cons, List.map_nil, List.getD_cons_zero, List.getD_cons_succ]) (fun h2 => ?_) (fun h2 => ?_)
  ·
    refine aw_sreg {} rfl rfl fun K KP hK hP => ?_
    simp only [go_sem, ↓reduceIte, reduceCtorEq, List.tail_cons, List.map_cons, List.map_nil, List.getD_cons_zero, List.getD_cons_succ]
    apply hK; clear hK hP
    refine aw_ret ?_
    refine ablock_ret.2 ?_
    refine athen_ret.2 ?_
    simp only [go_sem, ↓reduceIte, reduceCtorEq, List.tail_cons, List.map_cons, List.map_nil, List.getD_cons_zero, List.getD_cons_succ, athen_ret] <;> (
      have h : ofS (.mk k n t nl l) = some ⟨n, true, []⟩ := by simp [ofS, ofC, Fm.k, Fm.n, h2]
      rw [outS_some h]
      simp only [go_sem, termsA, List.map_nil])
  ·
    refine aw_sreg {} rfl rfl fun K KP hK hP => ?_
    simp only [go_sem, ↓reduceIte, reduceCtorEq, List.tail_cons, List.map_cons, List.map_nil, List.getD_cons_zero, List.getD_cons_succ]
    refine CallP.ret (is_call (.mk k n t nl l) _ _ (by decide) (by decide)).av (by simp only [go_sem]) ?_
    try simp only [go_sem, ↓reduceIte, reduceCtorEq, List.tail_cons, List.map_cons, List.map_nil, List.getD_cons_zero, List.getD_cons_succ]
    apply hK; clear hK hP
    refine aw_if (isF (.mk k n t nl l) plusB 2 = true) (by simp only [go_sem, ↓reduceIte, reduceCtorEq, List.tail_cons, List.map_cons, List.map_nil, List.getD_cons_zero, List.getD_cons_succ]) (fun h4 => ?_) (fun h4 => ?_)
    ·
      obtain ⟨x0, x1, x2, rfl⟩ := isF_kids h4
      have ih1 := ih x1 (by simp) (hparts x1 (by simp)) (hbig x1 (by simp))
      have ih2 := ih x2 (by simp) (hparts x2 (by simp)) (hbig x2 (by simp))
      by_cases c5_0 : ofS x1 = none
      ·
        have hof : ofS (.mk k n t nl [x0, x1, x2]) = (ofS x1).bind fun a => (ofS x2).bind fun b => plusS a b 1 := ofS_plusF h2 h4
        refine aw_spdraw {} [6, 7, 8] [0, 1, 3, 7, 0, 16, 48, 127, 255, 511] [0, 1, 2, 4, 5, 6, 3, 7, 8, 9] mixed (by kernel_rfl) rfl rfl (by simp only [List.filterMap_cons, List.filterMap_nil, List.getElem?_toArray, List.getElem?_cons_zero, List.getElem?_cons_succ]; rfl) fun K KP hK hP => ?_
        simp only [go_sem, ↓reduceIte, reduceCtorEq, List.tail_cons, List.map_cons, List.map_nil, List.getD_cons_zero, List.getD_cons_succ, c5_0]
        refine CallP.pan (by rw [c5_0] at ih1; exact ih1) (by simp only [go_sem]) ?_
        try simp only [go_sem, ↓reduceIte, reduceCtorEq, List.tail_cons, List.map_cons, List.map_nil, List.getD_cons_zero, List.getD_cons_succ, c5_0]
        refine hP _ _ _ fun env => ?_
        rw [outS_none (show ofS (.mk k n t nl [x0, x1, x2]) = none by rw [hof, c5_0]; rfl)]
        simp [beyondA, go_sem]
      ·
        by_cases c5_1 : ofS x2 = none
        ·
          obtain ⟨a, ha⟩ := Option.ne_none_iff_exists'.1 c5_0
          have hof : ofS (.mk k n t nl [x0, x1, x2]) = (ofS x1).bind fun a => (ofS x2).bind fun b => plusS a b 1 := ofS_plusF h2 h4
          refine aw_spdraw {} [6, 7, 8] [0, 1, 3, 7, 0, 16, 48, 127, 255, 511] [0, 1, 2, 4, 5, 6, 3, 7, 8, 9] mixed (by kernel_rfl) rfl rfl (by simp only [List.filterMap_cons, List.filterMap_nil, List.getElem?_toArray, List.getElem?_cons_zero, List.getElem?_cons_succ]; rfl) fun K KP hK hP => ?_
          simp only [go_sem, ↓reduceIte, reduceCtorEq, List.tail_cons, List.map_cons, List.map_nil, List.getD_cons_zero, List.getD_cons_succ, c5_0, c5_1]
          refine CallP.ret (by rw [ha] at ih1; exact ih1) (by simp only [go_sem]) ?_
          try simp only [go_sem, ↓reduceIte, reduceCtorEq, List.tail_cons, List.map_cons, List.map_nil, List.getD_cons_zero, List.getD_cons_succ, c5_0, c5_1]
          refine CallP.pan (by rw [c5_1] at ih2; exact ih2) (by simp only [go_sem]) ?_
          try simp only [go_sem, ↓reduceIte, reduceCtorEq, List.tail_cons, List.map_cons, List.map_nil, List.getD_cons_zero, List.getD_cons_succ, c5_0, c5_1]
          refine hP _ _ _ fun env => ?_
          rw [outS_none (show ofS (.mk k n t nl [x0, x1, x2]) = none by rw [hof, ha, c5_1]; rfl)]
          simp [beyondA, go_sem]
        ·
          by_cases c5_2 : (ofS x1).bind (fun a => (ofS x2).bind fun b => plusS a b 1) = none
          ·
            obtain ⟨a, ha⟩ := Option.ne_none_iff_exists'.1 c5_0
            obtain ⟨b, hb'⟩ := Option.ne_none_iff_exists'.1 c5_1
            have hpl := plus_call a b (1) (fit_of (hparts x1 (by simp)) (hbig x1 (by simp)) ha) (fit_of (hparts x2 (by simp)) (hbig x2 (by simp)) hb') (by decide) (by decide)
            have hno : plusS a b (1) = none := by rw [ha, hb'] at c5_2; exact c5_2
            rw [hno] at hpl
            have hof : ofS (.mk k n t nl [x0, x1, x2]) = (ofS x1).bind fun a => (ofS x2).bind fun b => plusS a b 1 := ofS_plusF h2 h4
            refine aw_spdraw {} [6, 7, 8] [0, 1, 3, 7, 0, 16, 48, 127, 255, 511] [0, 1, 2, 4, 5, 6, 3, 7, 8, 9] mixed (by kernel_rfl) rfl rfl (by simp only [List.filterMap_cons, List.filterMap_nil, List.getElem?_toArray, List.getElem?_cons_zero, List.getElem?_cons_succ]; rfl) fun K KP hK hP => ?_
            simp only [go_sem, ↓reduceIte, reduceCtorEq, List.tail_cons, List.map_cons, List.map_nil, List.getD_cons_zero, List.getD_cons_succ, c5_0, c5_1, c5_2]
            refine CallP.ret (by rw [ha] at ih1; exact ih1) (by simp only [go_sem]) ?_
            try simp only [go_sem, ↓reduceIte, reduceCtorEq, List.tail_cons, List.map_cons, List.map_nil, List.getD_cons_zero, List.getD_cons_succ, c5_0, c5_1, c5_2]
            refine CallP.ret (by rw [hb'] at ih2; exact ih2) (by simp only [go_sem]) ?_
            try simp only [go_sem, ↓reduceIte, reduceCtorEq, List.tail_cons, List.map_cons, List.map_nil, List.getD_cons_zero, List.getD_cons_succ, c5_0, c5_1, c5_2]
            refine CallP.pan hpl (by simp only [go_sem]) ?_
            try simp only [go_sem, ↓reduceIte, reduceCtorEq, List.tail_cons, List.map_cons, List.map_nil, List.getD_cons_zero, List.getD_cons_succ, c5_0, c5_1, c5_2]
            refine hP _ _ _ fun env => ?_
            rw [outS_none (show ofS (.mk k n t nl [x0, x1, x2]) = none by rw [hof, ha, hb']; exact hno)]
            simp [beyondA, go_sem]
          ·
            obtain ⟨a, ha⟩ := Option.ne_none_iff_exists'.1 c5_0
            obtain ⟨b, hb'⟩ := Option.ne_none_iff_exists'.1 c5_1
            have hpl := plus_call a b (1) (fit_of (hparts x1 (by simp)) (hbig x1 (by simp)) ha) (fit_of (hparts x2 (by simp)) (hbig x2 (by simp)) hb') (by decide) (by decide)
            obtain ⟨c, hcs⟩ := Option.ne_none_iff_exists'.1 c5_2
            have hyes : plusS a b (1) = some c := by rw [ha, hb'] at hcs; exact hcs
            rw [hyes] at hpl
            have hof : ofS (.mk k n t nl [x0, x1, x2]) = (ofS x1).bind fun a => (ofS x2).bind fun b => plusS a b 1 := ofS_plusF h2 h4
            refine aw_spdraw {} [6, 7, 8] [0, 1, 3, 7, 0, 16, 48, 127, 255, 511] [0, 1, 2, 4, 5, 6, 3, 7, 8, 9] mixed (by kernel_rfl) rfl rfl (by simp only [List.filterMap_cons, List.filterMap_nil, List.getElem?_toArray, List.getElem?_cons_zero, List.getElem?_cons_succ]; rfl) fun K KP hK hP => ?_
            simp only [go_sem, ↓reduceIte, reduceCtorEq, List.tail_cons, List.map_cons, List.map_nil, List.getD_cons_zero, List.getD_cons_succ, c5_0, c5_1, c5_2]
            refine CallP.ret (by rw [ha] at ih1; exact ih1) (by simp only [go_sem]) ?_
            try simp only [go_sem, ↓reduceIte, reduceCtorEq, List.tail_cons, List.map_cons, List.map_nil, List.getD_cons_zero, List.getD_cons_succ, c5_0, c5_1, c5_2]
            refine CallP.ret (by rw [hb'] at ih2; exact ih2) (by simp only [go_sem]) ?_
            try simp only [go_sem, ↓reduceIte, reduceCtorEq, List.tail_cons, List.map_cons, List.map_nil, List.getD_cons_zero, List.getD_cons_succ, c5_0, c5_1, c5_2]
            refine CallP.ret hpl (by simp only [go_sem]) ?_
            try simp only [go_sem, ↓reduceIte, reduceCtorEq, List.tail_cons, List.map_cons, List.map_nil, List.getD_cons_zero, List.getD_cons_succ, c5_0, c5_1, c5_2]
            apply hK; clear hK hP
            refine aw_ret ?_
            refine ablock_ret.2 ?_
            refine athen_ret.2 ?_
            simp only [go_sem, ↓reduceIte, reduceCtorEq, List.tail_cons, List.map_cons, List.map_nil, List.getD_cons_zero, List.getD_cons_succ, c5_0, c5_1, c5_2, athen_ret] <;> (
              rw [outS_some (show ofS (.mk k n t nl [x0, x1, x2]) = some c by rw [hof, ha, hb']; exact hyes)])
    ·
      refine aw_sreg {} rfl rfl fun K KP hK hP => ?_
      simp only [go_sem, ↓reduceIte, reduceCtorEq, List.tail_cons, List.map_cons, List.map_nil, List.getD_cons_zero, List.getD_cons_succ]
      refine CallP.ret (is_call (.mk k n t nl l) _ _ (by decide) (by decide)).av (by simp only [go_sem]) ?_
      try simp only [go_sem, ↓reduceIte, reduceCtorEq, List.tail_cons, List.map_cons, List.map_nil, List.getD_cons_zero, List.getD_cons_succ]
      apply hK; clear hK hP
      refine aw_if (isF (.mk k n t nl l) lessB 2 = true) (by simp only [go_sem, ↓reduceIte, reduceCtorEq, List.tail_cons, List.map_cons, List.map_nil, List.getD_cons_zero, List.getD_cons_succ]) (fun h6 => ?_) (fun h6 => ?_)
      ·
        obtain ⟨x0, x1, x2, rfl⟩ := isF_kids h6
        have ih1 := ih x1 (by simp) (hparts x1 (by simp)) (hbig x1 (by simp))
        have ih2 := ih x2 (by simp) (hparts x2 (by simp)) (hbig x2 (by simp))
        by_cases c7_0 : ofS x1 = none
        ·
          have hof : ofS (.mk k n t nl [x0, x1, x2]) = (ofS x1).bind fun a => (ofS x2).bind fun b => plusS a b (-1) := ofS_lessF h2 h4 h6
          refine aw_spdraw {} [6, 7, 8] [0, 1, 3, 7, 0, 16, 48, 127, 255, 511] [0, 1, 2, 4, 5, 6, 3, 7, 8, 9] mixed (by kernel_rfl) rfl rfl (by simp only [List.filterMap_cons, List.filterMap_nil, List.getElem?_toArray, List.getElem?_cons_zero, List.getElem?_cons_succ]; rfl) fun K KP hK hP => ?_
          simp only [go_sem, ↓reduceIte, reduceCtorEq, List.tail_cons, List.map_cons, List.map_nil, List.getD_cons_zero, List.getD_cons_succ, c7_0]
          refine CallP.pan (by rw [c7_0] at ih1; exact ih1) (by simp only [go_sem]) ?_
          try simp only [go_sem, ↓reduceIte, reduceCtorEq, List.tail_cons, List.map_cons, List.map_nil, List.getD_cons_zero, List.getD_cons_succ, c7_0]
          refine hP _ _ _ fun env => ?_
          rw [outS_none (show ofS (.mk k n t nl [x0, x1, x2]) = none by rw [hof, c7_0]; rfl)]
          simp [beyondA, go_sem]
        ·
          by_cases c7_1 : ofS x2 = none
          ·
            obtain ⟨a, ha⟩ := Option.ne_none_iff_exists'.1 c7_0
            have hof : ofS (.mk k n t nl [x0, x1, x2]) = (ofS x1).bind fun a => (ofS x2).bind fun b => plusS a b (-1) := ofS_lessF h2 h4 h6
            refine aw_spdraw {} [6, 7, 8] [0, 1, 3, 7, 0, 16, 48, 127, 255, 511] [0, 1, 2, 4, 5, 6, 3, 7, 8, 9] mixed (by kernel_rfl) rfl rfl (by simp only [List.filterMap_cons, List.filterMap_nil, List.getElem?_toArray, List.getElem?_cons_zero, List.getElem?_cons_succ]; rfl) fun K KP hK hP => ?_
            simp only [go_sem, ↓reduceIte, reduceCtorEq, List.tail_cons, List.map_cons, List.map_nil, List.getD_cons_zero, List.getD_cons_succ, c7_0, c7_1]
            refine CallP.ret (by rw [ha] at ih1; exact ih1) (by simp only [go_sem]) ?_
            try simp only [go_sem, ↓reduceIte, reduceCtorEq, List.tail_cons, List.map_cons, List.map_nil, List.getD_cons_zero, List.getD_cons_succ, c7_0, c7_1]
            refine CallP.pan (by rw [c7_1] at ih2; exact ih2) (by simp only [go_sem]) ?_
            try simp only [go_sem, ↓reduceIte, reduceCtorEq, List.tail_cons, List.map_cons, List.map_nil, List.getD_cons_zero, List.getD_cons_succ, c7_0, c7_1]
            refine hP _ _ _ fun env => ?_
            rw [outS_none (show ofS (.mk k n t nl [x0, x1, x2]) = none by rw [hof, ha, c7_1]; rfl)]
            simp [beyondA, go_sem]
          ·
            by_cases c7_2 : (ofS x1).bind (fun a => (ofS x2).bind fun b => plusS a b (-1)) = none
            ·
              obtain ⟨a, ha⟩ := Option.ne_none_iff_exists'.1 c7_0
              obtain ⟨b, hb'⟩ := Option.ne_none_iff_exists'.1 c7_1
              have hpl := plus_call a b (-1) (fit_of (hparts x1 (by simp)) (hbig x1 (by simp)) ha) (fit_of (hparts x2 (by simp)) (hbig x2 (by simp)) hb') (by decide) (by decide)
              have hno : plusS a b (-1) = none := by rw [ha, hb'] at c7_2; exact c7_2
              rw [hno] at hpl
              have hof : ofS (.mk k n t nl [x0, x1, x2]) = (ofS x1).bind fun a => (ofS x2).bind fun b => plusS a b (-1) := ofS_lessF h2 h4 h6
              refine aw_spdraw {} [6, 7, 8] [0, 1, 3, 7, 0, 16, 48, 127, 255, 511] [0, 1, 2, 4, 5, 6, 3, 7, 8, 9] mixed (by kernel_rfl) rfl rfl (by simp only [List.filterMap_cons, List.filterMap_nil, List.getElem?_toArray, List.getElem?_cons_zero, List.getElem?_cons_succ]; rfl) fun K KP hK hP => ?_
              simp only [go_sem, ↓reduceIte, reduceCtorEq, List.tail_cons, List.map_cons, List.map_nil, List.getD_cons_zero, List.getD_cons_succ, c7_0, c7_1, c7_2]
              refine CallP.ret (by rw [ha] at ih1; exact ih1) (by simp only [go_sem]) ?_
              try simp only [go_sem, ↓reduceIte, reduceCtorEq, List.tail_cons, List.map_cons, List.map_nil, List.getD_cons_zero, List.getD_cons_succ, c7_0, c7_1, c7_2]
              refine CallP.ret (by rw [hb'] at ih2; exact ih2) (by simp only [go_sem]) ?_
              try simp only [go_sem, ↓reduceIte, reduceCtorEq, List.tail_cons, List.map_cons, List.map_nil, List.getD_cons_zero, List.getD_cons_succ, c7_0, c7_1, c7_2]
              refine CallP.pan hpl (by simp only [go_sem]) ?_
              try simp only [go_sem, ↓reduceIte, reduceCtorEq, List.tail_cons, List.map_cons, List.map_nil, List.getD_cons_zero, List.getD_cons_succ, c7_0, c7_1, c7_2]
              refine hP _ _ _ fun env => ?_
              rw [outS_none (show ofS (.mk k n t nl [x0, x1, x2]) = none by rw [hof, ha, hb']; exact hno)]
              simp [beyondA, go_sem]
            ·
              obtain ⟨a, ha⟩ := Option.ne_none_iff_exists'.1 c7_0
              obtain ⟨b, hb'⟩ := Option.ne_none_iff_exists'.1 c7_1
              have hpl := plus_call a b (-1) (fit_of (hparts x1 (by simp)) (hbig x1 (by simp)) ha) (fit_of (hparts x2 (by simp)) (hbig x2 (by simp)) hb') (by decide) (by decide)
              obtain ⟨c, hcs⟩ := Option.ne_none_iff_exists'.1 c7_2
              have hyes : plusS a b (-1) = some c := by rw [ha, hb'] at hcs; exact hcs
              rw [hyes] at hpl
              have hof : ofS (.mk k n t nl [x0, x1, x2]) = (ofS x1).bind fun a => (ofS x2).bind fun b => plusS a b (-1) := ofS_lessF h2 h4 h6
              refine aw_spdraw {} [6, 7, 8] [0, 1, 3, 7, 0, 16, 48, 127, 255, 511] [0, 1, 2, 4, 5, 6, 3, 7, 8, 9] mixed (by kernel_rfl) rfl rfl (by simp only [List.filterMap_cons, List.filterMap_nil, List.getElem?_toArray, List.getElem?_cons_zero, List.getElem?_cons_succ]; rfl) fun K KP hK hP => ?_
              simp only [go_sem, ↓reduceIte, reduceCtorEq, List.tail_cons, List.map_cons, List.map_nil, List.getD_cons_zero, List.getD_cons_succ, c7_0, c7_1, c7_2]
              refine CallP.ret (by rw [ha] at ih1; exact ih1) (by simp only [go_sem]) ?_
              try simp only [go_sem, ↓reduceIte, reduceCtorEq, List.tail_cons, List.map_cons, List.map_nil, List.getD_cons_zero, List.getD_cons_succ, c7_0, c7_1, c7_2]
              refine CallP.ret (by rw [hb'] at ih2; exact ih2) (by simp only [go_sem]) ?_
              try simp only [go_sem, ↓reduceIte, reduceCtorEq, List.tail_cons, List.map_cons, List.map_nil, List.getD_cons_zero, List.getD_cons_succ, c7_0, c7_1, c7_2]
              refine CallP.ret hpl (by simp only [go_sem]) ?_
              try simp only [go_sem, ↓reduceIte, reduceCtorEq, List.tail_cons, List.map_cons, List.map_nil, List.getD_cons_zero, List.getD_cons_succ, c7_0, c7_1, c7_2]
              apply hK; clear hK hP
              refine aw_ret ?_
              refine ablock_ret.2 ?_
              refine athen_ret.2 ?_
              simp only [go_sem, ↓reduceIte, reduceCtorEq, List.tail_cons, List.map_cons, List.map_nil, List.getD_cons_zero, List.getD_cons_succ, c7_0, c7_1, c7_2, athen_ret] <;> (
                rw [outS_some (show ofS (.mk k n t nl [x0, x1, x2]) = some c by rw [hof, ha, hb']; exact hyes)])
      ·
        refine aw_sreg {} rfl rfl fun K KP hK hP => ?_
        simp only [go_sem, ↓reduceIte, reduceCtorEq, List.tail_cons, List.map_cons, List.map_nil, List.getD_cons_zero, List.getD_cons_succ]
        refine CallP.ret (is_call (.mk k n t nl l) _ _ (by decide) (by decide)).av (by simp only [go_sem]) ?_
        try simp only [go_sem, ↓reduceIte, reduceCtorEq, List.tail_cons, List.map_cons, List.map_nil, List.getD_cons_zero, List.getD_cons_succ]
        apply hK; clear hK hP
        refine aw_if (isF (.mk k n t nl l) negB 1 = true) (by simp only [go_sem, ↓reduceIte, reduceCtorEq, List.tail_cons, List.map_cons, List.map_nil, List.getD_cons_zero, List.getD_cons_succ]) (fun h8 => ?_) (fun h8 => ?_)
        ·
          obtain ⟨x0, x1, rfl⟩ := isF_kid h8
          have ih1 := ih x1 (by simp) (hparts x1 (by simp)) (hbig x1 (by simp))
          by_cases c9_0 : ofS x1 = none
          ·
            have hof : ofS (.mk k n t nl [x0, x1]) = (ofS x1).bind fun a => plusS nilS a (-1) := ofS_negF h2 h4 h6 h8
            refine aw_sreg {} rfl rfl fun K KP hK hP => ?_
            simp only [go_sem, ↓reduceIte, reduceCtorEq, List.tail_cons, List.map_cons, List.map_nil, List.getD_cons_zero, List.getD_cons_succ, c9_0]
            refine CallP.pan (by rw [c9_0] at ih1; exact ih1) (by simp only [go_sem]) ?_
            try simp only [go_sem, ↓reduceIte, reduceCtorEq, List.tail_cons, List.map_cons, List.map_nil, List.getD_cons_zero, List.getD_cons_succ, c9_0]
            refine hP _ _ _ fun env => ?_
            rw [outS_none (show ofS (.mk k n t nl [x0, x1]) = none by rw [hof, c9_0]; rfl)]
            simp [beyondA, go_sem]
          ·
            by_cases c9_1 : (ofS x1).bind (fun a => plusS nilS a (-1)) = none
            ·
              obtain ⟨a, ha⟩ := Option.ne_none_iff_exists'.1 c9_0
              have hpl := plus_call nilS a (-1) nilS_fit (fit_of (hparts x1 (by simp)) (hbig x1 (by simp)) ha) (by decide) (by decide)
              have hno : plusS nilS a (-1) = none := by rw [ha] at c9_1; exact c9_1
              rw [hno] at hpl
              have hof : ofS (.mk k n t nl [x0, x1]) = (ofS x1).bind fun a => plusS nilS a (-1) := ofS_negF h2 h4 h6 h8
              refine aw_sreg {} rfl rfl fun K KP hK hP => ?_
              simp only [go_sem, ↓reduceIte, reduceCtorEq, List.tail_cons, List.map_cons, List.map_nil, List.getD_cons_zero, List.getD_cons_succ, c9_0, c9_1]
              refine CallP.ret (by rw [ha] at ih1; exact ih1) (by simp only [go_sem]) ?_
              try simp only [go_sem, ↓reduceIte, reduceCtorEq, List.tail_cons, List.map_cons, List.map_nil, List.getD_cons_zero, List.getD_cons_succ, c9_0, c9_1]
              refine CallP.pan hpl (by simp only [go_sem]) ?_
              try simp only [go_sem, ↓reduceIte, reduceCtorEq, List.tail_cons, List.map_cons, List.map_nil, List.getD_cons_zero, List.getD_cons_succ, c9_0, c9_1]
              refine hP _ _ _ fun env => ?_
              rw [outS_none (show ofS (.mk k n t nl [x0, x1]) = none by rw [hof, ha]; exact hno)]
              simp [beyondA, go_sem]
            ·
              obtain ⟨a, ha⟩ := Option.ne_none_iff_exists'.1 c9_0
              have hpl := plus_call nilS a (-1) nilS_fit (fit_of (hparts x1 (by simp)) (hbig x1 (by simp)) ha) (by decide) (by decide)
              obtain ⟨c, hcs⟩ := Option.ne_none_iff_exists'.1 c9_1
              have hyes : plusS nilS a (-1) = some c := by rw [ha] at hcs; exact hcs
              rw [hyes] at hpl
              have hof : ofS (.mk k n t nl [x0, x1]) = (ofS x1).bind fun a => plusS nilS a (-1) := ofS_negF h2 h4 h6 h8
              refine aw_sreg {} rfl rfl fun K KP hK hP => ?_
              simp only [go_sem, ↓reduceIte, reduceCtorEq, List.tail_cons, List.map_cons, List.map_nil, List.getD_cons_zero, List.getD_cons_succ, c9_0, c9_1]
              refine CallP.ret (by rw [ha] at ih1; exact ih1) (by simp only [go_sem]) ?_
              try simp only [go_sem, ↓reduceIte, reduceCtorEq, List.tail_cons, List.map_cons, List.map_nil, List.getD_cons_zero, List.getD_cons_succ, c9_0, c9_1]
              refine CallP.ret hpl (by simp only [go_sem]) ?_
              try simp only [go_sem, ↓reduceIte, reduceCtorEq, List.tail_cons, List.map_cons, List.map_nil, List.getD_cons_zero, List.getD_cons_succ, c9_0, c9_1]
              apply hK; clear hK hP
              refine aw_ret ?_
              refine ablock_ret.2 ?_
              refine athen_ret.2 ?_
              simp only [go_sem, ↓reduceIte, reduceCtorEq, List.tail_cons, List.map_cons, List.map_nil, List.getD_cons_zero, List.getD_cons_succ, c9_0, c9_1, athen_ret] <;> (
                rw [outS_some (show ofS (.mk k n t nl [x0, x1]) = some c by rw [hof, ha]; exact hyes)])
        ·
          refine aw_sreg {} rfl rfl fun K KP hK hP => ?_
          simp only [go_sem, ↓reduceIte, reduceCtorEq, List.tail_cons, List.map_cons, List.map_nil, List.getD_cons_zero, List.getD_cons_succ]
          refine CallP.ret (is_call (.mk k n t nl l) _ _ (by decide) (by decide)).av (by simp only [go_sem]) ?_
          try simp only [go_sem, ↓reduceIte, reduceCtorEq, List.tail_cons, List.map_cons, List.map_nil, List.getD_cons_zero, List.getD_cons_succ]
          apply hK; clear hK hP
          refine aw_if (isF (.mk k n t nl l) starB 2 = true) (by simp only [go_sem, ↓reduceIte, reduceCtorEq, List.tail_cons, List.map_cons, List.map_nil, List.getD_cons_zero, List.getD_cons_succ]) (fun h10 => ?_) (fun h10 => ?_)
          ·
            obtain ⟨x0, x1, x2, rfl⟩ := isF_kids h10
            have ih1 := ih x1 (by simp) (hparts x1 (by simp)) (hbig x1 (by simp))
            have ih2 := ih x2 (by simp) (hparts x2 (by simp)) (hbig x2 (by simp))
            have hof := ofS_starF (n := n) (t := t) (nl := nl) h2 h4 h6 h8 h10
            by_cases c11_0 : ofS x1 = none
            ·
              refine aw_spdraw {} [8, 9] [0, 1, 3, 7, 0, 16, 48, 127, 0, 0, 1023, 2047] [0, 1, 2, 4, 5, 6, 8, 9, 3, 7, 10, 11] mixed (by kernel_rfl) rfl (by simp only [allocObjs, go_sem]; rfl) (by simp only [List.filterMap_cons, List.filterMap_nil, List.getElem?_toArray, List.getElem?_cons_zero, List.getElem?_cons_succ]; rfl) fun K KP hK hP => ?_
              simp only [go_sem, ↓reduceIte, reduceCtorEq, List.tail_cons, List.map_cons, List.map_nil, List.getD_cons_zero, List.getD_cons_succ, c11_0]
              refine CallP.pan (by rw [c11_0] at ih1; exact ih1) (by simp only [go_sem]) ?_
              try simp only [go_sem, ↓reduceIte, reduceCtorEq, List.tail_cons, List.map_cons, List.map_nil, List.getD_cons_zero, List.getD_cons_succ, c11_0]
              refine hP _ _ _ fun env => ?_
              rw [outS_none (show ofS (.mk k n t nl [x0, x1, x2]) = none by rw [hof, c11_0]; rfl)]
              simp [beyondA, go_sem]
            ·
              by_cases c11_1 : ofS x2 = none
              ·
                obtain ⟨a, ha⟩ := Option.ne_none_iff_exists'.1 c11_0
                refine aw_spdraw {} [8, 9] [0, 1, 3, 7, 0, 16, 48, 127, 0, 0, 1023, 2047] [0, 1, 2, 4, 5, 6, 8, 9, 3, 7, 10, 11] mixed (by kernel_rfl) rfl (by simp only [allocObjs, go_sem]; rfl) (by simp only [List.filterMap_cons, List.filterMap_nil, List.getElem?_toArray, List.getElem?_cons_zero, List.getElem?_cons_succ]; rfl) fun K KP hK hP => ?_
                simp only [go_sem, ↓reduceIte, reduceCtorEq, List.tail_cons, List.map_cons, List.map_nil, List.getD_cons_zero, List.getD_cons_succ, c11_0, c11_1]
                refine CallP.ret (by rw [ha] at ih1; exact ih1) (by simp only [go_sem]) ?_
                try simp only [go_sem, ↓reduceIte, reduceCtorEq, List.tail_cons, List.map_cons, List.map_nil, List.getD_cons_zero, List.getD_cons_succ, c11_0, c11_1]
                refine CallP.pan (by rw [c11_1] at ih2; exact ih2) (by simp only [go_sem]) ?_
                try simp only [go_sem, ↓reduceIte, reduceCtorEq, List.tail_cons, List.map_cons, List.map_nil, List.getD_cons_zero, List.getD_cons_succ, c11_0, c11_1]
                refine hP _ _ _ fun env => ?_
                rw [outS_none (show ofS (.mk k n t nl [x0, x1, x2]) = none by rw [hof, ha, c11_1]; rfl)]
                simp [beyondA, go_sem]
              ·
                obtain ⟨a, ha⟩ := Option.ne_none_iff_exists'.1 c11_0
                obtain ⟨b, hb'⟩ := Option.ne_none_iff_exists'.1 c11_1
                have fa := fit_of (hparts x1 (by simp)) (hbig x1 (by simp)) ha
                have fb := fit_of (hparts x2 (by simp)) (hbig x2 (by simp)) hb'
                rw [ha, hb', Option.bind_some, Option.bind_some] at hof
                obtain ⟨ka, na, la⟩ := a
                obtain ⟨kb, nb, lb⟩ := b
                have fak := fa.k
                have fbk := fb.k
                simp only at fak fbk
                have hpa := plus_call nilS ⟨kb, nb, lb⟩ ka nilS_fit fb (by omega) (by omega)
                have hpb := plus_call nilS ⟨ka, na, la⟩ kb nilS_fit fa (by omega) (by omega)
                refine aw_spdraw {} [8, 9] [0, 1, 3, 7, 0, 16, 48, 127, 0, 0, 1023, 2047] [0, 1, 2, 4, 5, 6, 8, 9, 3, 7, 10, 11] mixed (by kernel_rfl) rfl (by simp only [allocObjs, go_sem]; rfl) (by simp only [List.filterMap_cons, List.filterMap_nil, List.getElem?_toArray, List.getElem?_cons_zero, List.getElem?_cons_succ]; rfl) fun K KP hK hP => ?_
                simp only [go_sem, ↓reduceIte, reduceCtorEq, List.tail_cons, List.map_cons, List.map_nil, List.getD_cons_zero, List.getD_cons_succ, c11_0, c11_1]
                refine CallP.ret (by rw [ha] at ih1; exact ih1) (by simp only [go_sem]) ?_
                try simp only [go_sem, ↓reduceIte, reduceCtorEq, List.tail_cons, List.map_cons, List.map_nil, List.getD_cons_zero, List.getD_cons_succ, c11_0, c11_1]
                refine CallP.ret (by rw [hb'] at ih2; exact ih2) (by simp only [go_sem]) ?_
                try simp only [go_sem, ↓reduceIte, reduceCtorEq, List.tail_cons, List.map_cons, List.map_nil, List.getD_cons_zero, List.getD_cons_succ, c11_0, c11_1]
                apply hK; clear hK hP
                refine aw_seq ?_
                refine aw_sreg {} rfl rfl fun K KP hK hP => ?_
                simp only [go_sem, ↓reduceIte, reduceCtorEq, List.tail_cons, List.map_cons, List.map_nil, List.getD_cons_zero, List.getD_cons_succ, c11_0, c11_1]
                apply hK; clear hK hP
                refine aw_if (la = []) (by simp only [go_sem, ↓reduceIte, reduceCtorEq, List.tail_cons, List.map_cons, List.map_nil, List.getD_cons_zero, List.getD_cons_succ, c11_0, c11_1, List.length_map, List.length_eq_zero_iff, Int.natCast_eq_zero]) (fun h12 => ?_) (fun h12 => ?_)
                ·
                  by_cases c13_0 : plusS nilS ⟨kb, nb, lb⟩ ka = none
                  ·
                    refine aw_sreg {} rfl rfl fun K KP hK hP => ?_
                    simp only [go_sem, ↓reduceIte, reduceCtorEq, List.tail_cons, List.map_cons, List.map_nil, List.getD_cons_zero, List.getD_cons_succ, c11_0, c11_1, c13_0]
                    refine CallP.pan (by rw [c13_0] at hpa; exact hpa) (by simp only [go_sem]) ?_
                    try simp only [go_sem, ↓reduceIte, reduceCtorEq, List.tail_cons, List.map_cons, List.map_nil, List.getD_cons_zero, List.getD_cons_succ, c11_0, c11_1, c13_0]
                    refine hP _ _ _ fun env => ?_
                    rw [outS_none (show ofS (.mk k n t nl [x0, x1, x2]) = none by rw [hof]; simp only [h12, if_true]; exact c13_0)]
                    simp [beyondA, go_sem]
                  ·
                    obtain ⟨c, hcs⟩ := Option.ne_none_iff_exists'.1 c13_0
                    refine aw_sreg {} rfl rfl fun K KP hK hP => ?_
                    simp only [go_sem, ↓reduceIte, reduceCtorEq, List.tail_cons, List.map_cons, List.map_nil, List.getD_cons_zero, List.getD_cons_succ, c11_0, c11_1, c13_0]
                    refine CallP.ret (by rw [hcs] at hpa; exact hpa) (by simp only [go_sem]) ?_
                    try simp only [go_sem, ↓reduceIte, reduceCtorEq, List.tail_cons, List.map_cons, List.map_nil, List.getD_cons_zero, List.getD_cons_succ, c11_0, c11_1, c13_0]
                    apply hK; clear hK hP
                    refine aw_ret ?_
                    refine athen_ret.2 ?_
                    refine ablock_ret.2 ?_
                    refine athen_ret.2 ?_
                    simp only [go_sem, ↓reduceIte, reduceCtorEq, List.tail_cons, List.map_cons, List.map_nil, List.getD_cons_zero, List.getD_cons_succ, c11_0, c11_1, c13_0, athen_ret] <;> (
                      rw [outS_some (show ofS (.mk k n t nl [x0, x1, x2]) = some c by rw [hof]; simp only [h12, if_true]; exact hcs)])
                ·
                  refine aw_skip ?_
                  refine athen_normal.2 ?_
                  refine aw_sreg {} rfl rfl fun K KP hK hP => ?_
                  simp only [go_sem, ↓reduceIte, reduceCtorEq, List.tail_cons, List.map_cons, List.map_nil, List.getD_cons_zero, List.getD_cons_succ, c11_0, c11_1]
                  apply hK; clear hK hP
                  refine aw_if (lb = []) (by simp only [go_sem, ↓reduceIte, reduceCtorEq, List.tail_cons, List.map_cons, List.map_nil, List.getD_cons_zero, List.getD_cons_succ, c11_0, c11_1, List.length_map, List.length_eq_zero_iff, Int.natCast_eq_zero]) (fun h14 => ?_) (fun h14 => ?_)
                  ·
                    by_cases c15_0 : plusS nilS ⟨ka, na, la⟩ kb = none
                    ·
                      refine aw_sreg {} rfl rfl fun K KP hK hP => ?_
                      simp only [go_sem, ↓reduceIte, reduceCtorEq, List.tail_cons, List.map_cons, List.map_nil, List.getD_cons_zero, List.getD_cons_succ, c11_0, c11_1, c15_0]
                      refine CallP.pan (by rw [c15_0] at hpb; exact hpb) (by simp only [go_sem]) ?_
                      try simp only [go_sem, ↓reduceIte, reduceCtorEq, List.tail_cons, List.map_cons, List.map_nil, List.getD_cons_zero, List.getD_cons_succ, c11_0, c11_1, c15_0]
                      refine hP _ _ _ fun env => ?_
                      rw [outS_none (show ofS (.mk k n t nl [x0, x1, x2]) = none by rw [hof]; simp only [h12, h14, if_true, if_false]; exact c15_0)]
                      simp [beyondA, go_sem]
                    ·
                      obtain ⟨c, hcs⟩ := Option.ne_none_iff_exists'.1 c15_0
                      refine aw_sreg {} rfl rfl fun K KP hK hP => ?_
                      simp only [go_sem, ↓reduceIte, reduceCtorEq, List.tail_cons, List.map_cons, List.map_nil, List.getD_cons_zero, List.getD_cons_succ, c11_0, c11_1, c15_0]
                      refine CallP.ret (by rw [hcs] at hpb; exact hpb) (by simp only [go_sem]) ?_
                      try simp only [go_sem, ↓reduceIte, reduceCtorEq, List.tail_cons, List.map_cons, List.map_nil, List.getD_cons_zero, List.getD_cons_succ, c11_0, c11_1, c15_0]
                      apply hK; clear hK hP
                      refine aw_ret ?_
                      refine ablock_ret.2 ?_
                      refine athen_ret.2 ?_
                      simp only [go_sem, ↓reduceIte, reduceCtorEq, List.tail_cons, List.map_cons, List.map_nil, List.getD_cons_zero, List.getD_cons_succ, c11_0, c11_1, c15_0, athen_ret] <;> (
                        rw [outS_some (show ofS (.mk k n t nl [x0, x1, x2]) = some c by rw [hof]; simp only [h12, h14, if_true, if_false]; exact hcs)])
                  ·
                    refine aw_skip ?_
                    refine ablock_normal.2 ?_
                    refine athen_normal.2 ?_
                    refine aw_sreg {} rfl rfl fun K KP hK hP => ?_
                    simp only [go_sem, ↓reduceIte, reduceCtorEq, List.tail_cons, List.map_cons, List.map_nil, List.getD_cons_zero, List.getD_cons_succ, c11_0, c11_1, List.replicate_succ]
                    have hcp := copy_call (.mk k n t nl [x0, x1, x2]) (by omega)
                    simp only [av_mk, List.map_cons, List.map_nil] at hcp
                    refine CallP.ret hcp (by simp only [go_sem]) ?_
                    try simp only [go_sem, ↓reduceIte, reduceCtorEq, List.tail_cons, List.map_cons, List.map_nil, List.getD_cons_zero, List.getD_cons_succ, c11_0, c11_1, List.replicate_succ]
                    apply hK; clear hK hP
                    refine aw_ret ?_
                    simp only [go_sem, ↓reduceIte, reduceCtorEq, List.tail_cons, List.map_cons, List.map_nil, List.getD_cons_zero, List.getD_cons_succ, c11_0, c11_1, athen_ret] <;> (
                      rw [outS_some (show ofS (.mk k n t nl [x0, x1, x2]) = some (atomS (.mk k n t nl [x0, x1, x2])) by rw [hof]; simp only [h12, h14, if_false])]
                      simp only [atomS, go_sem, termsA, List.map_cons, List.map_nil, Pt.row, cells_mk])
          ·
            refine aw_skip ?_
            refine ablock_normal.2 ?_
            refine athen_normal.2 ?_
            refine aw_sreg {} rfl rfl fun K KP hK hP => ?_
            simp only [go_sem, ↓reduceIte, reduceCtorEq, List.tail_cons, List.map_cons, List.map_nil, List.getD_cons_zero, List.getD_cons_succ, List.replicate_succ]
            refine CallP.ret (copy_call (.mk k n t nl l) (by omega)).av (by simp only [go_sem]) ?_
            try simp only [go_sem, ↓reduceIte, reduceCtorEq, List.tail_cons, List.map_cons, List.map_nil, List.getD_cons_zero, List.getD_cons_succ, List.replicate_succ]
            apply hK; clear hK hP
            refine aw_ret ?_
            simp only [go_sem, ↓reduceIte, reduceCtorEq, List.tail_cons, List.map_cons, List.map_nil, List.getD_cons_zero, List.getD_cons_succ, athen_ret] <;> (
              rw [outS_some (ofS_atomF (f := .mk k n t nl l) h2 h4 h6 h8 h10)]
              simp only [atomS, go_sem, termsA, List.map_cons, List.map_nil, Pt.row, cells_mk])
end Go.Ab
