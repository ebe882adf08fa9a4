/-
  THE ROWS of a literal: the program's closure.
-/
import Derived.Test.YtmompmackgknbaaDoorF21
set_option linter.unusedVariables false
set_option linter.unusedSimpArgs false
set_option maxRecDepth 100000
namespace Go.Ab
open Go Go.RowKit Go.Proofs

abbrev notB : List UInt8 := [110, 111, 116]
abbrev leB : List UInt8 := [60, 61]
abbrev ltB : List UInt8 := [60]
abbrev eqB : List UInt8 := [61]
def oneS : Sm := ⟨1, true, []⟩
def bumpS (s : Sm) : Option Sm := plusS s oneS 1
/-- The rows of a comparison, out of the sums of both sides. -/
def rowsO (h : List UInt8) (nt : Bool) (a b : Option Sm) : Option (List Sm) := a.bind fun a => b.bind fun b => (plusS a b (-1)).bind fun low => (plusS b a (-1)).bind fun high =>
  if h = eqB then some [low, high] else if h = leB then (if nt = false then some [low] else (bumpS high).map ([·])) else if nt = false then (bumpS low).map ([·]) else some [high]
theorem fit_good {B : Nat} {s : Sm} (h : GoodS (Atom B) s) (hB : B ≤ 1000000000000) (hl : s.l.length ≤ 400000000000) : s.fit := by
  obtain ⟨hg, hw⟩ := h
  refine ⟨(within_iff _).1 hw, fun p hp => (within_iff _).1 (hg.ok p hp).2.1, fun p hp => ?_, hl⟩
  have := (hg.ok p hp).2.2.2.2
  omega
theorem oneS_fit : oneS.fit := ⟨by decide, fun p hp => (by cases hp), fun p hp => (by cases hp), by decide⟩
def rowsQ (r : Option (List Sm)) (σ1 : List Sm → Sto) (σ0 : Sto) (o : AOut) (σ' : Sto) : Prop := match r with
  | some rs => (∃ v, o = .ret v) ∧ σ' = σ1 rs
  | none => o = .pan beyondA ∧ σ' = σ0
theorem rowsQ_some {r : Option (List Sm)} {rs : List Sm} (h : r = some rs) {σ1 : List Sm → Sto} {σ0 : Sto} {o : AOut} {σ' : Sto} (hq : (∃ v, o = .ret v) ∧ σ' = σ1 rs) : rowsQ r σ1 σ0 o σ' := by subst h; exact hq
theorem rowsQ_none {r : Option (List Sm)} (h : r = none) {σ1 : List Sm → Sto} {σ0 : Sto} {o : AOut} {σ' : Sto} (hq : o = .pan beyondA ∧ σ' = σ0) : rowsQ r σ1 σ0 o σ' := by subst h; exact hq
theorem rows1_call (k n : Int) (t : List UInt8) (nl : Bool) (x0 x1 x2 : Fm) (hv1 : validF x1 = true) (hv2 : validF x2 = true) (h : List UInt8) (nt : Bool) (c0 : AV) (x : Nat × AObj) (n0 n1 n2 n3 nx : Nat) :
    ACall CX 44 [.ref 0 n0 0, .ref 2 n2 0, .ref 3 n3 0, .ref 1 n1 0] [(n0, .cells 24 (Fm.cells (.mk k n t nl [x0, x1, x2]))), (n1, .cells 4 [.bool nt]), (n2, .cells 9 [.str h]), (n3, .cells 43 [c0]), x] nx
      (fun o σ' _ => rowsQ (rowsO h nt (ofS x1) (ofS x2)) (fun rs => [(n0, .cells 24 (Fm.cells (.mk k n t nl [x0, x1, x2]))), (n1, .cells 4 [.bool nt]), (n2, .cells 9 [.str h]), (n3, .cells 43 [.vec 2 (rs.map Sm.cells)]), x])
        [(n0, .cells 24 (Fm.cells (.mk k n t nl [x0, x1, x2]))), (n1, .cells 4 [.bool nt]), (n2, .cells 9 [.str h]), (n3, .cells 43 [c0]), x] o σ') := by
  have hb1 := validF_big hv1
  have hb2 := validF_big hv2
  have ih1 := of_call' x1 hv1 (by omega)
  have ih2 := of_call' x2 hv2 (by omega)
  refine acall_cut ?_
  refine acall_mk 57 [] Tryd.func44 rfl (by decide) rfl rfl rfl ?_
  by_cases c0_0 : ofS x1 = none
  ·
    refine aw_spdraw {} [10, 11] [0, 1, 3, 7, 15, 0, 32, 96, 224, 511, 0, 0, 4095, 8191] [0, 1, 2, 3, 5, 6, 7, 8, 10, 11, 4, 9, 12, 13] mixed (by kernel_rfl) rfl (by simp only [allocObjs, go_sem]; rfl) (by simp only [List.filterMap_cons, List.filterMap_nil, List.getElem?_toArray, List.getElem?_cons_zero, List.getElem?_cons_succ]; rfl) fun K KP hK hP => ?_
    simp only [go_sem, ↓reduceIte, cells_mk, List.map_cons, List.map_nil, List.getD_cons_zero, List.getD_cons_succ, List.take_succ_cons, List.take_zero, c0_0]
    refine CallP.pan (by rw [c0_0] at ih1; exact ih1) (by simp only [go_sem]) ?_
    try simp only [go_sem, ↓reduceIte, cells_mk, List.map_cons, List.map_nil, List.getD_cons_zero, List.getD_cons_succ, List.take_succ_cons, List.take_zero, c0_0]
    refine hP _ _ _ fun env => rowsQ_none (by rw [c0_0]; rfl) ?_
    simp [go_sem, cells_mk]
  ·
    by_cases c0_1 : ofS x2 = none
    ·
      obtain ⟨a, ha⟩ := Option.ne_none_iff_exists'.1 c0_0
      refine aw_spdraw {} [10, 11] [0, 1, 3, 7, 15, 0, 32, 96, 224, 511, 0, 0, 4095, 8191] [0, 1, 2, 3, 5, 6, 7, 8, 10, 11, 4, 9, 12, 13] mixed (by kernel_rfl) rfl (by simp only [allocObjs, go_sem]; rfl) (by simp only [List.filterMap_cons, List.filterMap_nil, List.getElem?_toArray, List.getElem?_cons_zero, List.getElem?_cons_succ]; rfl) fun K KP hK hP => ?_
      simp only [go_sem, ↓reduceIte, cells_mk, List.map_cons, List.map_nil, List.getD_cons_zero, List.getD_cons_succ, List.take_succ_cons, List.take_zero, c0_0, c0_1]
      refine CallP.ret (by rw [ha] at ih1; exact ih1) (by simp only [go_sem]) ?_
      try simp only [go_sem, ↓reduceIte, cells_mk, List.map_cons, List.map_nil, List.getD_cons_zero, List.getD_cons_succ, List.take_succ_cons, List.take_zero, c0_0, c0_1]
      refine CallP.pan (by rw [c0_1] at ih2; exact ih2) (by simp only [go_sem]) ?_
      try simp only [go_sem, ↓reduceIte, cells_mk, List.map_cons, List.map_nil, List.getD_cons_zero, List.getD_cons_succ, List.take_succ_cons, List.take_zero, c0_0, c0_1]
      refine hP _ _ _ fun env => rowsQ_none (by rw [ha, c0_1]; rfl) ?_
      simp [go_sem, cells_mk]
    ·
      obtain ⟨a, ha⟩ := Option.ne_none_iff_exists'.1 c0_0
      obtain ⟨b, hb'⟩ := Option.ne_none_iff_exists'.1 c0_1
      have ga := ofS_good x1 hv1 a ha
      have gb := ofS_good x2 hv2 b hb'
      have ga1 : GoodS (Atom 40020000) a := ga.1.mono fun f hf => hf.mono (by omega)
      have gb1 : GoodS (Atom 40020000) b := gb.1.mono fun f hf => hf.mono (by omega)
      have fa := fit_good ga1 (by decide) (by omega)
      have fb := fit_good gb1 (by decide) (by omega)
      have hpl := plus_call a b (-1) fa fb (by decide) (by decide)
      have hph := plus_call b a (-1) fb fa (by decide) (by decide)
      refine aw_spdraw {} [10, 11] [0, 1, 3, 7, 15, 0, 32, 96, 224, 511, 0, 0, 4095, 8191] [0, 1, 2, 3, 5, 6, 7, 8, 10, 11, 4, 9, 12, 13] mixed (by kernel_rfl) rfl (by simp only [allocObjs, go_sem]; rfl) (by simp only [List.filterMap_cons, List.filterMap_nil, List.getElem?_toArray, List.getElem?_cons_zero, List.getElem?_cons_succ]; rfl) fun K KP hK hP => ?_
      simp only [go_sem, ↓reduceIte, cells_mk, List.map_cons, List.map_nil, List.getD_cons_zero, List.getD_cons_succ, List.take_succ_cons, List.take_zero, c0_0, c0_1]
      refine CallP.ret (by rw [ha] at ih1; exact ih1) (by simp only [go_sem]) ?_
      try simp only [go_sem, ↓reduceIte, cells_mk, List.map_cons, List.map_nil, List.getD_cons_zero, List.getD_cons_succ, List.take_succ_cons, List.take_zero, c0_0, c0_1]
      refine CallP.ret (by rw [hb'] at ih2; exact ih2) (by simp only [go_sem]) ?_
      try simp only [go_sem, ↓reduceIte, cells_mk, List.map_cons, List.map_nil, List.getD_cons_zero, List.getD_cons_succ, List.take_succ_cons, List.take_zero, c0_0, c0_1]
      apply hK; clear hK hP
      refine aw_sreg {} rfl (by simp only [allocObjs, go_sem]; rfl) fun K KP hK hP => ?_
      simp only [go_sem, ↓reduceIte, cells_mk, List.map_cons, List.map_nil, List.getD_cons_zero, List.getD_cons_succ, List.take_succ_cons, List.take_zero, c0_0, c0_1]
      apply hK; clear hK hP
      by_cases c2_0 : plusS a b (-1) = none
      ·
        refine aw_spdraw {} [6, 7] [0, 0, 3, 0, 0, 31, 0, 0, 255, 511] [0, 1, 3, 4, 6, 7, 2, 5, 8, 9] mixed (by kernel_rfl) rfl (by simp only [allocObjs, go_sem]; rfl) (by simp only [List.filterMap_cons, List.filterMap_nil, List.getElem?_toArray, List.getElem?_cons_zero, List.getElem?_cons_succ]; rfl) fun K KP hK hP => ?_
        simp only [go_sem, ↓reduceIte, cells_mk, List.map_cons, List.map_nil, List.getD_cons_zero, List.getD_cons_succ, List.take_succ_cons, List.take_zero, c0_0, c0_1, c2_0]
        refine CallP.pan (by rw [c2_0] at hpl; exact hpl) (by simp only [go_sem]) ?_
        try simp only [go_sem, ↓reduceIte, cells_mk, List.map_cons, List.map_nil, List.getD_cons_zero, List.getD_cons_succ, List.take_succ_cons, List.take_zero, c0_0, c0_1, c2_0]
        refine hP _ _ _ fun env => rowsQ_none (by rw [ha, hb']; simp only [rowsO, Option.bind_some, c2_0]; rfl) ?_
        simp [go_sem, cells_mk]
      ·
        by_cases c2_1 : plusS b a (-1) = none
        ·
          obtain ⟨low, hlow⟩ := Option.ne_none_iff_exists'.1 c2_0
          refine aw_spdraw {} [6, 7] [0, 0, 3, 0, 0, 31, 0, 0, 255, 511] [0, 1, 3, 4, 6, 7, 2, 5, 8, 9] mixed (by kernel_rfl) rfl (by simp only [allocObjs, go_sem]; rfl) (by simp only [List.filterMap_cons, List.filterMap_nil, List.getElem?_toArray, List.getElem?_cons_zero, List.getElem?_cons_succ]; rfl) fun K KP hK hP => ?_
          simp only [go_sem, ↓reduceIte, cells_mk, List.map_cons, List.map_nil, List.getD_cons_zero, List.getD_cons_succ, List.take_succ_cons, List.take_zero, c0_0, c0_1, c2_0, c2_1]
          refine CallP.ret (by rw [hlow] at hpl; exact hpl) (by simp only [go_sem]) ?_
          try simp only [go_sem, ↓reduceIte, cells_mk, List.map_cons, List.map_nil, List.getD_cons_zero, List.getD_cons_succ, List.take_succ_cons, List.take_zero, c0_0, c0_1, c2_0, c2_1]
          refine CallP.pan (by rw [c2_1] at hph; exact hph) (by simp only [go_sem]) ?_
          try simp only [go_sem, ↓reduceIte, cells_mk, List.map_cons, List.map_nil, List.getD_cons_zero, List.getD_cons_succ, List.take_succ_cons, List.take_zero, c0_0, c0_1, c2_0, c2_1]
          refine hP _ _ _ fun env => rowsQ_none (by rw [ha, hb']; simp only [rowsO, Option.bind_some, hlow, c2_1]; rfl) ?_
          simp [go_sem, cells_mk]
        ·
          obtain ⟨low, hlow⟩ := Option.ne_none_iff_exists'.1 c2_0
          obtain ⟨high, hhigh⟩ := Option.ne_none_iff_exists'.1 c2_1
          have glow := plusS_good hlow ga1 gb1
          have ghigh := plusS_good hhigh gb1 ga1
          have flow := fit_good glow.1 (by decide) (by omega)
          have fhigh := fit_good ghigh.1 (by decide) (by omega)
          refine aw_spdraw {} [6, 7] [0, 0, 3, 0, 0, 31, 0, 0, 255, 511] [0, 1, 3, 4, 6, 7, 2, 5, 8, 9] mixed (by kernel_rfl) rfl (by simp only [allocObjs, go_sem]; rfl) (by simp only [List.filterMap_cons, List.filterMap_nil, List.getElem?_toArray, List.getElem?_cons_zero, List.getElem?_cons_succ]; rfl) fun K KP hK hP => ?_
          simp only [go_sem, ↓reduceIte, cells_mk, List.map_cons, List.map_nil, List.getD_cons_zero, List.getD_cons_succ, List.take_succ_cons, List.take_zero, c0_0, c0_1, c2_0, c2_1]
          refine CallP.ret (by rw [hlow] at hpl; exact hpl) (by simp only [go_sem]) ?_
          try simp only [go_sem, ↓reduceIte, cells_mk, List.map_cons, List.map_nil, List.getD_cons_zero, List.getD_cons_succ, List.take_succ_cons, List.take_zero, c0_0, c0_1, c2_0, c2_1]
          refine CallP.ret (by rw [hhigh] at hph; exact hph) (by simp only [go_sem]) ?_
          try simp only [go_sem, ↓reduceIte, cells_mk, List.map_cons, List.map_nil, List.getD_cons_zero, List.getD_cons_succ, List.take_succ_cons, List.take_zero, c0_0, c0_1, c2_0, c2_1]
          apply hK; clear hK hP
          refine aw_block ?_
          refine aw_sreg {} rfl rfl fun K KP hK hP => ?_
          simp only [go_sem, ↓reduceIte, cells_mk, List.map_cons, List.map_nil, List.getD_cons_zero, List.getD_cons_succ, List.take_succ_cons, List.take_zero, c0_0, c0_1, c2_0, c2_1]
          apply hK; clear hK hP
          refine aw_if (h = eqB) (by simp only [go_sem, ↓reduceIte, cells_mk, List.map_cons, List.map_nil, List.getD_cons_zero, List.getD_cons_succ, List.take_succ_cons, List.take_zero, c0_0, c0_1, c2_0, c2_1]) (fun h4 => ?_) (fun h4 => ?_)
          ·
            refine aw_lreg {} rfl rfl fun K KP hK hP => ?_
            simp only [go_sem, ↓reduceIte, cells_mk, List.map_cons, List.map_nil, List.getD_cons_zero, List.getD_cons_succ, List.take_succ_cons, List.take_zero, c0_0, c0_1, c2_0, c2_1, List.replicate_succ]
            apply hK; clear hK hP
            refine ablock_normal.2 ?_
            simp only [go_sem, ↓reduceIte, cells_mk, List.map_cons, List.map_nil, List.getD_cons_zero, List.getD_cons_succ, List.take_succ_cons, List.take_zero, c0_0, c0_1, c2_0, c2_1, athen_ret] <;> (
              refine rowsQ_some (by rw [ha, hb']; simp only [rowsO, Option.bind_some, hlow, hhigh, if_pos h4]; rfl) ⟨⟨_, rfl⟩, ?_⟩
              simp [go_sem, cells_mk])
          ·
            refine aw_sregB {} 35 40 34 (.bool (decide (h = leB ∧ nt = false))) rfl rfl rfl (fun K KP hK hP => ?_) (fun junk6 => ?_)
            ·
              simp only [go_sem, ↓reduceIte, cells_mk, List.map_cons, List.map_nil, List.getD_cons_zero, List.getD_cons_succ, List.take_succ_cons, List.take_zero, c0_0, c0_1, c2_0, c2_1]
              repeat' (first | (refine hK _ (by first | rfl | (simp only [go_sem, ↓reduceIte, cells_mk, List.map_cons, List.map_nil, List.getD_cons_zero, List.getD_cons_succ, List.take_succ_cons, List.take_zero, c0_0, c0_1, c2_0, c2_1]; done) | (simp only [go_sem, ↓reduceIte, cells_mk, List.map_cons, List.map_nil, List.getD_cons_zero, List.getD_cons_succ, List.take_succ_cons, List.take_zero, c0_0, c0_1, c2_0, c2_1, *]; done)) rfl ?_) | ((refine gsel_cases (fun h => ?_) (fun h => ?_) <;> (try simp only [Bool.not_eq_true', Bool.not_eq_false', Bool.not_not, decide_eq_true_eq, decide_eq_false_iff_not, ite_eq_left_iff, ite_eq_right_iff] at h)) <;> simp only [go_sem, ↓reduceIte, cells_mk, List.map_cons, List.map_nil, List.getD_cons_zero, List.getD_cons_succ, List.take_succ_cons, List.take_zero, c0_0, c0_1, c2_0, c2_1, *]) | (simp only [go_sem, ↓reduceIte, cells_mk, List.map_cons, List.map_nil, List.getD_cons_zero, List.getD_cons_succ, List.take_succ_cons, List.take_zero, c0_0, c0_1, c2_0, c2_1]))
              all_goals (
                  try simp only [go_sem, ↓reduceIte, cells_mk, List.map_cons, List.map_nil, List.getD_cons_zero, List.getD_cons_succ, List.take_succ_cons, List.take_zero, c0_0, c0_1, c2_0, c2_1]
                  all_goals first | (simp_all [List.length_pos_iff]; done) | (simp_all; omega))
            ·
              refine aw_if (h = leB ∧ nt = false) (by simp only [go_sem, ↓reduceIte, cells_mk, List.map_cons, List.map_nil, List.getD_cons_zero, List.getD_cons_succ, List.take_succ_cons, List.take_zero, c0_0, c0_1, c2_0, c2_1]) (fun h6 => ?_) (fun h6 => ?_)
              ·
                refine aw_lreg {} rfl rfl fun K KP hK hP => ?_
                simp only [go_sem, ↓reduceIte, cells_mk, List.map_cons, List.map_nil, List.getD_cons_zero, List.getD_cons_succ, List.take_succ_cons, List.take_zero, c0_0, c0_1, c2_0, c2_1, List.replicate_succ]
                apply hK; clear hK hP
                refine ablock_normal.2 ?_
                simp only [go_sem, ↓reduceIte, cells_mk, List.map_cons, List.map_nil, List.getD_cons_zero, List.getD_cons_succ, List.take_succ_cons, List.take_zero, c0_0, c0_1, c2_0, c2_1, athen_ret] <;> (
                  refine rowsQ_some (by rw [ha, hb']; simp only [rowsO, Option.bind_some, hlow, hhigh, if_neg h4, if_pos h6.1, if_pos h6.2]; rfl) ⟨⟨_, rfl⟩, ?_⟩
                  simp [go_sem, cells_mk])
              ·
                refine aw_sreg {} rfl rfl fun K KP hK hP => ?_
                simp only [go_sem, ↓reduceIte, cells_mk, List.map_cons, List.map_nil, List.getD_cons_zero, List.getD_cons_succ, List.take_succ_cons, List.take_zero, c0_0, c0_1, c2_0, c2_1]
                apply hK; clear hK hP
                refine aw_if (h = leB) (by simp only [go_sem, ↓reduceIte, cells_mk, List.map_cons, List.map_nil, List.getD_cons_zero, List.getD_cons_succ, List.take_succ_cons, List.take_zero, c0_0, c0_1, c2_0, c2_1]) (fun h8 => ?_) (fun h8 => ?_)
                ·
                  have hnt : ¬ nt = false := fun e => h6 ⟨h8, e⟩
                  by_cases c9_0 : bumpS high = none
                  ·
                    refine aw_lreg {} rfl rfl fun K KP hK hP => ?_
                    simp only [go_sem, ↓reduceIte, cells_mk, List.map_cons, List.map_nil, List.getD_cons_zero, List.getD_cons_succ, List.take_succ_cons, List.take_zero, c0_0, c0_1, c2_0, c2_1, c9_0, List.replicate_succ]
                    have hbm := plus_call high oneS 1 fhigh oneS_fit (by decide) (by decide)
                    rw [show plusS high oneS 1 = none from c9_0] at hbm
                    refine CallP.pan hbm (by simp only [go_sem]) ?_
                    try simp only [go_sem, ↓reduceIte, cells_mk, List.map_cons, List.map_nil, List.getD_cons_zero, List.getD_cons_succ, List.take_succ_cons, List.take_zero, c0_0, c0_1, c2_0, c2_1, c9_0, List.replicate_succ]
                    refine hP _ _ _ fun env => rowsQ_none (by rw [ha, hb']; simp only [rowsO, Option.bind_some, hlow, hhigh, if_neg h4, if_pos h8, if_neg hnt, c9_0]; rfl) ?_
                    simp [go_sem, cells_mk]
                  ·
                    obtain ⟨s, hs⟩ := Option.ne_none_iff_exists'.1 c9_0
                    have hbm := plus_call high oneS 1 fhigh oneS_fit (by decide) (by decide)
                    rw [show plusS high oneS 1 = some s from hs] at hbm
                    refine aw_lreg {} rfl rfl fun K KP hK hP => ?_
                    simp only [go_sem, ↓reduceIte, cells_mk, List.map_cons, List.map_nil, List.getD_cons_zero, List.getD_cons_succ, List.take_succ_cons, List.take_zero, c0_0, c0_1, c2_0, c2_1, c9_0, List.replicate_succ]
                    refine CallP.ret hbm (by simp only [go_sem]) ?_
                    try simp only [go_sem, ↓reduceIte, cells_mk, List.map_cons, List.map_nil, List.getD_cons_zero, List.getD_cons_succ, List.take_succ_cons, List.take_zero, c0_0, c0_1, c2_0, c2_1, c9_0, List.replicate_succ]
                    apply hK; clear hK hP
                    refine ablock_normal.2 ?_
                    simp only [go_sem, ↓reduceIte, cells_mk, List.map_cons, List.map_nil, List.getD_cons_zero, List.getD_cons_succ, List.take_succ_cons, List.take_zero, c0_0, c0_1, c2_0, c2_1, c9_0, athen_ret] <;> (
                      refine rowsQ_some (by rw [ha, hb']; simp only [rowsO, Option.bind_some, hlow, hhigh, if_neg h4, if_pos h8, if_neg hnt, hs]; rfl) ⟨⟨_, rfl⟩, ?_⟩
                      simp [go_sem, cells_mk])
                ·
                  refine aw_sreg {} rfl rfl fun K KP hK hP => ?_
                  simp only [go_sem, ↓reduceIte, cells_mk, List.map_cons, List.map_nil, List.getD_cons_zero, List.getD_cons_succ, List.take_succ_cons, List.take_zero, c0_0, c0_1, c2_0, c2_1]
                  apply hK; clear hK hP
                  refine aw_if (nt = false) (by simp only [go_sem, ↓reduceIte, cells_mk, List.map_cons, List.map_nil, List.getD_cons_zero, List.getD_cons_succ, List.take_succ_cons, List.take_zero, c0_0, c0_1, c2_0, c2_1]) (fun h10 => ?_) (fun h10 => ?_)
                  ·
                    by_cases c11_0 : bumpS low = none
                    ·
                      refine aw_lreg {} rfl rfl fun K KP hK hP => ?_
                      simp only [go_sem, ↓reduceIte, cells_mk, List.map_cons, List.map_nil, List.getD_cons_zero, List.getD_cons_succ, List.take_succ_cons, List.take_zero, c0_0, c0_1, c2_0, c2_1, c11_0, List.replicate_succ]
                      have hbm := plus_call low oneS 1 flow oneS_fit (by decide) (by decide)
                      rw [show plusS low oneS 1 = none from c11_0] at hbm
                      refine CallP.pan hbm (by simp only [go_sem]) ?_
                      try simp only [go_sem, ↓reduceIte, cells_mk, List.map_cons, List.map_nil, List.getD_cons_zero, List.getD_cons_succ, List.take_succ_cons, List.take_zero, c0_0, c0_1, c2_0, c2_1, c11_0, List.replicate_succ]
                      refine hP _ _ _ fun env => rowsQ_none (by rw [ha, hb']; simp only [rowsO, Option.bind_some, hlow, hhigh, if_neg h4, if_neg h8, if_pos h10, c11_0]; rfl) ?_
                      simp [go_sem, cells_mk]
                    ·
                      obtain ⟨s, hs⟩ := Option.ne_none_iff_exists'.1 c11_0
                      have hbm := plus_call low oneS 1 flow oneS_fit (by decide) (by decide)
                      rw [show plusS low oneS 1 = some s from hs] at hbm
                      refine aw_lreg {} rfl rfl fun K KP hK hP => ?_
                      simp only [go_sem, ↓reduceIte, cells_mk, List.map_cons, List.map_nil, List.getD_cons_zero, List.getD_cons_succ, List.take_succ_cons, List.take_zero, c0_0, c0_1, c2_0, c2_1, c11_0, List.replicate_succ]
                      refine CallP.ret hbm (by simp only [go_sem]) ?_
                      try simp only [go_sem, ↓reduceIte, cells_mk, List.map_cons, List.map_nil, List.getD_cons_zero, List.getD_cons_succ, List.take_succ_cons, List.take_zero, c0_0, c0_1, c2_0, c2_1, c11_0, List.replicate_succ]
                      apply hK; clear hK hP
                      refine ablock_normal.2 ?_
                      simp only [go_sem, ↓reduceIte, cells_mk, List.map_cons, List.map_nil, List.getD_cons_zero, List.getD_cons_succ, List.take_succ_cons, List.take_zero, c0_0, c0_1, c2_0, c2_1, c11_0, athen_ret] <;> (
                        refine rowsQ_some (by rw [ha, hb']; simp only [rowsO, Option.bind_some, hlow, hhigh, if_neg h4, if_neg h8, if_pos h10, hs]; rfl) ⟨⟨_, rfl⟩, ?_⟩
                        simp [go_sem, cells_mk])
                  ·
                    refine aw_lreg {} rfl rfl fun K KP hK hP => ?_
                    simp only [go_sem, ↓reduceIte, cells_mk, List.map_cons, List.map_nil, List.getD_cons_zero, List.getD_cons_succ, List.take_succ_cons, List.take_zero, c0_0, c0_1, c2_0, c2_1, List.replicate_succ]
                    apply hK; clear hK hP
                    refine ablock_normal.2 ?_
                    simp only [go_sem, ↓reduceIte, cells_mk, List.map_cons, List.map_nil, List.getD_cons_zero, List.getD_cons_succ, List.take_succ_cons, List.take_zero, c0_0, c0_1, c2_0, c2_1, athen_ret] <;> (
                      refine rowsQ_some (by rw [ha, hb']; simp only [rowsO, Option.bind_some, hlow, hhigh, if_neg h4, if_neg h8, if_neg h10]; rfl) ⟨⟨_, rfl⟩, ?_⟩
                      simp [go_sem, cells_mk])
end Go.Ab
