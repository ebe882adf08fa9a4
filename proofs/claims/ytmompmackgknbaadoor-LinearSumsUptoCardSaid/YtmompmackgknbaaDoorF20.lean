/-
  THE REFERENCE's valid sums; sums of terms and sums added, as they are exported, of both.
-/
import Derived.Test.YtmompmackgknbaaDoorF19
set_option linter.unusedVariables false
set_option linter.unusedSimpArgs false
set_option maxRecDepth 100000
namespace Go.Ab
open Go Go.RowKit Go.Proofs

theorem refOfE_call (f : Fm) (hb : f.big ≤ 4611686018427387904) : PCall CX 13 [f.av] (· = sumE (ofE f)) := by
  refine pcall_mk 1 19 [.cell 2 39, .tmp 3] Tryd.func13 rfl (by decide) rfl rfl rfl ?_
  refine aw_sreg {} rfl (by simp only [allocObjs, go_sem]; rfl) fun K KP hK hP => ?_
  simp only [go_sem, ↓reduceIte]
  apply hK; clear hK hP
  refine aw_seq ?_
  refine aw_sreg {} rfl rfl fun K KP hK hP => ?_
  simp only [go_sem, ↓reduceIte]
  refine CallP.ret (refValid_call f hb) (by simp only [go_sem]) ?_
  try simp only [go_sem, ↓reduceIte]
  apply hK; clear hK hP
  refine aw_if (¬ validF f = true) (by simp only [go_sem, ↓reduceIte]) (fun h1 => ?_) (fun h1 => ?_)
  ·
    refine aw_sreg {} rfl rfl fun K KP hK hP => ?_
    simp only [go_sem, ↓reduceIte]
    apply hK; clear hK hP
    refine aw_ret ?_
    refine athen_ret.2 ?_
    simp only [go_sem, ↓reduceIte, athen_ret] <;> (
      simp [sumE, ofE, h1, nilS, go_sem, termsA])
  ·
    have hv : validF f = true := Classical.not_not.1 h1
    have hvb := validF_big hv
    refine aw_skip ?_
    refine athen_normal.2 ?_
    refine aw_sreg {} rfl (by simp only [allocObjs, go_sem]; rfl) fun K KP hK hP => ?_
    simp only [go_sem, ↓reduceIte]
    refine CallP.ofR (refOf_call f hv (by omega)) (by simp only [go_sem]) fun s hs => ?_
    try simp only [go_sem, ↓reduceIte]
    apply hK; clear hK hP
    refine aw_seq ?_
    refine aw_sreg {} rfl rfl fun K KP hK hP => ?_
    simp only [go_sem, ↓reduceIte]
    apply hK; clear hK hP
    refine aw_if (ofS f = none) (by simp only [go_sem, ↓reduceIte, Nat.reduceEqDiff]; cases ofS f <;> simp) (fun h4 => ?_) (fun h4 => ?_)
    ·
      refine aw_sreg {} rfl rfl fun K KP hK hP => ?_
      simp only [go_sem, ↓reduceIte]
      apply hK; clear hK hP
      refine aw_ret ?_
      refine athen_ret.2 ?_
      simp only [go_sem, ↓reduceIte, athen_ret] <;> (
        simp [sumE, ofE, hv, h4, nilS, go_sem, termsA])
    ·
      obtain ⟨a, ha⟩ := Option.ne_none_iff_exists'.1 h4
      have hsa := hs a ha
      subst hsa
      refine aw_skip ?_
      refine athen_normal.2 ?_
      refine aw_sreg {} rfl rfl fun K KP hK hP => ?_
      simp only [go_sem, ↓reduceIte]
      apply hK; clear hK hP
      refine aw_ret ?_
      simp only [go_sem, ↓reduceIte, athen_ret] <;> (
        simp [sumE, ofE, hv, ha, go_sem])
theorem rvalid_call (k : Int) (nl : Bool) (l : List Pt) (hb : ∀ p ∈ l, p.t.big ≤ 4611686018427387904) (hl : l.length ≤ 4611686018427387904) : PCall CX 50 [Sm.av ⟨k, nl, l⟩] (· = .ret (.bool (validSm ⟨k, nl, l⟩))) := by
  refine pcall_mk 0 53 [.tmp 2] Tryd.func50 rfl (by decide) rfl rfl rfl ?_
  simp only [go_sem]
  refine aw_sreg {} rfl rfl fun K KP hK hP => ?_
  simp only [go_sem, ↓reduceIte]
  apply hK; clear hK hP
  refine aw_seq ?_
  refine aw_sreg {} rfl rfl fun K KP hK hP => ?_
  simp only [go_sem, ↓reduceIte]
  refine CallP.ret (small34_call k) (by simp only [go_sem]) ?_
  try simp only [go_sem, ↓reduceIte]
  apply hK; clear hK hP
  refine aw_if (¬ within k = true) (by simp only [go_sem, ↓reduceIte]) (fun h1 => ?_) (fun h1 => ?_)
  ·
    refine aw_sreg {} rfl rfl fun K KP hK hP => ?_
    simp only [go_sem, ↓reduceIte]
    apply hK; clear hK hP
    refine aw_ret ?_
    refine athen_ret.2 ?_
    simp only [go_sem, ↓reduceIte, athen_ret] <;> (
      simp [validSm, h1])
  ·
    refine aw_skip ?_
    refine athen_normal.2 ?_
    refine aw_seq ?_
    refine aw_sreg {} rfl rfl fun K KP hK hP => ?_
    simp only [go_sem, ↓reduceIte]
    apply hK; clear hK hP
    refine aw_block ?_
    refine aw_loop' (fun dd st => ∃ (i : Nat), (i ≤ l.length) ∧ ((List.range i).all (partOK l) = true) ∧ l.length - i = dd ∧ [] = st.σ ∧ st.env 1 = .rptr [.int .i64 k, termsA nl (l.map Pt.row)] ∧ st.env 3 = .int .i64 (i : Nat)) (fun dd st hJ => ?_) ?_
    ·
      obtain ⟨env0, σ0, nx0⟩ := st
      obtain ⟨i, hp0_0, hp0_1, hd0, hs0, e0_1, e0_3⟩ := hJ
      dsimp only at hs0  e0_1 e0_3
      subst hd0; subst hs0
      refine aw_forget' 0 rfl ?_
      refine aw_seq ?_
      refine aw_sreg {} rfl rfl fun K KP hK hP => ?_
      simp only [go_sem, ↓reduceIte, e0_1, e0_3]
      apply hK; clear hK hP
      refine aw_if (i < l.length) (by simp only [go_sem, ↓reduceIte, e0_1, e0_3]) (fun h4 => ?_) (fun h4 => ?_)
      ·
        have hw1 : IntKind.wrap .i64 ((i : Int) + 1) = ((i + 1 : Nat) : Int) := by rw [wrap64 (by omega) (by omega)]; omega
        have hbi := hb _ (List.getElem_mem h4)
        have hget : l[i]? = some l[i] := List.getElem?_eq_getElem h4
        have hra := range_all l h4 hp0_1
        refine aw_skip ?_
        refine athen_normal.2 ?_
        refine aw_seq ?_
        refine aw_block ?_
        refine aw_sreg {} rfl (by simp only [allocObjs, go_sem]; rfl) fun K KP hK hP => ?_
        simp only [go_sem, ↓reduceIte, e0_1, e0_3, h4, getD_rows h4, hw1]
        apply hK; clear hK hP
        refine aw_spdrawB {} [] [0, 1, 3, 7, 15, 31, 63, 127, 255, 511, 1023, 2047, 4095, 8191, 16383, 32767, 65535, 131071, 262143, 524287, 1048575, 524287, 2621439, 8388607, 16777215, 33554431, 524287, 67633151, 268435455, 536870911, 1073741823, 2147483647] [0, 1, 2, 3, 4, 5, 6, 7, 8, 9, 10, 11, 12, 13, 14, 15, 16, 17, 18, 19, 20, 21, 22, 23, 24, 25, 26, 27, 28, 29, 30, 31] 21 51 52 (.bool (decide (partOK l i = false))) rfl mixed (by kernel_rfl) rfl rfl (by simp only [List.filterMap_cons, List.filterMap_nil, List.getElem?_toArray, List.getElem?_cons_zero, List.getElem?_cons_succ]; rfl) (fun K KP hK hP => ?_) (fun junk7 => ?_)
        ·
          by_cases c7_0 : l[i].c = 0
          ·
            simp only [go_sem, ↓reduceIte, e0_1, e0_3, h4, getD_rows h4, hw1, c7_0]
            refine hK _ (by first | rfl | (simp only [go_sem, ↓reduceIte, e0_1, e0_3, h4, getD_rows h4, hw1, c7_0])) rfl ?_
            have hpf : partOK l i = false := by unfold partOK; rw [hget]; simp [c7_0]
            simp only [go_sem, ↓reduceIte, Nat.reduceEqDiff, hpf]
          ·
            by_cases c7_1 : within l[i].c = false
            ·
              simp only [go_sem, ↓reduceIte, e0_1, e0_3, h4, getD_rows h4, hw1, c7_0, c7_1]
              refine CallP.ret (small34_call _) (by simp only [go_sem]) ?_
              try simp only [go_sem, ↓reduceIte, e0_1, e0_3, h4, getD_rows h4, hw1, c7_0, c7_1]
              refine hK _ (by first | rfl | (simp only [go_sem, ↓reduceIte, e0_1, e0_3, h4, getD_rows h4, hw1, c7_0, c7_1])) rfl ?_
              have hpf : partOK l i = false := by unfold partOK; rw [hget]; simp [c7_1]
              simp only [go_sem, ↓reduceIte, Nat.reduceEqDiff, hpf]
            ·
              by_cases c7_2 : validF l[i].t = false
              ·
                simp only [go_sem, ↓reduceIte, e0_1, e0_3, h4, getD_rows h4, hw1, c7_0, c7_1, c7_2]
                refine CallP.ret (small34_call _) (by simp only [go_sem]) ?_
                try simp only [go_sem, ↓reduceIte, e0_1, e0_3, h4, getD_rows h4, hw1, c7_0, c7_1, c7_2]
                refine CallP.ret (refValid_call _ hbi) (by simp only [go_sem]) ?_
                try simp only [go_sem, ↓reduceIte, e0_1, e0_3, h4, getD_rows h4, hw1, c7_0, c7_1, c7_2]
                refine hK _ (by first | rfl | (simp only [go_sem, ↓reduceIte, e0_1, e0_3, h4, getD_rows h4, hw1, c7_0, c7_1, c7_2])) rfl ?_
                have hpf : partOK l i = false := by unfold partOK; rw [hget]; simp [c7_2]
                simp only [go_sem, ↓reduceIte, Nat.reduceEqDiff, hpf]
              ·
                by_cases c7_3 : ¬ 0 < i
                ·
                  simp only [go_sem, ↓reduceIte, e0_1, e0_3, h4, getD_rows h4, hw1, c7_0, c7_1, c7_2, c7_3]
                  refine CallP.ret (small34_call _) (by simp only [go_sem]) ?_
                  try simp only [go_sem, ↓reduceIte, e0_1, e0_3, h4, getD_rows h4, hw1, c7_0, c7_1, c7_2, c7_3]
                  refine CallP.ret (refValid_call _ hbi) (by simp only [go_sem]) ?_
                  try simp only [go_sem, ↓reduceIte, e0_1, e0_3, h4, getD_rows h4, hw1, c7_0, c7_1, c7_2, c7_3]
                  refine hK _ (by first | rfl | (simp only [go_sem, ↓reduceIte, e0_1, e0_3, h4, getD_rows h4, hw1, c7_0, c7_1, c7_2, c7_3])) rfl ?_
                  have t1 : within l[i].c = true := by simpa using c7_1
                  have t2 : validF l[i].t = true := by simpa using c7_2
                  have hd : decide (i = 0) = true := decide_eq_true (by omega)
                  have hpf : partOK l i = true := by unfold partOK; rw [hget]; simp only [t1, t2, hd]; simp [c7_0]
                  simp only [go_sem, ↓reduceIte, Nat.reduceEqDiff, hpf] <;> simp
                ·
                  replace c7_3 := Classical.not_not.1 c7_3
                  have hpos : 0 < i := c7_3
                  have hwm : IntKind.wrap .i64 ((i : Int) - 1) = ((i - 1 : Nat) : Int) := by rw [wrap64 (by omega) (by omega)]; omega
                  have h4' : i - 1 < l.length := by omega
                  have hgj := getD_rows h4'
                  have hbj := hb _ (List.getElem_mem h4')
                  simp only [go_sem, ↓reduceIte, e0_1, e0_3, h4, getD_rows h4, hw1, c7_0, c7_1, c7_2, c7_3, hpos, hwm, h4', hgj]
                  refine CallP.ret (small34_call _) (by simp only [go_sem]) ?_
                  try simp only [go_sem, ↓reduceIte, e0_1, e0_3, h4, getD_rows h4, hw1, c7_0, c7_1, c7_2, c7_3, hpos, hwm, h4', hgj]
                  refine CallP.ret (refValid_call _ hbi) (by simp only [go_sem]) ?_
                  try simp only [go_sem, ↓reduceIte, e0_1, e0_3, h4, getD_rows h4, hw1, c7_0, c7_1, c7_2, c7_3, hpos, hwm, h4', hgj]
                  refine CallP.ret (refCompare_call _ hbj _) (by simp only [go_sem]) ?_
                  try simp only [go_sem, ↓reduceIte, e0_1, e0_3, h4, getD_rows h4, hw1, c7_0, c7_1, c7_2, c7_3, hpos, hwm, h4', hgj]
                  refine hK _ (by first | rfl | (simp only [go_sem, ↓reduceIte, e0_1, e0_3, h4, getD_rows h4, hw1, c7_0, c7_1, c7_2, c7_3, hpos, hwm, h4', hgj])) rfl ?_
                  have t1 : within l[i].c = true := by simpa using c7_1
                  have t2 : validF l[i].t = true := by simpa using c7_2
                  have hj : l[i - 1]? = some l[i - 1] := List.getElem?_eq_getElem h4'
                  have hd : decide (i = 0) = false := decide_eq_false (by omega)
                  have hpf : partOK l i = !decide (0 ≤ cmpF l[i - 1].t l[i].t) := by unfold partOK; rw [hget]; simp only [t1, t2, hj, hd]; simp [c7_0]
                  simp only [go_sem, ↓reduceIte, Nat.reduceEqDiff, hpf] <;> simp
        ·
          refine aw_if (partOK l i = false) (by simp only [go_sem, ↓reduceIte, e0_1, e0_3, h4, getD_rows h4, hw1]) (fun h7 => ?_) (fun h7 => ?_)
          ·
            refine aw_sreg {} rfl rfl fun K KP hK hP => ?_
            simp only [go_sem, ↓reduceIte, e0_1, e0_3, h4, getD_rows h4, hw1]
            apply hK; clear hK hP
            refine aw_ret ?_
            refine ablock_ret.2 ?_
            refine athen_ret.2 ?_
            refine afor_zero ?_
            refine athen_ret.2 ?_
            refine ablock_ret.2 ?_
            refine athen_ret.2 ?_
            simp only [go_sem, ↓reduceIte, e0_1, e0_3, h4, getD_rows h4, hw1, athen_ret] <;> (
              simp [validSm, range_bad l h4 h7])
          ·
            refine aw_skip ?_
            refine ablock_normal.2 ?_
            refine athen_normal.2 ?_
            refine aw_lreg {} rfl rfl fun K KP hK hP => ?_
            simp only [go_sem, ↓reduceIte, e0_1, e0_3, h4, getD_rows h4, hw1]
            apply hK; clear hK hP
            refine afor_zero ?_
            refine athen_normal.2 ?_
            refine ⟨_, ?_, i + 1, ?_, ?_, rfl, rfl, ?_, ?_⟩
            · omega
            · first | omega | trivial | assumption
            · rw [hra]; simpa using h7
            · simp only [go_sem, ↓reduceIte, e0_1, e0_3, h4, getD_rows h4, hw1] <;> try rfl
            · simp only [go_sem, ↓reduceIte, e0_1, e0_3, h4, getD_rows h4, hw1] <;> try rfl
      ·
        refine aw_exit ?_
        refine athen_exit.2 ?_
        refine afor_zero ?_
        refine athen_exit.2 ?_
        refine ablock_here ?_
        refine athen_normal.2 ?_
        refine aw_sreg {} rfl rfl fun K KP hK hP => ?_
        simp only [go_sem, ↓reduceIte, e0_1, e0_3]
        apply hK; clear hK hP
        refine aw_ret ?_
        simp only [go_sem, ↓reduceIte, e0_1, e0_3, athen_ret] <;> (
          have hi : i = l.length := by omega
          rw [hi] at hp0_1
          simp [validSm, hp0_1, Classical.not_not.1 h1])
    ·
      refine ⟨_, 0, ?_, ?_, rfl, ?_, ?_, ?_⟩
      · first | omega | trivial | assumption
      · rfl
      · first | rfl | (simp only [go_sem, ↓reduceIte])
      · simp only [go_sem, ↓reduceIte] <;> try rfl
      · simp only [go_sem, ↓reduceIte] <;> try rfl
end Go.Ab
