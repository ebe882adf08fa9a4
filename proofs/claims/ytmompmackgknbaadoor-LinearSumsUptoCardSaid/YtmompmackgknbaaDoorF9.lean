/-
  SUMS that are valid.
-/
import Derived.Test.YtmompmackgknbaaDoorF8
set_option linter.unusedVariables false
set_option linter.unusedSimpArgs false
set_option maxRecDepth 100000
namespace Go.Ab
open Go Go.RowKit Go.Proofs

@[go_sem] theorem take4 (f : Fm) : List.take 4 f.cells = f.cells := List.take_of_length_le (by rw [cells_length]; omega)
def validF (t : Fm) : Bool := (validS t 20000 100).1
def partOK (l : List Pt) (i : Nat) : Bool := match l[i]? with
  | some p => !decide (p.c = 0) && (within p.c && (validF p.t && (decide (i = 0) || match l[i - 1]? with
    | some q => !decide (0 ≤ cmpF q.t p.t)
    | none => true)))
  | none => true
def validSm (s : Sm) : Bool := (List.range s.l.length).all (partOK s.l) && within s.k
theorem range_all (l : List Pt) {i : Nat} (h : i < l.length) (h' : (List.range i).all (partOK l) = true) : (List.range (i + 1)).all (partOK l) = partOK l i := by
  rw [List.range_succ, List.all_append, h']; simp
theorem range_bad (l : List Pt) {i : Nat} (h : i < l.length) (h' : partOK l i = false) : (List.range l.length).all (partOK l) = false := by
  rw [List.all_eq_false]
  exact ⟨i, List.mem_range.2 h, by simp [h']⟩
theorem lvalid_call (k : Int) (nl : Bool) (l : List Pt) (hb : ∀ p ∈ l, p.t.big ≤ 4611686018427387904) (hl : l.length ≤ 4611686018427387904) : PCall CX 36 [Sm.av ⟨k, nl, l⟩] (· = .ret (.bool (validSm ⟨k, nl, l⟩))) := by
  refine pcall_mk 0 49 [.tmp 2] Tryd.func36 rfl (by decide) rfl rfl rfl ?_
  simp only [go_sem]
  refine aw_sreg {} rfl rfl fun K KP hK hP => ?_
  simp only [go_sem, ↓reduceIte]
  apply hK; clear hK hP
  refine aw_seq ?_
  refine aw_sreg {} rfl rfl fun K KP hK hP => ?_
  simp only [go_sem, ↓reduceIte]
  apply hK; clear hK hP
  refine aw_block ?_
  refine aw_loop' (fun dd st => ∃ (i : Nat), (i ≤ l.length) ∧ ((List.range i).all (partOK l) = true) ∧ l.length - i = dd ∧ [] = st.σ ∧ st.env 1 = .rptr [.int .i64 k, termsA nl (l.map Pt.row)] ∧ st.env 6 = termsA nl (l.map Pt.row) ∧ st.env 7 = .int .i64 l.length ∧ st.env 8 = .int .i64 (i : Nat)) (fun dd st hJ => ?_) ?_
  ·
    obtain ⟨env0, σ0, nx0⟩ := st
    obtain ⟨i, hp0_0, hp0_1, hd0, hs0, e0_1, e0_6, e0_7, e0_8⟩ := hJ
    dsimp only at hs0  e0_1 e0_6 e0_7 e0_8
    subst hd0; subst hs0
    refine aw_forget' 0 rfl ?_
    refine aw_sreg {} rfl rfl fun K KP hK hP => ?_
    simp only [go_sem, ↓reduceIte, e0_1, e0_6, e0_7, e0_8]
    apply hK; clear hK hP
    refine aw_seq ?_
    refine aw_if (i < l.length) (by simp only [go_sem, ↓reduceIte, e0_1, e0_6, e0_7, e0_8]) (fun h2 => ?_) (fun h2 => ?_)
    ·
      have hw1 : IntKind.wrap .i64 ((i : Int) + 1) = ((i + 1 : Nat) : Int) := by rw [wrap64 (by omega) (by omega)]; omega
      have hbi := hb _ (List.getElem_mem h2)
      have hget : l[i]? = some l[i] := List.getElem?_eq_getElem h2
      have hra := range_all l h2 hp0_1
      refine aw_skip ?_
      refine athen_normal.2 ?_
      refine aw_seq ?_
      refine aw_block ?_
      refine aw_sreg {} rfl (by simp only [allocObjs, go_sem]; rfl) fun K KP hK hP => ?_
      simp only [go_sem, ↓reduceIte, e0_1, e0_6, e0_7, e0_8, h2, getD_rows h2, hw1]
      apply hK; clear hK hP
      by_cases c4_0 : l[i].c = 0
      ·
        refine aw_sdraw {} [] [0, 1, 3, 7, 15, 31, 63, 127, 255, 511, 1023, 2047, 4095, 8191, 16383, 32767, 65535, 131071, 262143, 524287, 1048575, 524287, 2621439, 8388607, 16777215, 33554431, 524287, 67633151, 268435455, 536870911, 1073741823, 2147483647] mixed (by kernel_rfl) rfl rfl fun K KP hK hP => ?_
        simp only [go_sem, ↓reduceIte, e0_1, e0_6, e0_7, e0_8, h2, getD_rows h2, hw1, c4_0, show ∀ t : Fm, (validS t 20000 100).1 = validF t from fun _ => rfl]
        apply hK; clear hK hP
        refine aw_if (True) (by simp only [go_sem, ↓reduceIte, e0_1, e0_6, e0_7, e0_8, h2, getD_rows h2, hw1, c4_0]) (fun h4 => ?_) (fun h4 => ?_)
        ·
          refine aw_sreg {} rfl rfl fun K KP hK hP => ?_
          simp only [go_sem, ↓reduceIte, e0_1, e0_6, e0_7, e0_8, h2, getD_rows h2, hw1, c4_0]
          apply hK; clear hK hP
          refine aw_ret ?_
          refine ablock_ret.2 ?_
          refine athen_ret.2 ?_
          refine afor_zero ?_
          refine athen_ret.2 ?_
          refine ablock_ret.2 ?_
          refine athen_ret.2 ?_
          simp only [go_sem, ↓reduceIte, e0_1, e0_6, e0_7, e0_8, h2, getD_rows h2, hw1, c4_0, athen_ret] <;> (
            have hpf : partOK l i = false := by unfold partOK; rw [hget]; simp [c4_0]
            simp [validSm, range_bad l h2 hpf])
        ·
          exact absurd trivial h4
      ·
        by_cases c4_1 : within l[i].c = false
        ·
          refine aw_sdraw {} [] [0, 1, 3, 7, 15, 31, 63, 127, 255, 511, 1023, 2047, 4095, 8191, 16383, 32767, 65535, 131071, 262143, 524287, 1048575, 524287, 2621439, 8388607, 16777215, 33554431, 524287, 67633151, 268435455, 536870911, 1073741823, 2147483647] mixed (by kernel_rfl) rfl rfl fun K KP hK hP => ?_
          simp only [go_sem, ↓reduceIte, e0_1, e0_6, e0_7, e0_8, h2, getD_rows h2, hw1, c4_0, c4_1, show ∀ t : Fm, (validS t 20000 100).1 = validF t from fun _ => rfl]
          refine CallP.ret (within_call _) (by simp only [go_sem]) ?_
          try simp only [go_sem, ↓reduceIte, e0_1, e0_6, e0_7, e0_8, h2, getD_rows h2, hw1, c4_0, c4_1, show ∀ t : Fm, (validS t 20000 100).1 = validF t from fun _ => rfl]
          apply hK; clear hK hP
          refine aw_if (True) (by simp only [go_sem, ↓reduceIte, e0_1, e0_6, e0_7, e0_8, h2, getD_rows h2, hw1, c4_0, c4_1]) (fun h4 => ?_) (fun h4 => ?_)
          ·
            refine aw_sreg {} rfl rfl fun K KP hK hP => ?_
            simp only [go_sem, ↓reduceIte, e0_1, e0_6, e0_7, e0_8, h2, getD_rows h2, hw1, c4_0, c4_1]
            apply hK; clear hK hP
            refine aw_ret ?_
            refine ablock_ret.2 ?_
            refine athen_ret.2 ?_
            refine afor_zero ?_
            refine athen_ret.2 ?_
            refine ablock_ret.2 ?_
            refine athen_ret.2 ?_
            simp only [go_sem, ↓reduceIte, e0_1, e0_6, e0_7, e0_8, h2, getD_rows h2, hw1, c4_0, c4_1, athen_ret] <;> (
              have hpf : partOK l i = false := by unfold partOK; rw [hget]; simp [c4_1]
              simp [validSm, range_bad l h2 hpf])
          ·
            exact absurd trivial h4
        ·
          by_cases c4_2 : validF l[i].t = false
          ·
            refine aw_sdraw {} [] [0, 1, 3, 7, 15, 31, 63, 127, 255, 511, 1023, 2047, 4095, 8191, 16383, 32767, 65535, 131071, 262143, 524287, 1048575, 524287, 2621439, 8388607, 16777215, 33554431, 524287, 67633151, 268435455, 536870911, 1073741823, 2147483647] mixed (by kernel_rfl) rfl rfl fun K KP hK hP => ?_
            simp only [go_sem, ↓reduceIte, e0_1, e0_6, e0_7, e0_8, h2, getD_rows h2, hw1, c4_0, c4_1, c4_2, show ∀ t : Fm, (validS t 20000 100).1 = validF t from fun _ => rfl]
            refine CallP.ret (within_call _) (by simp only [go_sem]) ?_
            try simp only [go_sem, ↓reduceIte, e0_1, e0_6, e0_7, e0_8, h2, getD_rows h2, hw1, c4_0, c4_1, c4_2, show ∀ t : Fm, (validS t 20000 100).1 = validF t from fun _ => rfl]
            refine CallP.ret (Valid_call _ hbi) (by simp only [go_sem]) ?_
            try simp only [go_sem, ↓reduceIte, e0_1, e0_6, e0_7, e0_8, h2, getD_rows h2, hw1, c4_0, c4_1, c4_2, show ∀ t : Fm, (validS t 20000 100).1 = validF t from fun _ => rfl]
            apply hK; clear hK hP
            refine aw_if (True) (by simp only [go_sem, ↓reduceIte, e0_1, e0_6, e0_7, e0_8, h2, getD_rows h2, hw1, c4_0, c4_1, c4_2]) (fun h4 => ?_) (fun h4 => ?_)
            ·
              refine aw_sreg {} rfl rfl fun K KP hK hP => ?_
              simp only [go_sem, ↓reduceIte, e0_1, e0_6, e0_7, e0_8, h2, getD_rows h2, hw1, c4_0, c4_1, c4_2]
              apply hK; clear hK hP
              refine aw_ret ?_
              refine ablock_ret.2 ?_
              refine athen_ret.2 ?_
              refine afor_zero ?_
              refine athen_ret.2 ?_
              refine ablock_ret.2 ?_
              refine athen_ret.2 ?_
              simp only [go_sem, ↓reduceIte, e0_1, e0_6, e0_7, e0_8, h2, getD_rows h2, hw1, c4_0, c4_1, c4_2, athen_ret] <;> (
                have hpf : partOK l i = false := by unfold partOK; rw [hget]; simp [c4_2]
                simp [validSm, range_bad l h2 hpf])
            ·
              exact absurd trivial h4
          ·
            by_cases c4_3 : ¬ 0 < i
            ·
              refine aw_sdraw {} [] [0, 1, 3, 7, 15, 31, 63, 127, 255, 511, 1023, 2047, 4095, 8191, 16383, 32767, 65535, 131071, 262143, 524287, 1048575, 524287, 2621439, 8388607, 16777215, 33554431, 524287, 67633151, 268435455, 536870911, 1073741823, 2147483647] mixed (by kernel_rfl) rfl rfl fun K KP hK hP => ?_
              simp only [go_sem, ↓reduceIte, e0_1, e0_6, e0_7, e0_8, h2, getD_rows h2, hw1, c4_0, c4_1, c4_2, c4_3, show ∀ t : Fm, (validS t 20000 100).1 = validF t from fun _ => rfl]
              refine CallP.ret (within_call _) (by simp only [go_sem]) ?_
              try simp only [go_sem, ↓reduceIte, e0_1, e0_6, e0_7, e0_8, h2, getD_rows h2, hw1, c4_0, c4_1, c4_2, c4_3, show ∀ t : Fm, (validS t 20000 100).1 = validF t from fun _ => rfl]
              refine CallP.ret (Valid_call _ hbi) (by simp only [go_sem]) ?_
              try simp only [go_sem, ↓reduceIte, e0_1, e0_6, e0_7, e0_8, h2, getD_rows h2, hw1, c4_0, c4_1, c4_2, c4_3, show ∀ t : Fm, (validS t 20000 100).1 = validF t from fun _ => rfl]
              apply hK; clear hK hP
              refine aw_if (False) (by simp only [go_sem, ↓reduceIte, e0_1, e0_6, e0_7, e0_8, h2, getD_rows h2, hw1, c4_0, c4_1, c4_2, c4_3]) (fun h4 => ?_) (fun h4 => ?_)
              ·
                exact h4.elim
              ·
                refine aw_skip ?_
                refine ablock_normal.2 ?_
                refine athen_normal.2 ?_
                refine aw_lreg {} rfl rfl fun K KP hK hP => ?_
                simp only [go_sem, ↓reduceIte, e0_1, e0_6, e0_7, e0_8, h2, getD_rows h2, hw1, c4_0, c4_1, c4_2, c4_3]
                apply hK; clear hK hP
                refine afor_zero ?_
                refine athen_normal.2 ?_
                refine ⟨_, ?_, i + 1, ?_, ?_, rfl, rfl, ?_, ?_, ?_, ?_⟩
                · omega
                · first | omega | trivial | assumption
                · rw [hra]
                  have t1 : within l[i].c = true := by simpa using c4_1
                  have t2 : validF l[i].t = true := by simpa using c4_2
                  have hd : decide (i = 0) = true := decide_eq_true (by omega)
                  unfold partOK; rw [hget]; simp only [t1, t2, hd]; simp [c4_0]
                · simp only [go_sem, ↓reduceIte, e0_1, e0_6, e0_7, e0_8, h2, getD_rows h2, hw1, c4_0, c4_1, c4_2, c4_3] <;> try rfl
                · simp only [go_sem, ↓reduceIte, e0_1, e0_6, e0_7, e0_8, h2, getD_rows h2, hw1, c4_0, c4_1, c4_2, c4_3] <;> try rfl
                · simp only [go_sem, ↓reduceIte, e0_1, e0_6, e0_7, e0_8, h2, getD_rows h2, hw1, c4_0, c4_1, c4_2, c4_3] <;> try rfl
                · simp only [go_sem, ↓reduceIte, e0_1, e0_6, e0_7, e0_8, h2, getD_rows h2, hw1, c4_0, c4_1, c4_2, c4_3] <;> try rfl
            ·
              replace c4_3 := Classical.not_not.1 c4_3
              have hpos : 0 < i := c4_3
              have hwm : IntKind.wrap .i64 ((i : Int) - 1) = ((i - 1 : Nat) : Int) := by rw [wrap64 (by omega) (by omega)]; omega
              have h2' : i - 1 < l.length := by omega
              have hgj := getD_rows h2'
              have hbj := hb _ (List.getElem_mem h2')
              refine aw_sdraw {} [] [0, 1, 3, 7, 15, 31, 63, 127, 255, 511, 1023, 2047, 4095, 8191, 16383, 32767, 65535, 131071, 262143, 524287, 1048575, 524287, 2621439, 8388607, 16777215, 33554431, 524287, 67633151, 268435455, 536870911, 1073741823, 2147483647] mixed (by kernel_rfl) rfl rfl fun K KP hK hP => ?_
              simp only [go_sem, ↓reduceIte, e0_1, e0_6, e0_7, e0_8, h2, getD_rows h2, hw1, c4_0, c4_1, c4_2, c4_3, hpos, hwm, h2', hgj, show ∀ t : Fm, (validS t 20000 100).1 = validF t from fun _ => rfl]
              refine CallP.ret (within_call _) (by simp only [go_sem]) ?_
              try simp only [go_sem, ↓reduceIte, e0_1, e0_6, e0_7, e0_8, h2, getD_rows h2, hw1, c4_0, c4_1, c4_2, c4_3, hpos, hwm, h2', hgj, show ∀ t : Fm, (validS t 20000 100).1 = validF t from fun _ => rfl]
              refine CallP.ret (Valid_call _ hbi) (by simp only [go_sem]) ?_
              try simp only [go_sem, ↓reduceIte, e0_1, e0_6, e0_7, e0_8, h2, getD_rows h2, hw1, c4_0, c4_1, c4_2, c4_3, hpos, hwm, h2', hgj, show ∀ t : Fm, (validS t 20000 100).1 = validF t from fun _ => rfl]
              refine CallP.ret (compare_call _ hbj _) (by simp only [go_sem]) ?_
              try simp only [go_sem, ↓reduceIte, e0_1, e0_6, e0_7, e0_8, h2, getD_rows h2, hw1, c4_0, c4_1, c4_2, c4_3, hpos, hwm, h2', hgj, show ∀ t : Fm, (validS t 20000 100).1 = validF t from fun _ => rfl]
              apply hK; clear hK hP
              refine aw_if (0 ≤ cmpF l[i - 1].t l[i].t) (by simp only [go_sem, ↓reduceIte, e0_1, e0_6, e0_7, e0_8, h2, getD_rows h2, hw1, c4_0, c4_1, c4_2, c4_3]) (fun h4 => ?_) (fun h4 => ?_)
              ·
                refine aw_sreg {} rfl rfl fun K KP hK hP => ?_
                simp only [go_sem, ↓reduceIte, e0_1, e0_6, e0_7, e0_8, h2, getD_rows h2, hw1, c4_0, c4_1, c4_2, c4_3]
                apply hK; clear hK hP
                refine aw_ret ?_
                refine ablock_ret.2 ?_
                refine athen_ret.2 ?_
                refine afor_zero ?_
                refine athen_ret.2 ?_
                refine ablock_ret.2 ?_
                refine athen_ret.2 ?_
                simp only [go_sem, ↓reduceIte, e0_1, e0_6, e0_7, e0_8, h2, getD_rows h2, hw1, c4_0, c4_1, c4_2, c4_3, athen_ret] <;> (
                  have hj : l[i - 1]? = some l[i - 1] := List.getElem?_eq_getElem h2'
                  have hd : decide (i = 0) = false := decide_eq_false (by omega)
                  have hpf : partOK l i = false := by unfold partOK; rw [hget]; simp only [hj, hd]; simp [h4]
                  simp [validSm, range_bad l h2 hpf])
              ·
                refine aw_skip ?_
                refine ablock_normal.2 ?_
                refine athen_normal.2 ?_
                refine aw_lreg {} rfl rfl fun K KP hK hP => ?_
                simp only [go_sem, ↓reduceIte, e0_1, e0_6, e0_7, e0_8, h2, getD_rows h2, hw1, c4_0, c4_1, c4_2, c4_3]
                apply hK; clear hK hP
                refine afor_zero ?_
                refine athen_normal.2 ?_
                refine ⟨_, ?_, i + 1, ?_, ?_, rfl, rfl, ?_, ?_, ?_, ?_⟩
                · omega
                · first | omega | trivial | assumption
                · rw [hra]
                  have t1 : within l[i].c = true := by simpa using c4_1
                  have t2 : validF l[i].t = true := by simpa using c4_2
                  have hj : l[i - 1]? = some l[i - 1] := List.getElem?_eq_getElem h2'
                  unfold partOK; rw [hget]; simp only [t1, t2, hj]; simp [c4_0, h4]
                · simp only [go_sem, ↓reduceIte, e0_1, e0_6, e0_7, e0_8, h2, getD_rows h2, hw1, c4_0, c4_1, c4_2, c4_3] <;> try rfl
                · simp only [go_sem, ↓reduceIte, e0_1, e0_6, e0_7, e0_8, h2, getD_rows h2, hw1, c4_0, c4_1, c4_2, c4_3] <;> try rfl
                · simp only [go_sem, ↓reduceIte, e0_1, e0_6, e0_7, e0_8, h2, getD_rows h2, hw1, c4_0, c4_1, c4_2, c4_3] <;> try rfl
                · simp only [go_sem, ↓reduceIte, e0_1, e0_6, e0_7, e0_8, h2, getD_rows h2, hw1, c4_0, c4_1, c4_2, c4_3] <;> try rfl
    ·
      refine aw_exit ?_
      refine athen_exit.2 ?_
      refine afor_zero ?_
      refine athen_exit.2 ?_
      refine ablock_here ?_
      refine athen_normal.2 ?_
      refine aw_sreg {} rfl rfl fun K KP hK hP => ?_
      simp only [go_sem, ↓reduceIte, e0_1, e0_6, e0_7, e0_8]
      refine CallP.ret (within_call _) (by simp only [go_sem]) ?_
      try simp only [go_sem, ↓reduceIte, e0_1, e0_6, e0_7, e0_8]
      apply hK; clear hK hP
      refine aw_ret ?_
      simp only [go_sem, ↓reduceIte, e0_1, e0_6, e0_7, e0_8, athen_ret] <;> (
        have hi : i = l.length := by omega
        rw [hi] at hp0_1
        simp [validSm, hp0_1])
  ·
    refine ⟨_, 0, ?_, ?_, rfl, ?_, ?_, ?_, ?_, ?_⟩
    · first | omega | trivial | assumption
    · rfl
    · first | rfl | (simp only [go_sem, ↓reduceIte])
    · simp only [go_sem, ↓reduceIte] <;> try rfl
    · simp only [go_sem, ↓reduceIte] <;> try rfl
    · simp only [go_sem, ↓reduceIte] <;> try rfl
    · simp only [go_sem, ↓reduceIte] <;> try rfl
end Go.Ab
