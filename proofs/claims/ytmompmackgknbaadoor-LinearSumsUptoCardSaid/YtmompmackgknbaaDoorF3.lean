/-
  VALID FORMS: the contracts of the reader's functions that tell whether a form is valid.
-/
import Derived.Test.YtmompmackgknbaaDoorF2
set_option linter.unusedVariables false
set_option linter.unusedSimpArgs false
set_option maxRecDepth 100000
namespace Go.Ab
open Go Go.RowKit Go.Proofs

def badR (c : Int) : Bool := !decide (c = 10) && (decide (c < 32) || decide (126 < c))
theorem badR_call (c : Int) : PCall CX 89 [.int .i32 c] (· = .ret (.bool (badR c))) := by
  refine pcall_mk 0 13 [.tmp 2] Tryd.func89 rfl (by decide) rfl rfl rfl ?_
  refine aw_sreg {} rfl rfl fun K KP hK hP => ?_
  simp only [go_sem, ↓reduceIte]
  apply hK; clear hK hP
  by_cases c1_0 : c = 10
  ·
    refine aw_sreg {} rfl rfl fun K KP hK hP => ?_
    simp only [go_sem, ↓reduceIte, c1_0]
    apply hK; clear hK hP
    refine aw_ret ?_
    simp only [go_sem, ↓reduceIte, c1_0, athen_ret] <;> (
      simp [badR])
  ·
    by_cases c1_1 : c < 32
    ·
      refine aw_sreg {} rfl rfl fun K KP hK hP => ?_
      simp only [go_sem, ↓reduceIte, c1_0, c1_1]
      apply hK; clear hK hP
      refine aw_ret ?_
      simp only [go_sem, ↓reduceIte, c1_0, c1_1, athen_ret] <;> (
        simp [badR, c1_0, c1_1])
    ·
      refine aw_sreg {} rfl rfl fun K KP hK hP => ?_
      simp only [go_sem, ↓reduceIte, c1_0, c1_1]
      apply hK; clear hK hP
      refine aw_ret ?_
      simp only [go_sem, ↓reduceIte, c1_0, c1_1, athen_ret] <;> (
        simp [badR, c1_0, c1_1])
def idxR (p : Int → Bool) (s : List UInt8) : Nat → Nat → Int
  | 0, _ => -1
  | f + 1, pos => if pos < s.length then (if p (Utf8.decode ⟨s.toArray⟩ pos).1 = true then pos else idxR p s f (pos + (Utf8.decode ⟨s.toArray⟩ pos).2)) else -1
theorem decode_wide (b : ByteArray) (i : Nat) : 1 ≤ (Utf8.decode b i).2 := by
  unfold Utf8.decode
  simp only
  repeat' split
  all_goals simp
theorem indexFunc_call (p : Int → Bool) (g : FuncId) (hg : ∀ c, PCall CX g [.int .i32 c] (· = .ret (.bool (p c)))) (s : List UInt8) : PCall CX 112 [.str s, .fn (.func g) [] [], .bool true] (· = .ret (.int .i64 (idxR p s (s.length + 1) 0))) := by
  refine pcall_mk 0 21 [.tmp 6] Tryd.func112 rfl (by decide) rfl rfl rfl ?_
  refine aw_sreg {} rfl rfl fun K KP hK hP => ?_
  simp only [go_sem, ↓reduceIte]
  apply hK; clear hK hP
  refine aw_seq ?_
  refine aw_sreg {} rfl rfl fun K KP hK hP => ?_
  simp only [go_sem, ↓reduceIte]
  apply hK; clear hK hP
  refine aw_block ?_
  refine aw_loop' (fun dd st => ∃ (pos f : Nat), (s.length < pos + f) ∧ (idxR p s f pos = idxR p s (s.length + 1) 0) ∧ f = dd ∧ [(0, .siter s pos)] = st.σ ∧ st.env 0 = .str s ∧ st.env 1 = .fn (.func g) [] [] ∧ st.env 2 = .bool true ∧ st.env 10 = .ref 0 0 0) (fun dd st hJ => ?_) ?_
  ·
    obtain ⟨env0, σ0, nx0⟩ := st
    obtain ⟨pos, f, hp0_0, hp0_1, hd0, hs0, e0_0, e0_1, e0_2, e0_10⟩ := hJ
    dsimp only at hs0  e0_0 e0_1 e0_2 e0_10
    subst hd0; subst hs0
    refine aw_forget' 1 rfl ?_
    by_cases c2 : pos < s.length
    ·
      refine aw_sreg {} rfl rfl fun K KP hK hP => ?_
      simp only [go_sem, ↓reduceIte, e0_0, e0_1, e0_2, e0_10, c2]
      apply hK; clear hK hP
      refine aw_seq ?_
      refine aw_if (True) (by simp only [go_sem, ↓reduceIte, e0_0, e0_1, e0_2, e0_10, c2]) (fun h2 => ?_) (fun h2 => ?_)
      ·
        refine aw_skip ?_
        refine athen_normal.2 ?_
        refine aw_block ?_
        refine aw_sreg {} rfl rfl fun K KP hK hP => ?_
        simp only [go_sem, ↓reduceIte, e0_0, e0_1, e0_2, e0_10, c2]
        apply hK; clear hK hP
        refine aw_sreg {} rfl rfl fun K KP hK hP => ?_
        simp only [go_sem, ↓reduceIte, e0_0, e0_1, e0_2, e0_10, c2]
        refine CallP.ret (hg _) (by simp only [go_sem]) ?_
        try simp only [go_sem, ↓reduceIte, e0_0, e0_1, e0_2, e0_10, c2]
        apply hK; clear hK hP
        refine aw_if (p (Utf8.decode ⟨s.toArray⟩ pos).1 = true) (by simp only [go_sem, ↓reduceIte, e0_0, e0_1, e0_2, e0_10, c2]) (fun h4 => ?_) (fun h4 => ?_)
        ·
          refine aw_sreg {} rfl rfl fun K KP hK hP => ?_
          simp only [go_sem, ↓reduceIte, e0_0, e0_1, e0_2, e0_10, c2]
          apply hK; clear hK hP
          refine aw_ret ?_
          refine ablock_ret.2 ?_
          refine afor_one ?_
          refine athen_ret.2 ?_
          refine ablock_ret.2 ?_
          refine athen_ret.2 ?_
          simp only [go_sem, ↓reduceIte, e0_0, e0_1, e0_2, e0_10, c2, athen_ret] <;> (
            rw [← hp0_1]
            cases f with
            | zero => omega
            | succ f => simp only [idxR, c2, if_true, h4])
        ·
          refine aw_skip ?_
          refine ablock_normal.2 ?_
          refine afor_one ?_
          refine athen_normal.2 ?_
          refine ⟨_, ?_, (pos + (Utf8.decode ⟨s.toArray⟩ pos).2), (f - 1), ?_, ?_, rfl, rfl, ?_, ?_, ?_, ?_⟩
          · have := decode_wide ⟨s.toArray⟩ pos
            omega
          · have := decode_wide ⟨s.toArray⟩ pos
            omega
          · rw [← hp0_1]
            cases f with
            | zero => omega
            | succ f => simp only [idxR, c2, if_true, h4, Nat.add_sub_cancel, if_false]; rfl
          · simp only [go_sem, ↓reduceIte, e0_0, e0_1, e0_2, e0_10, c2] <;> try rfl
          · simp only [go_sem, ↓reduceIte, e0_0, e0_1, e0_2, e0_10, c2] <;> try rfl
          · simp only [go_sem, ↓reduceIte, e0_0, e0_1, e0_2, e0_10, c2] <;> try rfl
          · simp only [go_sem, ↓reduceIte, e0_0, e0_1, e0_2, e0_10, c2] <;> try rfl
      ·
        exact absurd trivial h2
    ·
      refine aw_sreg {} rfl rfl fun K KP hK hP => ?_
      simp only [go_sem, ↓reduceIte, e0_0, e0_1, e0_2, e0_10, c2]
      apply hK; clear hK hP
      refine aw_seq ?_
      refine aw_if (False) (by simp only [go_sem, ↓reduceIte, e0_0, e0_1, e0_2, e0_10, c2]) (fun h2 => ?_) (fun h2 => ?_)
      ·
        exact h2.elim
      ·
        refine aw_exit ?_
        refine athen_exit.2 ?_
        refine afor_one ?_
        refine athen_exit.2 ?_
        refine ablock_here ?_
        refine athen_normal.2 ?_
        refine aw_sreg {} rfl rfl fun K KP hK hP => ?_
        simp only [go_sem, ↓reduceIte, e0_0, e0_1, e0_2, e0_10, c2]
        apply hK; clear hK hP
        refine aw_ret ?_
        simp only [go_sem, ↓reduceIte, e0_0, e0_1, e0_2, e0_10, c2, athen_ret] <;> (
          rw [← hp0_1]
          cases f with
          | zero => rfl
          | succ f => simp only [idxR, c2, if_false])
  ·
    refine ⟨_, 0, s.length + 1, ?_, ?_, rfl, ?_, ?_, ?_, ?_, ?_⟩
    · first | omega | trivial | assumption
    · first | omega | trivial | assumption
    · first | rfl | (simp only [go_sem, ↓reduceIte])
    · simp only [go_sem, ↓reduceIte] <;> try rfl
    · simp only [go_sem, ↓reduceIte] <;> try rfl
    · simp only [go_sem, ↓reduceIte] <;> try rfl
    · simp only [go_sem, ↓reduceIte] <;> try rfl
theorem indexFunc2_call (p : Int → Bool) (g : FuncId) (hg : ∀ c, PCall CX g [.int .i32 c] (· = .ret (.bool (p c)))) (s : List UInt8) : PCall CX 99 [.str s, .fn (.func g) [] []] (· = .ret (.int .i64 (idxR p s (s.length + 1) 0))) := by
  refine pcall_mk 0 8 [.tmp 4] Tryd.func99 rfl (by decide) rfl rfl rfl ?_
  refine aw_sreg {} rfl rfl fun K KP hK hP => ?_
  simp only [go_sem, ↓reduceIte]
  apply hK; clear hK hP
  refine aw_sreg {} rfl rfl fun K KP hK hP => ?_
  simp only [go_sem, ↓reduceIte]
  refine CallP.ret (indexFunc_call p g hg s) (by simp only [go_sem]) ?_
  try simp only [go_sem, ↓reduceIte]
  apply hK; clear hK hP
  refine aw_ret ?_
  simp only [go_sem, ↓reduceIte, athen_ret]
theorem containsFunc_call (p : Int → Bool) (g : FuncId) (hg : ∀ c, PCall CX g [.int .i32 c] (· = .ret (.bool (p c)))) (s : List UInt8) : PCall CX 90 [.str s, .fn (.func g) [] []] (· = .ret (.bool (decide (0 ≤ idxR p s (s.length + 1) 0)))) := by
  refine pcall_mk 0 9 [.tmp 4] Tryd.func90 rfl (by decide) rfl rfl rfl ?_
  refine aw_sreg {} rfl rfl fun K KP hK hP => ?_
  simp only [go_sem, ↓reduceIte]
  apply hK; clear hK hP
  refine aw_sreg {} rfl rfl fun K KP hK hP => ?_
  simp only [go_sem, ↓reduceIte]
  refine CallP.ret (indexFunc2_call p g hg s) (by simp only [go_sem]) ?_
  try simp only [go_sem, ↓reduceIte]
  apply hK; clear hK hP
  refine aw_ret ?_
  simp only [go_sem, ↓reduceIte, athen_ret]

/-- What is told of a form's own fields. -/
def wordS (t : List UInt8) : Bool := decide (t ≠ []) && (decide (t.length ≤ 30) && !numericS t)
def badT (t : List UInt8) : Bool := decide (0 ≤ idxR badR t (t.length + 1) 0)
def leafS (k n : Int) (t : List UInt8) (l : List Fm) : Bool :=
  if k = 0 then decide (t = []) && (decide (l = []) && (decide (-1152921504606846976 ≤ n) && decide (n ≤ 1152921504606846976)))
  else if k = 1 then (wordS t && t.all fun c => !outsideS c) && (decide (n = 0) && decide (l = []))
  else if k = 2 then decide (t.length ≤ 2000) && (!badT t && (decide (n = 0) && decide (l = [])))
  else if k = 3 then decide (t = []) && decide (n = 0)
  else false
theorem len_zero (l : List Fm) : (l.length = 0) = (l = []) := by simp
theorem wordS_nil {t : List UInt8} (h : t = []) : wordS t = false := by simp [wordS, h]
theorem wordS_long {t : List UInt8} (h : ¬ t.length ≤ 30) : wordS t = false := by simp [wordS, h]
theorem wordS_ok {t : List UInt8} (h : ¬ t = []) (h' : t.length ≤ 30) : wordS t = !numericS t := by simp [wordS, h, h']
theorem leaf_call (k n : Int) (t : List UInt8) (nl : Bool) (l : List Fm) : PCall CX 79 [Fm.av (.mk k n t nl l)] (· = .ret (.bool (leafS k n t l))) := by
  refine pcall_mk 0 108 [.tmp 2] Tryd.func79 rfl (by decide) rfl rfl rfl ?_
  simp only [go_sem]
  refine aw_sreg {} rfl rfl fun K KP hK hP => ?_
  simp only [go_sem, ↓reduceIte, len_zero]
  apply hK; clear hK hP
  refine aw_seq ?_
  refine aw_sreg {} rfl rfl fun K KP hK hP => ?_
  simp only [go_sem, ↓reduceIte, len_zero]
  apply hK; clear hK hP
  refine aw_block ?_
  refine aw_sreg {} rfl rfl fun K KP hK hP => ?_
  simp only [go_sem, ↓reduceIte, len_zero]
  apply hK; clear hK hP
  refine aw_if (k = 0) (by simp only [go_sem, ↓reduceIte, len_zero]) (fun h2 => ?_) (fun h2 => ?_)
  ·
    by_cases c3_0 : t = []
    ·
      by_cases c3_1 : l = []
      ·
        by_cases c3_2 : -1152921504606846976 ≤ n
        ·
          refine aw_sreg {} rfl rfl fun K KP hK hP => ?_
          simp only [go_sem, ↓reduceIte, len_zero, c3_0, c3_1, c3_2]
          apply hK; clear hK hP
          refine aw_ret ?_
          refine ablock_ret.2 ?_
          refine athen_ret.2 ?_
          simp only [go_sem, ↓reduceIte, len_zero, c3_0, c3_1, c3_2, athen_ret] <;> (
            simp [leafS, h2, c3_0, c3_1, c3_2])
        ·
          refine aw_sreg {} rfl rfl fun K KP hK hP => ?_
          simp only [go_sem, ↓reduceIte, len_zero, c3_0, c3_1, c3_2]
          apply hK; clear hK hP
          refine aw_ret ?_
          refine ablock_ret.2 ?_
          refine athen_ret.2 ?_
          simp only [go_sem, ↓reduceIte, len_zero, c3_0, c3_1, c3_2, athen_ret] <;> (
            simp [leafS, h2, c3_0, c3_1, c3_2])
      ·
        refine aw_sreg {} rfl rfl fun K KP hK hP => ?_
        simp only [go_sem, ↓reduceIte, len_zero, c3_0, c3_1]
        apply hK; clear hK hP
        refine aw_ret ?_
        refine ablock_ret.2 ?_
        refine athen_ret.2 ?_
        simp only [go_sem, ↓reduceIte, len_zero, c3_0, c3_1, athen_ret] <;> (
          simp [leafS, h2, c3_0, c3_1])
    ·
      refine aw_sreg {} rfl rfl fun K KP hK hP => ?_
      simp only [go_sem, ↓reduceIte, len_zero, c3_0]
      apply hK; clear hK hP
      refine aw_ret ?_
      refine ablock_ret.2 ?_
      refine athen_ret.2 ?_
      simp only [go_sem, ↓reduceIte, len_zero, c3_0, athen_ret] <;> (
        simp [leafS, h2, c3_0])
  ·
    refine aw_sreg {} rfl rfl fun K KP hK hP => ?_
    simp only [go_sem, ↓reduceIte, len_zero]
    apply hK; clear hK hP
    refine aw_if (k = 1) (by simp only [go_sem, ↓reduceIte, len_zero]) (fun h4 => ?_) (fun h4 => ?_)
    ·
      refine aw_mid (fun st => [] = st.σ ∧ st.env 1 = .rptr [.int .i64 k, .int .i64 n, .str t, kidsA nl (l.map Fm.cells)] ∧ st.env 3 = .bool (wordS t)) ?_ ?_
      ·
        by_cases c5_0 : t = []
        ·
          refine aw_lreg {} rfl rfl fun K KP hK hP => ?_
          simp only [go_sem, ↓reduceIte, len_zero, c5_0]
          apply hK; clear hK hP
          refine athen_normal.2 ?_
          refine ⟨rfl, ?_, ?_⟩
          · simp only [go_sem, ↓reduceIte, len_zero, c5_0] <;> (
              rw [c5_0])
          · simp only [go_sem, ↓reduceIte, len_zero, c5_0] <;> (
              rfl)
        ·
          by_cases c5_1 : ¬ ((t.length : Nat) : Int) ≤ 30
          ·
            refine aw_lreg {} rfl rfl fun K KP hK hP => ?_
            simp only [go_sem, ↓reduceIte, len_zero, c5_0, c5_1]
            apply hK; clear hK hP
            refine athen_normal.2 ?_
            refine ⟨rfl, ?_, ?_⟩
            · simp only [go_sem, ↓reduceIte, len_zero, c5_0, c5_1] <;> try rfl
            · simp only [go_sem, ↓reduceIte, len_zero, c5_0, c5_1] <;> (
                rw [wordS_long (by omega)])
          ·
            replace c5_1 := Classical.not_not.1 c5_1
            refine aw_lreg {} rfl rfl fun K KP hK hP => ?_
            simp only [go_sem, ↓reduceIte, len_zero, c5_0, c5_1]
            refine CallP.ret (numeric_call t (by omega)) (by simp only [go_sem]) ?_
            try simp only [go_sem, ↓reduceIte, len_zero, c5_0, c5_1]
            apply hK; clear hK hP
            refine athen_normal.2 ?_
            refine ⟨rfl, ?_, ?_⟩
            · simp only [go_sem, ↓reduceIte, len_zero, c5_0, c5_1] <;> try rfl
            · simp only [go_sem, ↓reduceIte, len_zero, c5_0, c5_1] <;> (
                rw [wordS_ok c5_0 (by omega)])
      ·
        rintro ⟨envm5, σm5, nxm5⟩ ⟨hms5, m5_1, m5_3⟩
        dsimp only at hms5  m5_1 m5_3
        subst hms5
        refine aw_seq ?_
        refine aw_sreg {} rfl rfl fun K KP hK hP => ?_
        simp only [go_sem, ↓reduceIte, len_zero, m5_1, m5_3]
        apply hK; clear hK hP
        refine aw_block ?_
        refine aw_loop' (fun dd st => ∃ (i : Nat), (i ≤ t.length) ∧ t.length - i = dd ∧ [] = st.σ ∧ st.env 1 = .rptr [.int .i64 k, .int .i64 n, .str t, kidsA nl (l.map Fm.cells)] ∧ st.env 3 = .bool (wordS t && (t.take i).all fun c => !outsideS c) ∧ st.env 4 = .int .i64 (i : Nat)) (fun dd st hJ => ?_) ?_
        ·
          obtain ⟨env1, σ1, nx1⟩ := st
          obtain ⟨i, hp1_0, hd1, hs1, e1_1, e1_3, e1_4⟩ := hJ
          dsimp only at hs1  e1_1 e1_3 e1_4
          subst hd1; subst hs1
          refine aw_forget' 0 rfl ?_
          refine aw_seq ?_
          by_cases c7_0 : i < t.length
          ·
            by_cases c7_1 : (wordS t && (t.take i).all fun c => !outsideS c) = true
            ·
              refine aw_sreg {} rfl rfl fun K KP hK hP => ?_
              simp only [go_sem, ↓reduceIte, len_zero, m5_1, m5_3, e1_1, e1_3, e1_4, c7_0, c7_1]
              apply hK; clear hK hP
              refine aw_if (True) (by simp only [go_sem, ↓reduceIte, len_zero, m5_1, m5_3, e1_1, e1_3, e1_4, c7_0, c7_1]) (fun h7 => ?_) (fun h7 => ?_)
              ·
                have hx : t[i]? = some t[i] := List.getElem?_eq_getElem c7_0
                have hw : wordS t = true := by simp at c7_1; exact c7_1.1
                have hlen : t.length ≤ 30 := by simp [wordS] at hw; exact hw.2.1
                have hall : ((t.take i).all fun c => !outsideS c) = true := by simp at c7_1; simpa using c7_1.2
                have hall2 : ((t.take (i + 1)).all fun c => !outsideS c) = !outsideS t[i] := by rw [List.take_succ_eq_append_getElem c7_0, List.all_append, hall]; simp
                have hw1 : IntKind.wrap .i64 ((i : Int) + 1) = ((i + 1 : Nat) : Int) := by rw [wrap64 (by omega) (by omega)]; omega
                refine aw_skip ?_
                refine athen_normal.2 ?_
                refine aw_seq ?_
                refine aw_block ?_
                refine aw_lreg {} rfl rfl fun K KP hK hP => ?_
                simp only [go_sem, ↓reduceIte, len_zero, m5_1, m5_3, e1_1, e1_3, e1_4, c7_0, c7_1, hx, hw1]
                refine CallP.ret (outside_call _) (by simp only [go_sem]) ?_
                try simp only [go_sem, ↓reduceIte, len_zero, m5_1, m5_3, e1_1, e1_3, e1_4, c7_0, c7_1, hx, hw1]
                apply hK; clear hK hP
                refine ablock_normal.2 ?_
                refine athen_normal.2 ?_
                refine aw_lreg {} rfl rfl fun K KP hK hP => ?_
                simp only [go_sem, ↓reduceIte, len_zero, m5_1, m5_3, e1_1, e1_3, e1_4, c7_0, c7_1, hx, hw1]
                apply hK; clear hK hP
                refine afor_zero ?_
                refine athen_normal.2 ?_
                refine ⟨_, ?_, i + 1, ?_, rfl, rfl, ?_, ?_, ?_⟩
                · omega
                · first | omega | trivial | assumption
                · simp only [go_sem, ↓reduceIte, len_zero, m5_1, m5_3, e1_1, e1_3, e1_4, c7_0, c7_1, hx, hw1, hw, hall2] <;> try rfl
                · simp only [go_sem, ↓reduceIte, len_zero, m5_1, m5_3, e1_1, e1_3, e1_4, c7_0, c7_1, hx, hw1, hw, hall2] <;> try rfl
                · simp only [go_sem, ↓reduceIte, len_zero, m5_1, m5_3, e1_1, e1_3, e1_4, c7_0, c7_1, hx, hw1, hw, hall2] <;> try rfl
              ·
                exact absurd trivial h7
            ·
              refine aw_sreg {} rfl rfl fun K KP hK hP => ?_
              simp only [go_sem, ↓reduceIte, len_zero, m5_1, m5_3, e1_1, e1_3, e1_4, c7_0, c7_1]
              apply hK; clear hK hP
              refine aw_if (False) (by simp only [go_sem, ↓reduceIte, len_zero, m5_1, m5_3, e1_1, e1_3, e1_4, c7_0, c7_1]) (fun h7 => ?_) (fun h7 => ?_)
              ·
                exact h7.elim
              ·
                refine aw_exit ?_
                refine athen_exit.2 ?_
                refine afor_zero ?_
                refine athen_exit.2 ?_
                refine ablock_here ?_
                refine athen_normal.2 ?_
                by_cases c10_0 : (wordS t && t.all fun c => !outsideS c) = true
                ·
                  by_cases c10_1 : n = 0
                  ·
                    have hgood : (wordS t && (t.take i).all fun c => !outsideS c) = (wordS t && t.all fun c => !outsideS c) := by
                      first
                        | (have hi : i = t.length := by omega
                           subst hi; rw [List.take_length])
                        | (have hf : (wordS t && (t.take i).all fun c => !outsideS c) = false := by simpa using c7_1
                           rw [hf]
                           cases hw : wordS t with
                           | false => rfl
                           | true =>
                             rw [hw, Bool.true_and] at hf
                             have : (t.all fun c => !outsideS c) = false := by
                               rw [← List.take_append_drop i t, List.all_append, hf]; rfl
                             rw [this]; rfl)
                    refine aw_sreg {} rfl rfl fun K KP hK hP => ?_
                    simp only [go_sem, ↓reduceIte, len_zero, m5_1, m5_3, e1_1, e1_3, e1_4, c7_0, c7_1, c10_0, c10_1, hgood]
                    apply hK; clear hK hP
                    refine aw_ret ?_
                    refine ablock_ret.2 ?_
                    refine athen_ret.2 ?_
                    simp only [go_sem, ↓reduceIte, len_zero, m5_1, m5_3, e1_1, e1_3, e1_4, c7_0, c7_1, c10_0, c10_1, athen_ret] <;> (
                      simp_all [leafS])
                  ·
                    have hgood : (wordS t && (t.take i).all fun c => !outsideS c) = (wordS t && t.all fun c => !outsideS c) := by
                      first
                        | (have hi : i = t.length := by omega
                           subst hi; rw [List.take_length])
                        | (have hf : (wordS t && (t.take i).all fun c => !outsideS c) = false := by simpa using c7_1
                           rw [hf]
                           cases hw : wordS t with
                           | false => rfl
                           | true =>
                             rw [hw, Bool.true_and] at hf
                             have : (t.all fun c => !outsideS c) = false := by
                               rw [← List.take_append_drop i t, List.all_append, hf]; rfl
                             rw [this]; rfl)
                    refine aw_sreg {} rfl rfl fun K KP hK hP => ?_
                    simp only [go_sem, ↓reduceIte, len_zero, m5_1, m5_3, e1_1, e1_3, e1_4, c7_0, c7_1, c10_0, c10_1, hgood]
                    apply hK; clear hK hP
                    refine aw_ret ?_
                    refine ablock_ret.2 ?_
                    refine athen_ret.2 ?_
                    simp only [go_sem, ↓reduceIte, len_zero, m5_1, m5_3, e1_1, e1_3, e1_4, c7_0, c7_1, c10_0, c10_1, athen_ret] <;> (
                      simp_all [leafS])
                ·
                  have hgood : (wordS t && (t.take i).all fun c => !outsideS c) = (wordS t && t.all fun c => !outsideS c) := by
                    first
                      | (have hi : i = t.length := by omega
                         subst hi; rw [List.take_length])
                      | (have hf : (wordS t && (t.take i).all fun c => !outsideS c) = false := by simpa using c7_1
                         rw [hf]
                         cases hw : wordS t with
                         | false => rfl
                         | true =>
                           rw [hw, Bool.true_and] at hf
                           have : (t.all fun c => !outsideS c) = false := by
                             rw [← List.take_append_drop i t, List.all_append, hf]; rfl
                           rw [this]; rfl)
                  refine aw_sreg {} rfl rfl fun K KP hK hP => ?_
                  simp only [go_sem, ↓reduceIte, len_zero, m5_1, m5_3, e1_1, e1_3, e1_4, c7_0, c7_1, c10_0, hgood]
                  apply hK; clear hK hP
                  refine aw_ret ?_
                  refine ablock_ret.2 ?_
                  refine athen_ret.2 ?_
                  simp only [go_sem, ↓reduceIte, len_zero, m5_1, m5_3, e1_1, e1_3, e1_4, c7_0, c7_1, c10_0, athen_ret] <;> (
                    have hf := Bool.eq_false_iff.2 c10_0
                    simp only [leafS, h4, hf, Bool.false_and]
                    simp)
          ·
            refine aw_sreg {} rfl rfl fun K KP hK hP => ?_
            simp only [go_sem, ↓reduceIte, len_zero, m5_1, m5_3, e1_1, e1_3, e1_4, c7_0]
            apply hK; clear hK hP
            refine aw_if (False) (by simp only [go_sem, ↓reduceIte, len_zero, m5_1, m5_3, e1_1, e1_3, e1_4, c7_0]) (fun h7 => ?_) (fun h7 => ?_)
            ·
              exact h7.elim
            ·
              refine aw_exit ?_
              refine athen_exit.2 ?_
              refine afor_zero ?_
              refine athen_exit.2 ?_
              refine ablock_here ?_
              refine athen_normal.2 ?_
              by_cases c10_0 : (wordS t && t.all fun c => !outsideS c) = true
              ·
                by_cases c10_1 : n = 0
                ·
                  have hgood : (wordS t && (t.take i).all fun c => !outsideS c) = (wordS t && t.all fun c => !outsideS c) := by
                    first
                      | (have hi : i = t.length := by omega
                         subst hi; rw [List.take_length])
                      | (have hf : (wordS t && (t.take i).all fun c => !outsideS c) = false := by simpa using c7_1
                         rw [hf]
                         cases hw : wordS t with
                         | false => rfl
                         | true =>
                           rw [hw, Bool.true_and] at hf
                           have : (t.all fun c => !outsideS c) = false := by
                             rw [← List.take_append_drop i t, List.all_append, hf]; rfl
                           rw [this]; rfl)
                  refine aw_sreg {} rfl rfl fun K KP hK hP => ?_
                  simp only [go_sem, ↓reduceIte, len_zero, m5_1, m5_3, e1_1, e1_3, e1_4, c7_0, c10_0, c10_1, hgood]
                  apply hK; clear hK hP
                  refine aw_ret ?_
                  refine ablock_ret.2 ?_
                  refine athen_ret.2 ?_
                  simp only [go_sem, ↓reduceIte, len_zero, m5_1, m5_3, e1_1, e1_3, e1_4, c7_0, c10_0, c10_1, athen_ret] <;> (
                    simp_all [leafS])
                ·
                  have hgood : (wordS t && (t.take i).all fun c => !outsideS c) = (wordS t && t.all fun c => !outsideS c) := by
                    first
                      | (have hi : i = t.length := by omega
                         subst hi; rw [List.take_length])
                      | (have hf : (wordS t && (t.take i).all fun c => !outsideS c) = false := by simpa using c7_1
                         rw [hf]
                         cases hw : wordS t with
                         | false => rfl
                         | true =>
                           rw [hw, Bool.true_and] at hf
                           have : (t.all fun c => !outsideS c) = false := by
                             rw [← List.take_append_drop i t, List.all_append, hf]; rfl
                           rw [this]; rfl)
                  refine aw_sreg {} rfl rfl fun K KP hK hP => ?_
                  simp only [go_sem, ↓reduceIte, len_zero, m5_1, m5_3, e1_1, e1_3, e1_4, c7_0, c10_0, c10_1, hgood]
                  apply hK; clear hK hP
                  refine aw_ret ?_
                  refine ablock_ret.2 ?_
                  refine athen_ret.2 ?_
                  simp only [go_sem, ↓reduceIte, len_zero, m5_1, m5_3, e1_1, e1_3, e1_4, c7_0, c10_0, c10_1, athen_ret] <;> (
                    simp_all [leafS])
              ·
                have hgood : (wordS t && (t.take i).all fun c => !outsideS c) = (wordS t && t.all fun c => !outsideS c) := by
                  first
                    | (have hi : i = t.length := by omega
                       subst hi; rw [List.take_length])
                    | (have hf : (wordS t && (t.take i).all fun c => !outsideS c) = false := by simpa using c7_1
                       rw [hf]
                       cases hw : wordS t with
                       | false => rfl
                       | true =>
                         rw [hw, Bool.true_and] at hf
                         have : (t.all fun c => !outsideS c) = false := by
                           rw [← List.take_append_drop i t, List.all_append, hf]; rfl
                         rw [this]; rfl)
                refine aw_sreg {} rfl rfl fun K KP hK hP => ?_
                simp only [go_sem, ↓reduceIte, len_zero, m5_1, m5_3, e1_1, e1_3, e1_4, c7_0, c10_0, hgood]
                apply hK; clear hK hP
                refine aw_ret ?_
                refine ablock_ret.2 ?_
                refine athen_ret.2 ?_
                simp only [go_sem, ↓reduceIte, len_zero, m5_1, m5_3, e1_1, e1_3, e1_4, c7_0, c10_0, athen_ret] <;> (
                  have hf := Bool.eq_false_iff.2 c10_0
                  simp only [leafS, h4, hf, Bool.false_and]
                  simp)
        ·
          refine ⟨_, 0, ?_, rfl, ?_, ?_, ?_, ?_⟩
          · first | omega | trivial | assumption
          · first | rfl | (simp only [go_sem, ↓reduceIte, len_zero, m5_1, m5_3])
          · simp only [go_sem, ↓reduceIte, len_zero, m5_1, m5_3, List.all_nil] <;> try rfl
          · simp only [go_sem, ↓reduceIte, len_zero, m5_1, m5_3, List.all_nil] <;> try rfl
          · simp only [go_sem, ↓reduceIte, len_zero, m5_1, m5_3, List.all_nil] <;> try rfl
    ·
      refine aw_sreg {} rfl rfl fun K KP hK hP => ?_
      simp only [go_sem, ↓reduceIte, len_zero]
      apply hK; clear hK hP
      refine aw_if (k = 2) (by simp only [go_sem, ↓reduceIte, len_zero]) (fun h11 => ?_) (fun h11 => ?_)
      ·
        refine aw_sreg {} rfl rfl fun K KP hK hP => ?_
        simp only [go_sem, ↓reduceIte, len_zero]
        apply hK; clear hK hP
        by_cases c13_0 : ((t.length : Nat) : Int) ≤ 2000
        ·
          by_cases c13_1 : badT t = false
          ·
            by_cases c13_2 : n = 0
            ·
              refine aw_sreg {} rfl rfl fun K KP hK hP => ?_
              simp only [go_sem, ↓reduceIte, len_zero, c13_0, c13_1, c13_2, show decide (0 ≤ idxR badR t (t.length + 1) 0) = badT t from rfl]
              refine CallP.ret (containsFunc_call badR _ badR_call t) (by simp only [go_sem]) ?_
              try simp only [go_sem, ↓reduceIte, len_zero, c13_0, c13_1, c13_2, show decide (0 ≤ idxR badR t (t.length + 1) 0) = badT t from rfl]
              apply hK; clear hK hP
              refine aw_ret ?_
              refine ablock_ret.2 ?_
              refine athen_ret.2 ?_
              simp only [go_sem, ↓reduceIte, len_zero, c13_0, c13_1, c13_2, athen_ret] <;> (
                have : t.length ≤ 2000 := by omega
                simp_all [leafS])
            ·
              refine aw_sreg {} rfl rfl fun K KP hK hP => ?_
              simp only [go_sem, ↓reduceIte, len_zero, c13_0, c13_1, c13_2, show decide (0 ≤ idxR badR t (t.length + 1) 0) = badT t from rfl]
              refine CallP.ret (containsFunc_call badR _ badR_call t) (by simp only [go_sem]) ?_
              try simp only [go_sem, ↓reduceIte, len_zero, c13_0, c13_1, c13_2, show decide (0 ≤ idxR badR t (t.length + 1) 0) = badT t from rfl]
              apply hK; clear hK hP
              refine aw_ret ?_
              refine ablock_ret.2 ?_
              refine athen_ret.2 ?_
              simp only [go_sem, ↓reduceIte, len_zero, c13_0, c13_1, c13_2, athen_ret] <;> (
                have : t.length ≤ 2000 := by omega
                simp_all [leafS])
          ·
            refine aw_sreg {} rfl rfl fun K KP hK hP => ?_
            simp only [go_sem, ↓reduceIte, len_zero, c13_0, c13_1, show decide (0 ≤ idxR badR t (t.length + 1) 0) = badT t from rfl]
            refine CallP.ret (containsFunc_call badR _ badR_call t) (by simp only [go_sem]) ?_
            try simp only [go_sem, ↓reduceIte, len_zero, c13_0, c13_1, show decide (0 ≤ idxR badR t (t.length + 1) 0) = badT t from rfl]
            apply hK; clear hK hP
            refine aw_ret ?_
            refine ablock_ret.2 ?_
            refine athen_ret.2 ?_
            simp only [go_sem, ↓reduceIte, len_zero, c13_0, c13_1, athen_ret] <;> (
              have : t.length ≤ 2000 := by omega
              simp_all [leafS])
        ·
          refine aw_sreg {} rfl rfl fun K KP hK hP => ?_
          simp only [go_sem, ↓reduceIte, len_zero, c13_0, show decide (0 ≤ idxR badR t (t.length + 1) 0) = badT t from rfl]
          apply hK; clear hK hP
          refine aw_ret ?_
          refine ablock_ret.2 ?_
          refine athen_ret.2 ?_
          simp only [go_sem, ↓reduceIte, len_zero, c13_0, athen_ret] <;> (
            have hf : ¬ t.length ≤ 2000 := by omega
            simp [leafS, h2, h4, h11, hf])
      ·
        refine aw_sreg {} rfl rfl fun K KP hK hP => ?_
        simp only [go_sem, ↓reduceIte, len_zero]
        apply hK; clear hK hP
        refine aw_if (k = 3) (by simp only [go_sem, ↓reduceIte, len_zero]) (fun h14 => ?_) (fun h14 => ?_)
        ·
          by_cases c15_0 : t = []
          ·
            refine aw_sreg {} rfl rfl fun K KP hK hP => ?_
            simp only [go_sem, ↓reduceIte, len_zero, c15_0]
            apply hK; clear hK hP
            refine aw_ret ?_
            refine ablock_ret.2 ?_
            refine athen_ret.2 ?_
            simp only [go_sem, ↓reduceIte, len_zero, c15_0, athen_ret] <;> (
              simp_all [leafS])
          ·
            refine aw_sreg {} rfl rfl fun K KP hK hP => ?_
            simp only [go_sem, ↓reduceIte, len_zero, c15_0]
            apply hK; clear hK hP
            refine aw_ret ?_
            refine ablock_ret.2 ?_
            refine athen_ret.2 ?_
            simp only [go_sem, ↓reduceIte, len_zero, c15_0, athen_ret] <;> (
              simp_all [leafS])
        ·
          refine aw_skip ?_
          refine ablock_normal.2 ?_
          refine athen_normal.2 ?_
          refine aw_sreg {} rfl rfl fun K KP hK hP => ?_
          simp only [go_sem, ↓reduceIte, len_zero]
          apply hK; clear hK hP
          refine aw_ret ?_
          simp only [go_sem, ↓reduceIte, len_zero, athen_ret] <;> (
            simp_all [leafS])

mutual
def validS : Fm → Int → Int → Bool × Int
  | .mk k n t nl l, p, d => if p - 1 < 0 ∨ d = 0 ∨ leafS k n t l = false then (false, p - 1) else validLS l (p - 1) (d - 1)
def validLS : List Fm → Int → Int → Bool × Int
  | [], p, _ => (true, p)
  | f :: r, p, d => if (validS f p d).1 = true then validLS r (validS f p d).2 d else (false, (validS f p d).2)
end
theorem validLS_drop {l : List Fm} {i : Nat} (h : i < l.length) (p d : Int) : validLS (l.drop i) p d = if (validS l[i] p d).1 = true then validLS (l.drop (i + 1)) (validS l[i] p d).2 d else (false, (validS l[i] p d).2) := by
  rw [List.drop_eq_getElem_cons h]; simp only [validLS]
theorem validLS_ok : ∀ (l : List Fm), (∀ f ∈ l, ∀ p d : Int, 0 ≤ p → (validS f p d).1 = true → 0 ≤ (validS f p d).2 ∧ (validS f p d).2 ≤ p) → ∀ p d : Int, 0 ≤ p → (validLS l p d).1 = true → 0 ≤ (validLS l p d).2 ∧ (validLS l p d).2 ≤ p
  | [], _, p, d, hp, _ => ⟨hp, Int.le_refl _⟩
  | f :: r, h, p, d, hp, ht => by
    simp only [validLS] at ht ⊢
    split at ht
    · rename_i hf
      rw [if_pos hf]
      have h1 := h f (by simp) p d hp hf
      have h2 := validLS_ok r (fun g hg => h g (by simp [hg])) (validS f p d).2 d h1.1 ht
      omega
    · cases ht
theorem validS_ok : ∀ f : Fm, ∀ p d : Int, 0 ≤ p → (validS f p d).1 = true → 0 ≤ (validS f p d).2 ∧ (validS f p d).2 ≤ p := Fm.ind fun k n t nl l ih p d hp ht => by
  simp only [validS] at ht ⊢
  split at ht
  · cases ht
  · rename_i hf
    rw [if_neg hf]
    have := validLS_ok l ih (p - 1) (d - 1) (by omega) ht
    omega
theorem valid_call : ∀ f : Fm, ∀ (p : Int) (d : Int) (nm nx : Nat) (rest : Sto), 0 ≤ p → p ≤ 20000 → 0 ≤ d → d ≤ 100 → f.big ≤ 4611686018427387904 → ACall CX 63 [f.av, .ref 0 nm 0, .int .i64 d] ((nm, .cells 3 [.int .i64 p]) :: rest) nx
    (GetsN (.bool (validS f p d).1) ((nm, .cells 3 [.int .i64 (validS f p d).2]) :: rest)) := Fm.ind fun k n t nl l ih p d nm nx rest hp hp' hd hd' hbig => by
  have hw : IntKind.wrap .i64 (p - 1) = p - 1 := wrap64 (by omega) (by omega)
  have hwd : IntKind.wrap .i64 (d - 1) = d - 1 := wrap64 (by omega) (by omega)
  have hlen := length_le_big l
  simp only [Fm.big] at hbig
  refine acall_mk 41 [.tmp 6] Tryd.func63 rfl (by decide) rfl rfl rfl ?_
  simp only [go_sem]
  refine aw_sreg {} rfl rfl fun K KP hK hP => ?_
  simp only [go_sem, ↓reduceIte, hw, hwd, sget_last, set_last]
  apply hK; clear hK hP
  refine aw_sreg {} rfl rfl fun K KP hK hP => ?_
  simp only [go_sem, ↓reduceIte, hw, hwd, sget_last, set_last]
  apply hK; clear hK hP
  refine aw_seq ?_
  by_cases c2_0 : p - 1 < 0
  ·
    refine aw_sreg {} rfl rfl fun K KP hK hP => ?_
    simp only [go_sem, ↓reduceIte, hw, hwd, sget_last, set_last, c2_0]
    apply hK; clear hK hP
    refine aw_if (True) (by simp only [go_sem, ↓reduceIte, hw, hwd, sget_last, set_last, c2_0]) (fun h2 => ?_) (fun h2 => ?_)
    ·
      refine aw_sreg {} rfl rfl fun K KP hK hP => ?_
      simp only [go_sem, ↓reduceIte, hw, hwd, sget_last, set_last, c2_0]
      apply hK; clear hK hP
      refine aw_ret ?_
      refine athen_ret.2 ?_
      simp only [go_sem, ↓reduceIte, hw, hwd, sget_last, set_last, c2_0, athen_ret] <;> (
        simp [validS, *])
    ·
      exact absurd trivial h2
  ·
    by_cases c2_1 : d = 0
    ·
      refine aw_sreg {} rfl rfl fun K KP hK hP => ?_
      simp only [go_sem, ↓reduceIte, hw, hwd, sget_last, set_last, c2_0, c2_1]
      apply hK; clear hK hP
      refine aw_if (True) (by simp only [go_sem, ↓reduceIte, hw, hwd, sget_last, set_last, c2_0, c2_1]) (fun h2 => ?_) (fun h2 => ?_)
      ·
        refine aw_sreg {} rfl rfl fun K KP hK hP => ?_
        simp only [go_sem, ↓reduceIte, hw, hwd, sget_last, set_last, c2_0, c2_1]
        apply hK; clear hK hP
        refine aw_ret ?_
        refine athen_ret.2 ?_
        simp only [go_sem, ↓reduceIte, hw, hwd, sget_last, set_last, c2_0, c2_1, athen_ret] <;> (
          simp [validS, *])
      ·
        exact absurd trivial h2
    ·
      by_cases c2_2 : leafS k n t l = false
      ·
        refine aw_sreg {} rfl rfl fun K KP hK hP => ?_
        simp only [go_sem, ↓reduceIte, hw, hwd, sget_last, set_last, c2_0, c2_1, c2_2]
        refine CallP.ret (leaf_call k n t nl l).av (by simp only [go_sem]) ?_
        try simp only [go_sem, ↓reduceIte, hw, hwd, sget_last, set_last, c2_0, c2_1, c2_2]
        apply hK; clear hK hP
        refine aw_if (True) (by simp only [go_sem, ↓reduceIte, hw, hwd, sget_last, set_last, c2_0, c2_1, c2_2]) (fun h2 => ?_) (fun h2 => ?_)
        ·
          refine aw_sreg {} rfl rfl fun K KP hK hP => ?_
          simp only [go_sem, ↓reduceIte, hw, hwd, sget_last, set_last, c2_0, c2_1, c2_2]
          apply hK; clear hK hP
          refine aw_ret ?_
          refine athen_ret.2 ?_
          simp only [go_sem, ↓reduceIte, hw, hwd, sget_last, set_last, c2_0, c2_1, c2_2, athen_ret] <;> (
            simp [validS, *])
        ·
          exact absurd trivial h2
      ·
        replace c2_2 : leafS k n t l = true := by simpa using c2_2
        refine aw_sreg {} rfl rfl fun K KP hK hP => ?_
        simp only [go_sem, ↓reduceIte, hw, hwd, sget_last, set_last, c2_0, c2_1, c2_2]
        refine CallP.ret (leaf_call k n t nl l).av (by simp only [go_sem]) ?_
        try simp only [go_sem, ↓reduceIte, hw, hwd, sget_last, set_last, c2_0, c2_1, c2_2]
        apply hK; clear hK hP
        refine aw_if (False) (by simp only [go_sem, ↓reduceIte, hw, hwd, sget_last, set_last, c2_0, c2_1, c2_2]) (fun h2 => ?_) (fun h2 => ?_)
        ·
          exact h2.elim
        ·
          refine aw_skip ?_
          refine athen_normal.2 ?_
          refine aw_seq ?_
          refine aw_sreg {} rfl rfl fun K KP hK hP => ?_
          simp only [go_sem, ↓reduceIte, hw, hwd, sget_last, set_last, c2_0, c2_1, c2_2]
          apply hK; clear hK hP
          refine aw_block ?_
          refine aw_loop' (fun dd st => ∃ (i : Nat) (q : Int), (i ≤ l.length) ∧ (0 ≤ q) ∧ (q ≤ 20000) ∧ (validLS l (p - 1) (d - 1) = validLS (l.drop i) q (d - 1)) ∧ l.length - i = dd ∧ (nm, .cells 3 [.int .i64 q]) :: rest = st.σ ∧ st.env 1 = .ref 0 nm 0 ∧ st.env 2 = .int .i64 d ∧ st.env 28 = kidsA nl (l.map Fm.cells) ∧ st.env 29 = .int .i64 l.length ∧ st.env 30 = .int .i64 (i : Nat)) (fun dd st hJ => ?_) ?_
          ·
            obtain ⟨env0, σ0, nx0⟩ := st
            obtain ⟨i, q, hp0_0, hp0_1, hp0_2, hp0_3, hd0, hs0, e0_1, e0_2, e0_28, e0_29, e0_30⟩ := hJ
            dsimp only at hs0  e0_1 e0_2 e0_28 e0_29 e0_30
            subst hd0; subst hs0
            refine aw_forget' (rest.length + 1) (by simp only [List.length_cons]) ?_
            refine aw_sreg {} rfl rfl fun K KP hK hP => ?_
            simp only [go_sem, ↓reduceIte, hw, hwd, sget_last, set_last, c2_0, c2_1, c2_2, e0_1, e0_2, e0_28, e0_29, e0_30]
            apply hK; clear hK hP
            refine aw_seq ?_
            refine aw_if (i < l.length) (by simp only [go_sem, ↓reduceIte, hw, hwd, sget_last, set_last, c2_0, c2_1, c2_2, e0_1, e0_2, e0_28, e0_29, e0_30]) (fun h5 => ?_) (fun h5 => ?_)
            ·
              have hb := big_mem (List.getElem_mem h5)
              have hw1 : IntKind.wrap .i64 ((i : Int) + 1) = ((i + 1 : Nat) : Int) := by rw [wrap64 (by omega) (by omega)]; omega
              have hdr := validLS_drop h5 q (d - 1)
              refine aw_skip ?_
              refine athen_normal.2 ?_
              refine aw_seq ?_
              refine aw_block ?_
              refine aw_sreg {} rfl (by simp only [allocObjs, go_sem]; rfl) fun K KP hK hP => ?_
              simp only [go_sem, ↓reduceIte, hw, hwd, sget_last, set_last, c2_0, c2_1, c2_2, e0_1, e0_2, e0_28, e0_29, e0_30, h5, getD_cells h5, hw1]
              apply hK; clear hK hP
              refine aw_sreg { ac := [38] } rfl rfl fun K KP hK hP => ?_
              simp only [go_sem, ↓reduceIte, hw, hwd, sget_last, set_last, c2_0, c2_1, c2_2, e0_1, e0_2, e0_28, e0_29, e0_30, h5, getD_cells h5, hw1]
              refine CallP.acallN (ih _ (List.getElem_mem h5) q (d - 1) nm _ (rest ++ [_]) (by assumption) (by assumption) (by omega) (by omega) (by omega)) (fun nx1 => ?_)
              try simp only [go_sem, ↓reduceIte, hw, hwd, sget_last, set_last, c2_0, c2_1, c2_2, e0_1, e0_2, e0_28, e0_29, e0_30, h5, getD_cells h5, hw1]
              apply hK; clear hK hP
              refine aw_if ((validS l[i] q (d - 1)).1 = false) (by simp only [go_sem, ↓reduceIte, hw, hwd, sget_last, set_last, c2_0, c2_1, c2_2, e0_1, e0_2, e0_28, e0_29, e0_30, h5, getD_cells h5, hw1]) (fun h7 => ?_) (fun h7 => ?_)
              ·
                refine aw_sreg {} rfl rfl fun K KP hK hP => ?_
                simp only [go_sem, ↓reduceIte, hw, hwd, sget_last, set_last, c2_0, c2_1, c2_2, e0_1, e0_2, e0_28, e0_29, e0_30, h5, getD_cells h5, hw1]
                apply hK; clear hK hP
                refine aw_ret ?_
                refine ablock_ret.2 ?_
                refine athen_ret.2 ?_
                first | refine afor_rest ?_ | refine afor_rest0 ?_
                refine athen_ret.2 ?_
                refine ablock_ret.2 ?_
                refine athen_ret.2 ?_
                simp only [go_sem, ↓reduceIte, hw, hwd, sget_last, set_last, c2_0, c2_1, c2_2, e0_1, e0_2, e0_28, e0_29, e0_30, h5, getD_cells h5, hw1, athen_ret] <;> (
                  simp [validS, *])
              ·
                have h7' : (validS l[i] q (d - 1)).1 = true := by simpa using h7
                have hok := validS_ok l[i] q (d - 1) (by assumption) h7'
                refine aw_skip ?_
                refine ablock_normal.2 ?_
                refine athen_normal.2 ?_
                refine aw_lreg {} rfl rfl fun K KP hK hP => ?_
                simp only [go_sem, ↓reduceIte, hw, hwd, sget_last, set_last, c2_0, c2_1, c2_2, e0_1, e0_2, e0_28, e0_29, e0_30, h5, getD_cells h5, hw1]
                apply hK; clear hK hP
                first | refine afor_rest ?_ | refine afor_rest0 ?_
                refine athen_normal.2 ?_
                refine ⟨_, ?_, i + 1, (validS l[i] q (d - 1)).2, ?_, ?_, ?_, ?_, rfl, rfl, ?_, ?_, ?_, ?_, ?_⟩
                · omega
                · first | omega | trivial | assumption
                · first | omega | trivial | assumption
                · first | omega | trivial | assumption
                · rw [hp0_3, hdr, if_pos h7']
                · simp only [go_sem, ↓reduceIte, hw, hwd, sget_last, set_last, c2_0, c2_1, c2_2, e0_1, e0_2, e0_28, e0_29, e0_30, h5, getD_cells h5, hw1] <;> try rfl
                · simp only [go_sem, ↓reduceIte, hw, hwd, sget_last, set_last, c2_0, c2_1, c2_2, e0_1, e0_2, e0_28, e0_29, e0_30, h5, getD_cells h5, hw1] <;> try rfl
                · simp only [go_sem, ↓reduceIte, hw, hwd, sget_last, set_last, c2_0, c2_1, c2_2, e0_1, e0_2, e0_28, e0_29, e0_30, h5, getD_cells h5, hw1] <;> try rfl
                · simp only [go_sem, ↓reduceIte, hw, hwd, sget_last, set_last, c2_0, c2_1, c2_2, e0_1, e0_2, e0_28, e0_29, e0_30, h5, getD_cells h5, hw1] <;> try rfl
                · simp only [go_sem, ↓reduceIte, hw, hwd, sget_last, set_last, c2_0, c2_1, c2_2, e0_1, e0_2, e0_28, e0_29, e0_30, h5, getD_cells h5, hw1] <;> try rfl
            ·
              refine aw_exit ?_
              refine athen_exit.2 ?_
              first | refine afor_rest ?_ | refine afor_rest0 ?_
              refine athen_exit.2 ?_
              refine ablock_here ?_
              refine athen_normal.2 ?_
              refine aw_sreg {} rfl rfl fun K KP hK hP => ?_
              simp only [go_sem, ↓reduceIte, hw, hwd, sget_last, set_last, c2_0, c2_1, c2_2, e0_1, e0_2, e0_28, e0_29, e0_30]
              apply hK; clear hK hP
              refine aw_ret ?_
              simp only [go_sem, ↓reduceIte, hw, hwd, sget_last, set_last, c2_0, c2_1, c2_2, e0_1, e0_2, e0_28, e0_29, e0_30, athen_ret] <;> (
                have hi : i = l.length := by omega
                subst hi
                rw [List.drop_length] at hp0_3
                simp [validS, hp0_3, validLS, *])
          ·
            refine ⟨_, 0, p - 1, ?_, ?_, ?_, ?_, rfl, ?_, ?_, ?_, ?_, ?_, ?_⟩
            · first | omega | trivial | assumption
            · first | omega | trivial | assumption
            · first | omega | trivial | assumption
            · first | omega | trivial | assumption
            · first | rfl | (simp only [go_sem, ↓reduceIte, hw, hwd, sget_last, set_last, c2_0, c2_1, c2_2])
            · simp only [go_sem, ↓reduceIte, hw, hwd, sget_last, set_last, c2_0, c2_1, c2_2] <;> try rfl
            · simp only [go_sem, ↓reduceIte, hw, hwd, sget_last, set_last, c2_0, c2_1, c2_2] <;> try rfl
            · simp only [go_sem, ↓reduceIte, hw, hwd, sget_last, set_last, c2_0, c2_1, c2_2] <;> try rfl
            · simp only [go_sem, ↓reduceIte, hw, hwd, sget_last, set_last, c2_0, c2_1, c2_2] <;> try rfl
            · simp only [go_sem, ↓reduceIte, hw, hwd, sget_last, set_last, c2_0, c2_1, c2_2] <;> try rfl
end Go.Ab
