/-
  THE REFERENCE's notion of a valid form.
-/
import Derived.Test.YtmompmackgknbaaDoorF9
set_option linter.unusedVariables false
set_option linter.unusedSimpArgs false
set_option maxRecDepth 100000
namespace Go.Ab
open Go Go.RowKit Go.Proofs

def visB (c : UInt8) : Bool := decide (33 ≤ c.toNat) && (decide (c.toNat ≤ 126) && (!decide (c.toNat = 40) && (!decide (c.toNat = 41) && (!decide (c.toNat = 34) && !decide (c.toNat = 59)))))
theorem visible_call (c : UInt8) : PCall CX 91 [.int .u8 c.toNat] (· = .ret (.bool (visB c))) := by
  refine pcall_mk 0 25 [.tmp 2] Tryd.func91 rfl (by decide) rfl rfl rfl ?_
  refine aw_sreg {} rfl rfl fun K KP hK hP => ?_
  simp only [go_sem, ↓reduceIte]
  apply hK; clear hK hP
  refine aw_sregB {} 3 24 2 (.bool (visB c)) rfl rfl rfl (fun K KP hK hP => ?_) (fun junk1 => ?_)
  ·
    by_cases c1_0 : 33 ≤ ((c.toNat : Nat) : Int)
    ·
      by_cases c1_1 : ((c.toNat : Nat) : Int) ≤ 126
      ·
        by_cases c1_2 : ¬ ((c.toNat : Nat) : Int) = 40
        ·
          by_cases c1_3 : ¬ ((c.toNat : Nat) : Int) = 41
          ·
            by_cases c1_4 : ¬ ((c.toNat : Nat) : Int) = 34
            ·
              simp only [go_sem, ↓reduceIte, c1_0, c1_1, c1_2, c1_3, c1_4]
              refine hK _ (by first | rfl | (simp only [go_sem, ↓reduceIte, c1_0, c1_1, c1_2, c1_3, c1_4])) rfl ?_
              simp only [go_sem, ↓reduceIte, Nat.reduceEqDiff, AV.bool.injEq]; rw [Bool.eq_iff_iff]; simp [visB]; omega
            ·
              replace c1_4 := Classical.not_not.1 c1_4
              simp only [go_sem, ↓reduceIte, c1_0, c1_1, c1_2, c1_3, c1_4]
              refine hK _ (by first | rfl | (simp only [go_sem, ↓reduceIte, c1_0, c1_1, c1_2, c1_3, c1_4])) rfl ?_
              simp only [go_sem, ↓reduceIte, Nat.reduceEqDiff, AV.bool.injEq]; rw [Bool.eq_iff_iff]; simp [visB]; omega
          ·
            replace c1_3 := Classical.not_not.1 c1_3
            simp only [go_sem, ↓reduceIte, c1_0, c1_1, c1_2, c1_3]
            refine hK _ (by first | rfl | (simp only [go_sem, ↓reduceIte, c1_0, c1_1, c1_2, c1_3])) rfl ?_
            simp only [go_sem, ↓reduceIte, Nat.reduceEqDiff, AV.bool.injEq]; rw [Bool.eq_iff_iff]; simp [visB]; omega
        ·
          replace c1_2 := Classical.not_not.1 c1_2
          simp only [go_sem, ↓reduceIte, c1_0, c1_1, c1_2]
          refine hK _ (by first | rfl | (simp only [go_sem, ↓reduceIte, c1_0, c1_1, c1_2])) rfl ?_
          simp only [go_sem, ↓reduceIte, Nat.reduceEqDiff, AV.bool.injEq]; rw [Bool.eq_iff_iff]; simp [visB]; omega
      ·
        simp only [go_sem, ↓reduceIte, c1_0, c1_1]
        refine hK _ (by first | rfl | (simp only [go_sem, ↓reduceIte, c1_0, c1_1])) rfl ?_
        simp only [go_sem, ↓reduceIte, Nat.reduceEqDiff, AV.bool.injEq]; rw [Bool.eq_iff_iff]; simp [visB]; omega
    ·
      simp only [go_sem, ↓reduceIte, c1_0]
      refine hK _ (by first | rfl | (simp only [go_sem, ↓reduceIte, c1_0])) rfl ?_
      simp only [go_sem, ↓reduceIte, Nat.reduceEqDiff, AV.bool.injEq]; rw [Bool.eq_iff_iff]; simp [visB]; omega
  ·
    refine aw_ret ?_
    simp only [go_sem, ↓reduceIte, athen_ret]
theorem vis_outside (c : UInt8) : visB c = !outsideS c := by
  have : ∀ n : Fin 256, visB (UInt8.ofFin n) = !outsideS (UInt8.ofFin n) := by decide +kernel
  exact this c.toFin
theorem digitB_iff (c : UInt8) : digitB c = (decide (48 ≤ c.toNat) && decide (c.toNat ≤ 57)) := by
  have : ∀ n : Fin 256, digitB (UInt8.ofFin n) = (decide (48 ≤ (UInt8.ofFin n).toNat) && decide ((UInt8.ofFin n).toNat ≤ 57)) := by decide +kernel
  exact this c.toFin
/-! ### Digits -/
def cutD (s : List UInt8) : List UInt8 := if 1 < s.length ∧ s.head? = some 45 then s.tail else s
theorem cutD_numeric (s : List UInt8) : numericS s = (decide (cutD s ≠ []) && (cutD s).all digitB) := by
  unfold numericS cutMinus cutD
  match s with
  | [] => simp
  | [c] =>
    by_cases h : c = 45
    · subst h; decide
    · simp [h]
  | c :: d :: r => simp
theorem cutD_length (s : List UInt8) : (cutD s).length ≤ s.length := by
  unfold cutD; split <;> simp
theorem all_take {α : Type} (p : α → Bool) {u : List α} {i : Nat} (h : i < u.length) (ha : (u.take i).all p = true) : (u.take (i + 1)).all p = p u[i] := by
  rw [List.take_succ_eq_append_getElem h, List.all_append, ha]; simp
theorem all_bad {α : Type} (p : α → Bool) {u : List α} {i : Nat} (h : i < u.length) (hp : p u[i] = false) : u.all p = false := by
  rw [List.all_eq_false]; exact ⟨u[i], List.getElem_mem h, by simp [hp]⟩
theorem digits_call (s : List UInt8) (hl : s.length ≤ 4611686018427387904) : PCall CX 92 [.str s] (· = .ret (.bool (numericS s))) := by
  have hcl := cutD_length s
  rw [cutD_numeric]
  refine pcall_mk 0 32 [.tmp 2] Tryd.func92 rfl (by decide) rfl rfl rfl ?_
  refine aw_sreg {} rfl rfl fun K KP hK hP => ?_
  simp only [go_sem, ↓reduceIte]
  apply hK; clear hK hP
  refine aw_mid (fun st => [] = st.σ ∧ st.env 0 = .str (cutD s)) ?_ ?_
  ·
    refine aw_sregB {} 4 10 11 (.bool (decide (1 < s.length ∧ s.head? = some 45))) rfl rfl rfl (fun K KP hK hP => ?_) (fun junk1 => ?_)
    ·
      by_cases c1_0 : (1 : Int) < ((s.length : Nat) : Int)
      ·
        obtain ⟨c, r, hs⟩ : ∃ c r, s = c :: r := by cases s with | nil => simp at c1_0 | cons c r => exact ⟨c, r, rfl⟩
        have hlt : (1 : Int) < ((r.length + 1 : Nat) : Int) := by rw [hs] at c1_0; exact c1_0
        simp only [go_sem, ↓reduceIte, c1_0, hs, hlt]
        refine hK _ (by first | rfl | (simp only [go_sem, ↓reduceIte, c1_0, hs, hlt])) rfl ?_
        rw [hs] at c1_0 ⊢; simp only [go_sem, ↓reduceIte, Nat.reduceEqDiff, AV.bool.injEq]; rw [Bool.eq_iff_iff]; simp at c1_0; simp [c1_0, UInt8.toNat_inj.symm]; omega
      ·
        simp only [go_sem, ↓reduceIte, c1_0]
        refine hK _ (by first | rfl | (simp only [go_sem, ↓reduceIte, c1_0])) rfl ?_
        have hn : ¬ 1 < s.length := by omega
        simp only [go_sem, ↓reduceIte, Nat.reduceEqDiff]; simp [hn]
    ·
      refine aw_if (1 < s.length ∧ s.head? = some 45) (by simp only [go_sem, ↓reduceIte]) (fun h1 => ?_) (fun h1 => ?_)
      ·
        have hle : (1 : Int) ≤ (s.length : Int) := by omega
        have htl : List.take (s.length - 1) s.tail = s.tail := List.take_of_length_le (by rw [List.length_tail]; omega)
        refine aw_lreg {} rfl rfl fun K KP hK hP => ?_
        simp only [go_sem, ↓reduceIte, hle, htl]
        apply hK; clear hK hP
        refine athen_normal.2 ?_
        refine ⟨rfl, ?_⟩
        · simp only [go_sem, ↓reduceIte, hle, htl] <;> (
            simp [cutD, h1, htl])
      ·
        refine aw_skip ?_
        refine athen_normal.2 ?_
        refine ⟨rfl, ?_⟩
        · simp only [go_sem, ↓reduceIte] <;> (
            simp [cutD, h1])
  ·
    rintro ⟨envms1, σms1, nxms1⟩ ⟨hmss1, ms1_0⟩
    dsimp only at hmss1  ms1_0
    subst hmss1
    refine aw_seq ?_
    refine aw_sreg {} rfl rfl fun K KP hK hP => ?_
    simp only [go_sem, ↓reduceIte, ms1_0]
    apply hK; clear hK hP
    refine aw_block ?_
    refine aw_loop' (fun dd st => ∃ (i : Nat), (i ≤ (cutD s).length) ∧ (((cutD s).take i).all digitB = true) ∧ (cutD s).length - i = dd ∧ [] = st.σ ∧ st.env 0 = .str (cutD s) ∧ st.env 3 = .int .i64 (i : Nat)) (fun dd st hJ => ?_) ?_
    ·
      obtain ⟨env0, σ0, nx0⟩ := st
      obtain ⟨i, hp0_0, hp0_1, hd0, hs0, e0_0, e0_3⟩ := hJ
      dsimp only at hs0  e0_0 e0_3
      subst hd0; subst hs0
      refine aw_forget' 0 rfl ?_
      refine aw_seq ?_
      refine aw_sreg {} rfl rfl fun K KP hK hP => ?_
      simp only [go_sem, ↓reduceIte, ms1_0, e0_0, e0_3]
      apply hK; clear hK hP
      refine aw_if (i < (cutD s).length) (by simp only [go_sem, ↓reduceIte, ms1_0, e0_0, e0_3]) (fun h4 => ?_) (fun h4 => ?_)
      ·
        have hw1 : IntKind.wrap .i64 ((i : Int) + 1) = ((i + 1 : Nat) : Int) := by rw [wrap64 (by omega) (by omega)]; omega
        have hx : (cutD s)[i]? = some (cutD s)[i] := List.getElem?_eq_getElem h4
        have hra := all_take digitB h4 hp0_1
        refine aw_skip ?_
        refine athen_normal.2 ?_
        refine aw_seq ?_
        refine aw_block ?_
        refine aw_sregB {} 20 28 29 (.bool (decide (¬ digitB (cutD s)[i] = true))) rfl rfl rfl (fun K KP hK hP => ?_) (fun junk6 => ?_)
        ·
          by_cases c6_0 : (((cutD s)[i].toNat : Nat) : Int) < 48
          ·
            simp only [go_sem, ↓reduceIte, ms1_0, e0_0, e0_3, h4, hx, hw1, c6_0]
            refine hK _ (by first | rfl | (simp only [go_sem, ↓reduceIte, ms1_0, e0_0, e0_3, h4, hx, hw1, c6_0])) rfl ?_
            simp only [go_sem, ↓reduceIte, Nat.reduceEqDiff, AV.bool.injEq]; rw [Bool.eq_iff_iff]; simp [digitB_iff]; omega
          ·
            simp only [go_sem, ↓reduceIte, ms1_0, e0_0, e0_3, h4, hx, hw1, c6_0]
            refine hK _ (by first | rfl | (simp only [go_sem, ↓reduceIte, ms1_0, e0_0, e0_3, h4, hx, hw1, c6_0])) rfl ?_
            simp only [go_sem, ↓reduceIte, Nat.reduceEqDiff, AV.bool.injEq]; rw [Bool.eq_iff_iff]; simp [digitB_iff]; omega
        ·
          refine aw_if (¬ digitB (cutD s)[i] = true) (by simp only [go_sem, ↓reduceIte, ms1_0, e0_0, e0_3, h4, hx, hw1]) (fun h6 => ?_) (fun h6 => ?_)
          ·
            refine aw_sreg {} rfl rfl fun K KP hK hP => ?_
            simp only [go_sem, ↓reduceIte, ms1_0, e0_0, e0_3, h4, hx, hw1]
            apply hK; clear hK hP
            refine aw_ret ?_
            refine ablock_ret.2 ?_
            refine athen_ret.2 ?_
            refine afor_zero ?_
            refine athen_ret.2 ?_
            refine ablock_ret.2 ?_
            refine athen_ret.2 ?_
            simp only [go_sem, ↓reduceIte, ms1_0, e0_0, e0_3, h4, hx, hw1, athen_ret] <;> (
              rw [all_bad digitB h4 (by simpa using h6)]; simp)
          ·
            refine aw_skip ?_
            refine ablock_normal.2 ?_
            refine athen_normal.2 ?_
            refine aw_lreg {} rfl rfl fun K KP hK hP => ?_
            simp only [go_sem, ↓reduceIte, ms1_0, e0_0, e0_3, h4, hx, hw1]
            apply hK; clear hK hP
            refine afor_zero ?_
            refine athen_normal.2 ?_
            refine ⟨_, ?_, i + 1, ?_, ?_, rfl, rfl, ?_, ?_⟩
            · omega
            · first | omega | trivial | assumption
            · rw [hra]; simpa using h6
            · simp only [go_sem, ↓reduceIte, ms1_0, e0_0, e0_3, h4, hx, hw1] <;> try rfl
            · simp only [go_sem, ↓reduceIte, ms1_0, e0_0, e0_3, h4, hx, hw1] <;> try rfl
      ·
        refine aw_exit ?_
        refine athen_exit.2 ?_
        refine afor_zero ?_
        refine athen_exit.2 ?_
        refine ablock_here ?_
        refine athen_normal.2 ?_
        refine aw_sreg {} rfl rfl fun K KP hK hP => ?_
        simp only [go_sem, ↓reduceIte, ms1_0, e0_0, e0_3]
        apply hK; clear hK hP
        refine aw_ret ?_
        simp only [go_sem, ↓reduceIte, ms1_0, e0_0, e0_3, athen_ret] <;> (
          have hi : i = (cutD s).length := by omega
          rw [hi, List.take_length] at hp0_1
          rw [hp0_1]; simp)
    ·
      refine ⟨_, 0, ?_, ?_, rfl, ?_, ?_, ?_⟩
      · first | omega | trivial | assumption
      · rfl
      · first | rfl | (simp only [go_sem, ↓reduceIte, ms1_0])
      · simp only [go_sem, ↓reduceIte, ms1_0] <;> try rfl
      · simp only [go_sem, ↓reduceIte, ms1_0] <;> try rfl
theorem isWord_call (t : List UInt8) (hl : t.length ≤ 4611686018427387904) : PCall CX 80 [.str t] (· = .ret (.bool (wordS t && t.all fun c => !outsideS c))) := by
  refine pcall_mk 0 28 [.tmp 2] Tryd.func80 rfl (by decide) rfl rfl rfl ?_
  refine aw_sreg {} rfl rfl fun K KP hK hP => ?_
  simp only [go_sem, ↓reduceIte]
  apply hK; clear hK hP
  refine aw_seq ?_
  refine aw_sreg {} rfl rfl fun K KP hK hP => ?_
  simp only [go_sem, ↓reduceIte]
  apply hK; clear hK hP
  refine aw_block ?_
  refine aw_loop' (fun dd st => ∃ (i : Nat), (i ≤ t.length) ∧ (((t.take i).all fun c => !outsideS c) = true) ∧ t.length - i = dd ∧ [] = st.σ ∧ st.env 0 = .str t ∧ st.env 3 = .int .i64 (i : Nat)) (fun dd st hJ => ?_) ?_
  ·
    obtain ⟨env0, σ0, nx0⟩ := st
    obtain ⟨i, hp0_0, hp0_1, hd0, hs0, e0_0, e0_3⟩ := hJ
    dsimp only at hs0  e0_0 e0_3
    subst hd0; subst hs0
    refine aw_forget' 0 rfl ?_
    refine aw_seq ?_
    refine aw_sreg {} rfl rfl fun K KP hK hP => ?_
    simp only [go_sem, ↓reduceIte, e0_0, e0_3]
    apply hK; clear hK hP
    refine aw_if (i < t.length) (by simp only [go_sem, ↓reduceIte, e0_0, e0_3]) (fun h2 => ?_) (fun h2 => ?_)
    ·
      have hw1 : IntKind.wrap .i64 ((i : Int) + 1) = ((i + 1 : Nat) : Int) := by rw [wrap64 (by omega) (by omega)]; omega
      have hx : t[i]? = some t[i] := List.getElem?_eq_getElem h2
      have hra := all_take (fun c => !outsideS c) h2 hp0_1
      refine aw_skip ?_
      refine athen_normal.2 ?_
      refine aw_seq ?_
      refine aw_block ?_
      refine aw_sreg {} rfl rfl fun K KP hK hP => ?_
      simp only [go_sem, ↓reduceIte, e0_0, e0_3, h2, hx, hw1]
      refine CallP.ret (visible_call _) (by simp only [go_sem]) ?_
      try simp only [go_sem, ↓reduceIte, e0_0, e0_3, h2, hx, hw1]
      apply hK; clear hK hP
      refine aw_if (¬ visB t[i] = true) (by simp only [go_sem, ↓reduceIte, e0_0, e0_3, h2, hx, hw1]) (fun h4 => ?_) (fun h4 => ?_)
      ·
        refine aw_sreg {} rfl rfl fun K KP hK hP => ?_
        simp only [go_sem, ↓reduceIte, e0_0, e0_3, h2, hx, hw1]
        apply hK; clear hK hP
        refine aw_ret ?_
        refine ablock_ret.2 ?_
        refine athen_ret.2 ?_
        refine afor_zero ?_
        refine athen_ret.2 ?_
        refine ablock_ret.2 ?_
        refine athen_ret.2 ?_
        simp only [go_sem, ↓reduceIte, e0_0, e0_3, h2, hx, hw1, athen_ret] <;> (
          rw [all_bad (fun c => !outsideS c) h2 (by rw [← vis_outside]; simpa using h4)]; simp)
      ·
        refine aw_skip ?_
        refine ablock_normal.2 ?_
        refine athen_normal.2 ?_
        refine aw_lreg {} rfl rfl fun K KP hK hP => ?_
        simp only [go_sem, ↓reduceIte, e0_0, e0_3, h2, hx, hw1]
        apply hK; clear hK hP
        refine afor_zero ?_
        refine athen_normal.2 ?_
        refine ⟨_, ?_, i + 1, ?_, ?_, rfl, rfl, ?_, ?_⟩
        · omega
        · first | omega | trivial | assumption
        · rw [hra, ← vis_outside]; simpa using h4
        · simp only [go_sem, ↓reduceIte, e0_0, e0_3, h2, hx, hw1] <;> try rfl
        · simp only [go_sem, ↓reduceIte, e0_0, e0_3, h2, hx, hw1] <;> try rfl
    ·
      have hi : i = t.length := by omega
      rw [hi, List.take_length] at hp0_1
      refine aw_exit ?_
      refine athen_exit.2 ?_
      refine afor_zero ?_
      refine athen_exit.2 ?_
      refine ablock_here ?_
      refine athen_normal.2 ?_
      refine aw_sregB {} 15 27 2 (.bool (wordS t)) rfl rfl rfl (fun K KP hK hP => ?_) (fun junk6 => ?_)
      ·
        by_cases c6_0 : (1 : Int) ≤ ((t.length : Nat) : Int)
        ·
          by_cases c6_1 : ((t.length : Nat) : Int) ≤ 30
          ·
            simp only [go_sem, ↓reduceIte, e0_0, e0_3, c6_0, c6_1]
            refine CallP.ret (digits_call t hl) (by simp only [go_sem]) ?_
            try simp only [go_sem, ↓reduceIte, e0_0, e0_3, c6_0, c6_1]
            refine hK _ (by first | rfl | (simp only [go_sem, ↓reduceIte, e0_0, e0_3, c6_0, c6_1])) rfl ?_
            have hn : t.length ≤ 30 := by omega
            have hne : ¬ t = [] := fun e => by rw [e] at c6_0; simp at c6_0
            simp only [go_sem, ↓reduceIte, Nat.reduceEqDiff]; simp [wordS, hn, hne]
          ·
            simp only [go_sem, ↓reduceIte, e0_0, e0_3, c6_0, c6_1]
            refine hK _ (by first | rfl | (simp only [go_sem, ↓reduceIte, e0_0, e0_3, c6_0, c6_1])) rfl ?_
            have hn : ¬ t.length ≤ 30 := by omega
            simp only [go_sem, ↓reduceIte, Nat.reduceEqDiff]; simp [wordS, hn]
        ·
          simp only [go_sem, ↓reduceIte, e0_0, e0_3, c6_0]
          refine hK _ (by first | rfl | (simp only [go_sem, ↓reduceIte, e0_0, e0_3, c6_0])) rfl ?_
          have hn : t = [] := List.eq_nil_of_length_eq_zero (by omega)
          subst hn; simp only [go_sem, ↓reduceIte, Nat.reduceEqDiff]; simp [wordS]
      ·
        refine aw_ret ?_
        simp only [go_sem, ↓reduceIte, e0_0, e0_3, athen_ret] <;> (
          rw [hp0_1]; simp)
  ·
    refine ⟨_, 0, ?_, ?_, rfl, ?_, ?_, ?_⟩
    · first | omega | trivial | assumption
    · rfl
    · first | rfl | (simp only [go_sem, ↓reduceIte])
    · simp only [go_sem, ↓reduceIte] <;> try rfl
    · simp only [go_sem, ↓reduceIte] <;> try rfl
end Go.Ab
