/-
  THE REFERENCE's functions on forms.
-/
import Derived.Test.YtmompmackgknbaaDoorF4
set_option linter.unusedVariables false
set_option linter.unusedSimpArgs false
set_option maxRecDepth 100000
namespace Go.Ab
open Go Go.RowKit Go.Proofs

theorem signI_call (a b : Int) : PCall CX 59 [.bool (decide (a < b)), .bool (decide (b < a))] (· = .ret (.int .i64 (cmpI a b))) :=
  (sign_call _ _).mono fun o h => h.trans (by unfold cmpI; by_cases h1 : a < b <;> by_cases h2 : b < a <;> simp [h1, h2])
def cmpN (a b : Nat) : Int := if a < b then -1 else if b < a then 1 else 0
theorem signN_call (a b : Nat) : PCall CX 59 [.bool (decide (a < b)), .bool (decide (b < a))] (· = .ret (.int .i64 (cmpN a b))) :=
  (sign_call _ _).mono fun o h => h.trans (by unfold cmpN; by_cases h1 : a < b <;> by_cases h2 : b < a <;> simp [h1, h2])
theorem signS_call (a b : List UInt8) : PCall CX 59 [.bool (Op.bytesLess a b), .bool (!(Op.bytesLess a b || decide (a = b)))] (· = .ret (.int .i64 (cmpS a b))) :=
  (sign_call _ _).mono fun o h => h.trans (by unfold cmpS; cases Op.bytesLess a b <;> by_cases h2 : a = b <;> simp [h2])
theorem cmpL_end {l m : List Fm} {i : Nat} (h : i ≤ l.length) (h' : i ≤ m.length) (hi : ¬ (i < l.length ∧ i < m.length)) : cmpL (l.drop i) (m.drop i) = cmpN l.length m.length := by
  unfold cmpN
  rcases Nat.lt_or_ge i l.length with h1 | h1
  · have : i = m.length := by omega
    subst this
    rw [List.drop_length, List.drop_eq_getElem_cons h1, if_neg (by omega), if_pos h1]; rfl
  · have : i = l.length := by omega
    subst this
    rw [List.drop_length]
    rcases Nat.lt_or_ge l.length m.length with h2 | h2
    · rw [List.drop_eq_getElem_cons h2, if_pos h2]; rfl
    · rw [List.drop_of_length_le h2, if_neg (by omega), if_neg (by omega)]; rfl

theorem refCompare_call : ∀ f : Fm, f.big ≤ 4611686018427387904 → ∀ g : Fm, PCall CX 24 [f.av, g.av] (· = .ret (.int .i64 (cmpF f g))) := Fm.ind fun k n t nl l ih hbig g => by
  obtain ⟨k', n', t', nl', l'⟩ := g
  have hlen := length_le_big l
  simp only [Fm.big] at hbig
  refine pcall_mk 0 97 [.tmp 4] Tryd.func24 rfl (by decide) rfl rfl rfl ?_
  simp only [go_sem]
  refine aw_sreg {} rfl rfl fun K KP hK hP => ?_
  simp only [go_sem, ↓reduceIte]
  apply hK; clear hK hP
  refine aw_seq ?_
  refine aw_sreg {} rfl rfl fun K KP hK hP => ?_
  simp only [go_sem, ↓reduceIte]
  apply hK; clear hK hP
  refine aw_if (¬ k = k') (by simp only [go_sem, ↓reduceIte]) (fun h1 => ?_) (fun h1 => ?_)
  ·
    refine aw_sreg {} rfl rfl fun K KP hK hP => ?_
    simp only [go_sem, ↓reduceIte]
    refine CallP.ret (signI_call _ _) (by simp only [go_sem]) ?_
    try simp only [go_sem, ↓reduceIte]
    apply hK; clear hK hP
    refine aw_ret ?_
    refine athen_ret.2 ?_
    simp only [go_sem, ↓reduceIte, athen_ret] <;> (
      simp [cmpF, Fm.k, h1])
  ·
    refine aw_skip ?_
    refine athen_normal.2 ?_
    refine aw_seq ?_
    refine aw_sreg {} rfl rfl fun K KP hK hP => ?_
    simp only [go_sem, ↓reduceIte]
    apply hK; clear hK hP
    refine aw_block ?_
    refine aw_sreg {} rfl rfl fun K KP hK hP => ?_
    simp only [go_sem, ↓reduceIte]
    apply hK; clear hK hP
    refine aw_if (k = 0) (by simp only [go_sem, ↓reduceIte]) (fun h4 => ?_) (fun h4 => ?_)
    ·
      refine aw_sreg {} rfl rfl fun K KP hK hP => ?_
      simp only [go_sem, ↓reduceIte]
      refine CallP.ret (signI_call _ _) (by simp only [go_sem]) ?_
      try simp only [go_sem, ↓reduceIte]
      apply hK; clear hK hP
      refine aw_ret ?_
      refine ablock_ret.2 ?_
      refine athen_ret.2 ?_
      simp only [go_sem, ↓reduceIte, athen_ret] <;> (
        simp_all [cmpF, Fm.k, Fm.n])
    ·
      refine aw_seq ?_
      refine aw_sreg {} rfl rfl fun K KP hK hP => ?_
      simp only [go_sem, ↓reduceIte]
      apply hK; clear hK hP
      refine aw_if (k = 1) (by simp only [go_sem, ↓reduceIte]) (fun h6 => ?_) (fun h6 => ?_)
      ·
        refine aw_skip ?_
        refine athen_normal.2 ?_
        refine aw_if (True) (by simp only [go_sem, ↓reduceIte, h6]) (fun h6s => ?_) (fun h6s => ?_)
        ·
          refine aw_sreg {} rfl rfl fun K KP hK hP => ?_
          simp only [go_sem, ↓reduceIte]
          refine CallP.ret (signS_call _ _) (by simp only [go_sem]) ?_
          try simp only [go_sem, ↓reduceIte]
          apply hK; clear hK hP
          refine aw_ret ?_
          refine ablock_ret.2 ?_
          refine athen_ret.2 ?_
          simp only [go_sem, ↓reduceIte, athen_ret] <;> (
            simp_all [cmpF, Fm.k, Fm.t])
        ·
          exact absurd trivial h6s
      ·
        refine aw_lreg {} rfl rfl fun K KP hK hP => ?_
        simp only [go_sem, ↓reduceIte]
        apply hK; clear hK hP
        refine athen_normal.2 ?_
        refine aw_if (k = 2) (by simp only [go_sem, ↓reduceIte]) (fun h7 => ?_) (fun h7 => ?_)
        ·
          refine aw_sreg {} rfl rfl fun K KP hK hP => ?_
          simp only [go_sem, ↓reduceIte]
          refine CallP.ret (signS_call _ _) (by simp only [go_sem]) ?_
          try simp only [go_sem, ↓reduceIte]
          apply hK; clear hK hP
          refine aw_ret ?_
          refine ablock_ret.2 ?_
          refine athen_ret.2 ?_
          simp only [go_sem, ↓reduceIte, athen_ret] <;> (
            simp_all [cmpF, Fm.k, Fm.t])
        ·
          refine aw_sreg {} rfl rfl fun K KP hK hP => ?_
          simp only [go_sem, ↓reduceIte]
          apply hK; clear hK hP
          refine aw_if (k = 3) (by simp only [go_sem, ↓reduceIte]) (fun h9 => ?_) (fun h9 => ?_)
          ·
            refine aw_seq ?_
            refine aw_sreg {} rfl rfl fun K KP hK hP => ?_
            simp only [go_sem, ↓reduceIte]
            apply hK; clear hK hP
            refine aw_block ?_
            refine aw_loop' (fun dd st => ∃ (i : Nat), (i ≤ l.length) ∧ (i ≤ l'.length) ∧ (cmpL l l' = cmpL (l.drop i) (l'.drop i)) ∧ l.length - i = dd ∧ [] = st.σ ∧ st.env 2 = .rptr [.int .i64 k, .int .i64 n, .str t, kidsA nl (l.map Fm.cells)] ∧ st.env 3 = .rptr [.int .i64 k', .int .i64 n', .str t', kidsA nl' (l'.map Fm.cells)] ∧ st.env 5 = .int .i64 (i : Nat)) (fun dd st hJ => ?_) ?_
            ·
              obtain ⟨env1, σ1, nx1⟩ := st
              obtain ⟨i, hp1_0, hp1_1, hp1_2, hd1, hs1, e1_2, e1_3, e1_5⟩ := hJ
              dsimp only at hs1  e1_2 e1_3 e1_5
              subst hd1; subst hs1
              refine aw_forget' 0 rfl ?_
              refine aw_seq ?_
              by_cases c11_0 : i < l.length
              ·
                by_cases c11_1 : i < l'.length
                ·
                  refine aw_sreg {} rfl rfl fun K KP hK hP => ?_
                  simp only [go_sem, ↓reduceIte, e1_2, e1_3, e1_5, c11_0, c11_1]
                  apply hK; clear hK hP
                  refine aw_if (True) (by simp only [go_sem, ↓reduceIte, e1_2, e1_3, e1_5, c11_0, c11_1]) (fun h11 => ?_) (fun h11 => ?_)
                  ·
                    have hw1 : IntKind.wrap .i64 ((i : Int) + 1) = ((i + 1 : Nat) : Int) := by rw [wrap64 (by omega) (by omega)]; omega
                    have hdr := cmpL_drop c11_0 c11_1
                    have hb := big_mem (List.getElem_mem c11_0)
                    refine aw_skip ?_
                    refine athen_normal.2 ?_
                    refine aw_seq ?_
                    refine aw_block ?_
                    refine aw_sdraw {} [] [0, 1, 0, 7, 15, 0, 32, 0, 224, 480, 1023, 2047] mixed (by kernel_rfl) rfl rfl fun K KP hK hP => ?_
                    simp only [go_sem, ↓reduceIte, e1_2, e1_3, e1_5, c11_0, c11_1, getD_cells c11_0, getD_cells c11_1, hw1]
                    refine CallP.ret (ih _ (List.getElem_mem c11_0) (by omega) _) (by simp only [go_sem]) ?_
                    try simp only [go_sem, ↓reduceIte, e1_2, e1_3, e1_5, c11_0, c11_1, getD_cells c11_0, getD_cells c11_1, hw1]
                    apply hK; clear hK hP
                    refine aw_sreg {} rfl rfl fun K KP hK hP => ?_
                    simp only [go_sem, ↓reduceIte, e1_2, e1_3, e1_5, c11_0, c11_1, getD_cells c11_0, getD_cells c11_1, hw1]
                    apply hK; clear hK hP
                    refine aw_if (¬ cmpF l[i] l'[i] = 0) (by simp only [go_sem, ↓reduceIte, e1_2, e1_3, e1_5, c11_0, c11_1, getD_cells c11_0, getD_cells c11_1, hw1]) (fun h14 => ?_) (fun h14 => ?_)
                    ·
                      refine aw_sreg {} rfl rfl fun K KP hK hP => ?_
                      simp only [go_sem, ↓reduceIte, e1_2, e1_3, e1_5, c11_0, c11_1, getD_cells c11_0, getD_cells c11_1, hw1]
                      apply hK; clear hK hP
                      refine aw_ret ?_
                      refine ablock_ret.2 ?_
                      refine athen_ret.2 ?_
                      refine afor_zero ?_
                      refine athen_ret.2 ?_
                      refine ablock_ret.2 ?_
                      refine athen_ret.2 ?_
                      refine ablock_ret.2 ?_
                      refine athen_ret.2 ?_
                      simp only [go_sem, ↓reduceIte, e1_2, e1_3, e1_5, c11_0, c11_1, getD_cells c11_0, getD_cells c11_1, hw1, athen_ret] <;> (
                        simp only [cmpF, Fm.k, Fm.l]
                        simp_all)
                    ·
                      refine aw_skip ?_
                      refine ablock_normal.2 ?_
                      refine athen_normal.2 ?_
                      refine aw_lreg {} rfl rfl fun K KP hK hP => ?_
                      simp only [go_sem, ↓reduceIte, e1_2, e1_3, e1_5, c11_0, c11_1, getD_cells c11_0, getD_cells c11_1, hw1]
                      apply hK; clear hK hP
                      refine afor_zero ?_
                      refine athen_normal.2 ?_
                      refine ⟨_, ?_, i + 1, ?_, ?_, ?_, rfl, rfl, ?_, ?_, ?_⟩
                      · omega
                      · first | omega | trivial | assumption
                      · first | omega | trivial | assumption
                      · rw [hp1_2, hdr, if_neg h14]
                      · simp only [go_sem, ↓reduceIte, e1_2, e1_3, e1_5, c11_0, c11_1, getD_cells c11_0, getD_cells c11_1, hw1] <;> try rfl
                      · simp only [go_sem, ↓reduceIte, e1_2, e1_3, e1_5, c11_0, c11_1, getD_cells c11_0, getD_cells c11_1, hw1] <;> try rfl
                      · simp only [go_sem, ↓reduceIte, e1_2, e1_3, e1_5, c11_0, c11_1, getD_cells c11_0, getD_cells c11_1, hw1] <;> try rfl
                  ·
                    exact absurd trivial h11
                ·
                  refine aw_sreg {} rfl rfl fun K KP hK hP => ?_
                  simp only [go_sem, ↓reduceIte, e1_2, e1_3, e1_5, c11_0, c11_1]
                  apply hK; clear hK hP
                  refine aw_if (False) (by simp only [go_sem, ↓reduceIte, e1_2, e1_3, e1_5, c11_0, c11_1]) (fun h11 => ?_) (fun h11 => ?_)
                  ·
                    exact h11.elim
                  ·
                    refine aw_exit ?_
                    refine athen_exit.2 ?_
                    refine afor_zero ?_
                    refine athen_exit.2 ?_
                    refine ablock_here ?_
                    refine athen_normal.2 ?_
                    refine aw_sreg {} rfl rfl fun K KP hK hP => ?_
                    simp only [go_sem, ↓reduceIte, e1_2, e1_3, e1_5, c11_0, c11_1]
                    refine CallP.ret (signN_call _ _) (by simp only [go_sem]) ?_
                    try simp only [go_sem, ↓reduceIte, e1_2, e1_3, e1_5, c11_0, c11_1]
                    apply hK; clear hK hP
                    refine aw_ret ?_
                    refine ablock_ret.2 ?_
                    refine athen_ret.2 ?_
                    simp only [go_sem, ↓reduceIte, e1_2, e1_3, e1_5, c11_0, c11_1, athen_ret] <;> (
                      have he := cmpL_end hp1_0 hp1_1 (by omega)
                      simp_all [cmpF, Fm.k, Fm.l])
              ·
                refine aw_sreg {} rfl rfl fun K KP hK hP => ?_
                simp only [go_sem, ↓reduceIte, e1_2, e1_3, e1_5, c11_0]
                apply hK; clear hK hP
                refine aw_if (False) (by simp only [go_sem, ↓reduceIte, e1_2, e1_3, e1_5, c11_0]) (fun h11 => ?_) (fun h11 => ?_)
                ·
                  exact h11.elim
                ·
                  refine aw_exit ?_
                  refine athen_exit.2 ?_
                  refine afor_zero ?_
                  refine athen_exit.2 ?_
                  refine ablock_here ?_
                  refine athen_normal.2 ?_
                  refine aw_sreg {} rfl rfl fun K KP hK hP => ?_
                  simp only [go_sem, ↓reduceIte, e1_2, e1_3, e1_5, c11_0]
                  refine CallP.ret (signN_call _ _) (by simp only [go_sem]) ?_
                  try simp only [go_sem, ↓reduceIte, e1_2, e1_3, e1_5, c11_0]
                  apply hK; clear hK hP
                  refine aw_ret ?_
                  refine ablock_ret.2 ?_
                  refine athen_ret.2 ?_
                  simp only [go_sem, ↓reduceIte, e1_2, e1_3, e1_5, c11_0, athen_ret] <;> (
                    have he := cmpL_end hp1_0 hp1_1 (by omega)
                    simp_all [cmpF, Fm.k, Fm.l])
            ·
              refine ⟨_, 0, ?_, ?_, ?_, rfl, ?_, ?_, ?_, ?_⟩
              · first | omega | trivial | assumption
              · first | omega | trivial | assumption
              · first | omega | trivial | assumption
              · first | rfl | (simp only [go_sem, ↓reduceIte])
              · simp only [go_sem, ↓reduceIte] <;> try rfl
              · simp only [go_sem, ↓reduceIte] <;> try rfl
              · simp only [go_sem, ↓reduceIte] <;> try rfl
          ·
            refine aw_skip ?_
            refine ablock_normal.2 ?_
            refine athen_normal.2 ?_
            refine aw_sreg {} rfl rfl fun K KP hK hP => ?_
            simp only [go_sem, ↓reduceIte]
            apply hK; clear hK hP
            refine aw_ret ?_
            simp only [go_sem, ↓reduceIte, athen_ret] <;> (
              simp_all [cmpF, Fm.k])
end Go.Ab
