/-
  THE TERM OF A SUM, as the reference tells it.
-/
import Derived.Test.YtmompmackgknbaaDoorF25
set_option linter.unusedVariables false
set_option linter.unusedSimpArgs false
set_option maxRecDepth 100000
namespace Go.Ab
open Go Go.RowKit Go.Proofs

def accT : List Fm → Fm
  | [] => zeroF
  | f :: r => r.foldl (binF plusB) f
theorem accT_app (L : List Fm) (x : Fm) : accT (L ++ [x]) = if L = [] then x else binF plusB (accT L) x := by
  cases L with
  | nil => rfl
  | cons f r => simp [accT, List.foldl_append]
theorem termS_acc (s : Sm) : termS s = if s.l = [] then numF s.k else if s.k = 0 then accT (s.l.map termP) else binF plusB (accT (s.l.map termP)) (numF s.k) := by
  obtain ⟨k, nl, l⟩ := s
  cases l with
  | nil => simp [termS, termL, foldF]
  | cons p r =>
    by_cases hk : k = 0
    · simp [termS, termL, foldF, accT, hk]
    · simp [termS, termL, foldF, accT, hk, List.foldl_append]
theorem termS_bound {k : Int} {nl : Bool} {l : List Pt} (hv : validSm ⟨k, nl, l⟩ = true) (hl : l.length ≤ 10000000000) : (termS ⟨k, nl, l⟩).big ≤ 4611686018427387904 := by
  have hgood := validSm_good hv
  have hvb : ∀ p ∈ l, p.t.big ≤ 40020000 := fun p hp => validF_big (hgood.1.ok p hp).2.2
  have h1 := termL_big (s := ⟨k, nl, l⟩) hvb
  have h5 : (termL ⟨k, nl, l⟩).length ≤ l.length + 1 := by simp only [termL, List.length_append, List.length_map]; split <;> simp
  unfold termS
  cases h : termL ⟨k, nl, l⟩ with
  | nil => simp [foldF, numF, Fm.big, Fm.bigL]
  | cons f0 r =>
    rw [h] at h1 h5
    have h2 := bigL_max r 40020004 (fun f hf => h1 f (by simp [hf]))
    have h3 := h1 f0 (by simp)
    rw [List.length_cons] at h5
    rw [foldF, big_foldl]
    have h4 : r.length * 40020004 ≤ 10000000000 * 40020004 := Nat.mul_le_mul_right _ (by omega)
    omega
theorem refTerm_call (k : Int) (nl : Bool) (l : List Pt) (hl : l.length ≤ 10000000000) (hb : ∀ p ∈ l, p.t.big ≤ 1000000000000) : PCall CX 21 [Sm.av ⟨k, nl, l⟩] (· = formE (termE ⟨k, nl, l⟩)) := by
  have hrv := rvalid_call' ⟨k, nl, l⟩ (fun p hp => by have := hb p hp; omega) (by simp only; omega)
  refine pcall_mk 1 72 [.cell 2 24, .tmp 3] Tryd.func21 rfl (by decide) rfl rfl rfl ?_
  simp only [go_sem]
  refine aw_sreg {} rfl (by simp only [allocObjs, go_sem]; rfl) fun K KP hK hP => ?_
  simp only [go_sem, ↓reduceIte]
  apply hK; clear hK hP
  refine aw_seq ?_
  refine aw_sreg {} rfl rfl fun K KP hK hP => ?_
  simp only [go_sem, ↓reduceIte]
  refine CallP.ret (by simpa only [go_sem] using hrv) (by simp only [go_sem]) ?_
  try simp only [go_sem, ↓reduceIte]
  apply hK; clear hK hP
  refine aw_if (¬ validSm ⟨k, nl, l⟩ = true) (by simp only [go_sem, ↓reduceIte]) (fun h1 => ?_) (fun h1 => ?_)
  ·
    refine aw_sreg {} rfl rfl fun K KP hK hP => ?_
    simp only [go_sem, ↓reduceIte]
    apply hK; clear hK hP
    refine aw_ret ?_
    refine athen_ret.2 ?_
    simp only [go_sem, ↓reduceIte, athen_ret] <;> (
      simp [formE, termE, h1, go_sem, zeroF, kidsA])
  ·
    have hv : validSm ⟨k, nl, l⟩ = true := Classical.not_not.1 h1
    have hgood := validSm_good hv
    have hvb : ∀ p ∈ l, p.t.big ≤ 40020000 := fun p hp => validF_big (hgood.1.ok p hp).2.2
    refine aw_skip ?_
    refine athen_normal.2 ?_
    refine aw_sreg {} rfl (by simp only [allocObjs, go_sem]; rfl) fun K KP hK hP => ?_
    simp only [go_sem, ↓reduceIte]
    apply hK; clear hK hP
    refine aw_seq ?_
    refine aw_sreg {} rfl rfl fun K KP hK hP => ?_
    simp only [go_sem, ↓reduceIte]
    apply hK; clear hK hP
    refine aw_block ?_
    refine aw_loop' (fun dd st => ∃ (i : Nat), (i ≤ l.length) ∧ l.length - i = dd ∧ [(0, .cells 24 zeroRow), (1, .cells 24 (accT ((l.map termP).take i)).cells)] = st.σ ∧ st.env 1 = .rptr [.int .i64 k, termsA nl (l.map Pt.row)] ∧ st.env 2 = .ref 0 0 0 ∧ st.env 4 = .ref 1 1 0 ∧ st.env 5 = .int .i64 (i : Nat)) (fun dd st hJ => ?_) ?_
    ·
      obtain ⟨env0, σ0, nx0⟩ := st
      obtain ⟨i, hp0_0, hd0, hs0, e0_1, e0_2, e0_4, e0_5⟩ := hJ
      dsimp only at hs0  e0_1 e0_2 e0_4 e0_5
      subst hd0; subst hs0
      refine aw_forget' 2 rfl ?_
      refine aw_seq ?_
      refine aw_sreg {} rfl rfl fun K KP hK hP => ?_
      simp only [go_sem, ↓reduceIte, e0_1, e0_2, e0_4, e0_5]
      apply hK; clear hK hP
      refine aw_if (i < l.length) (by simp only [go_sem, ↓reduceIte, e0_1, e0_2, e0_4, e0_5]) (fun h5 => ?_) (fun h5 => ?_)
      ·
        have hw1 : IntKind.wrap .i64 ((i : Int) + 1) = ((i + 1 : Nat) : Int) := by rw [wrap64 (by omega) (by omega)]; omega
        refine aw_skip ?_
        refine athen_normal.2 ?_
        refine aw_seq ?_
        refine aw_block ?_
        refine aw_sreg {} rfl (by simp only [allocObjs, go_sem]; rfl) fun K KP hK hP => ?_
        simp only [go_sem, ↓reduceIte, e0_1, e0_2, e0_4, e0_5, h5, getD_rows h5, hw1]
        apply hK; clear hK hP
        refine aw_mid (fun st => ∃ (tc : List AV), (tc = (termP l[i]).cells) ∧ [(0, .cells 24 zeroRow), (1, .cells 24 (accT ((l.map termP).take i)).cells), (nx0, .cells 24 tc)] = st.σ ∧ st.env 1 = .rptr [.int .i64 k, termsA nl (l.map Pt.row)] ∧ st.env 2 = .ref 0 0 0 ∧ st.env 4 = .ref 1 1 0 ∧ st.env 5 = .int .i64 (i : Nat) ∧ st.env 6 = .ref 2 nx0 0) ?_ ?_
        ·
          refine aw_sreg {} rfl rfl fun K KP hK hP => ?_
          simp only [go_sem, ↓reduceIte, e0_1, e0_2, e0_4, e0_5, h5, getD_rows h5, hw1]
          apply hK; clear hK hP
          refine aw_if (¬ l[i].c = 1) (by simp only [go_sem, ↓reduceIte, e0_1, e0_2, e0_4, e0_5, h5, getD_rows h5, hw1]) (fun h8 => ?_) (fun h8 => ?_)
          ·
            refine aw_ldraw {} [] [0, 0, 2, 0, 14, 30, 62, 127, 0, 511, 1023, 2047] mixed (by kernel_rfl) rfl rfl fun K KP hK hP => ?_
            simp only [go_sem, ↓reduceIte, e0_1, e0_2, e0_4, e0_5, h5, getD_rows h5, hw1, List.replicate_succ]
            refine CallP.ret (refWord_call starB) (by simp only [go_sem]) ?_
            try simp only [go_sem, ↓reduceIte, e0_1, e0_2, e0_4, e0_5, h5, getD_rows h5, hw1, List.replicate_succ]
            refine CallP.ret (refNum_call _) (by simp only [go_sem]) ?_
            try simp only [go_sem, ↓reduceIte, e0_1, e0_2, e0_4, e0_5, h5, getD_rows h5, hw1, List.replicate_succ]
            refine CallP.ret (refList_call false [wordF starB, numF l[i].c, l[i].t]) (by simp only [go_sem, List.map_cons, List.map_nil, kidsA]) ?_
            try simp only [go_sem, ↓reduceIte, e0_1, e0_2, e0_4, e0_5, h5, getD_rows h5, hw1, List.replicate_succ]
            apply hK; clear hK hP
            refine athen_normal.2 ?_
            refine ⟨_, ?_, rfl, ?_, ?_, ?_, ?_, ?_⟩
            · simp [termP_ne h8, cells_mk]
            · simp only [go_sem, ↓reduceIte, e0_1, e0_2, e0_4, e0_5, h5, getD_rows h5, hw1] <;> try rfl
            · simp only [go_sem, ↓reduceIte, e0_1, e0_2, e0_4, e0_5, h5, getD_rows h5, hw1] <;> try rfl
            · simp only [go_sem, ↓reduceIte, e0_1, e0_2, e0_4, e0_5, h5, getD_rows h5, hw1] <;> try rfl
            · simp only [go_sem, ↓reduceIte, e0_1, e0_2, e0_4, e0_5, h5, getD_rows h5, hw1] <;> try rfl
            · simp only [go_sem, ↓reduceIte, e0_1, e0_2, e0_4, e0_5, h5, getD_rows h5, hw1] <;> try rfl
          ·
            refine aw_skip ?_
            refine athen_normal.2 ?_
            refine ⟨_, ?_, rfl, ?_, ?_, ?_, ?_, ?_⟩
            · rw [termP_eq (Classical.not_not.1 h8)]
            · simp only [go_sem, ↓reduceIte, e0_1, e0_2, e0_4, e0_5, h5, getD_rows h5, hw1] <;> try rfl
            · simp only [go_sem, ↓reduceIte, e0_1, e0_2, e0_4, e0_5, h5, getD_rows h5, hw1] <;> try rfl
            · simp only [go_sem, ↓reduceIte, e0_1, e0_2, e0_4, e0_5, h5, getD_rows h5, hw1] <;> try rfl
            · simp only [go_sem, ↓reduceIte, e0_1, e0_2, e0_4, e0_5, h5, getD_rows h5, hw1] <;> try rfl
            · simp only [go_sem, ↓reduceIte, e0_1, e0_2, e0_4, e0_5, h5, getD_rows h5, hw1] <;> try rfl
        ·
          rintro ⟨envms8, σms8, nxms8⟩ ⟨tc, hms8_0, hmss8, ms8_1, ms8_2, ms8_4, ms8_5, ms8_6⟩
          dsimp only at hmss8  ms8_1 ms8_2 ms8_4 ms8_5 ms8_6
          subst hmss8
          subst hms8_0
          refine aw_mid (fun st => ∃ (td : List AV), (td = (accT ((l.map termP).take (i + 1))).cells) ∧ [(0, .cells 24 zeroRow), (1, .cells 24 (accT ((l.map termP).take i)).cells), (nx0, .cells 24 td)] = st.σ ∧ st.env 1 = .rptr [.int .i64 k, termsA nl (l.map Pt.row)] ∧ st.env 2 = .ref 0 0 0 ∧ st.env 4 = .ref 1 1 0 ∧ st.env 5 = .int .i64 (i : Nat) ∧ st.env 6 = .ref 2 nx0 0) ?_ ?_
          ·
            have hacc : accT ((l.map termP).take (i + 1)) = if i = 0 then termP l[i] else binF plusB (accT ((l.map termP).take i)) (termP l[i]) := by
              rw [List.take_succ_eq_append_getElem (by simpa using h5), accT_app]
              have : (List.take i (l.map termP) = []) = (i = 0) := propext (by rw [List.take_eq_nil_iff]; simp; intro h; subst h; simp at h5)
              simp [this]
            refine aw_sreg {} rfl rfl fun K KP hK hP => ?_
            simp only [go_sem, ↓reduceIte, e0_1, e0_2, e0_4, e0_5, h5, getD_rows h5, hw1, ms8_1, ms8_2, ms8_4, ms8_5, ms8_6]
            apply hK; clear hK hP
            refine aw_if (0 < i) (by simp only [go_sem, ↓reduceIte, e0_1, e0_2, e0_4, e0_5, h5, getD_rows h5, hw1, ms8_1, ms8_2, ms8_4, ms8_5, ms8_6]) (fun h10 => ?_) (fun h10 => ?_)
            ·
              refine aw_ldraw {} [] [0, 0, 0, 7, 15, 31] mixed (by kernel_rfl) rfl rfl fun K KP hK hP => ?_
              simp only [go_sem, ↓reduceIte, e0_1, e0_2, e0_4, e0_5, h5, getD_rows h5, hw1, ms8_1, ms8_2, ms8_4, ms8_5, ms8_6, List.replicate_succ]
              refine CallP.ret (refWord_call plusB) (by simp only [go_sem]) ?_
              try simp only [go_sem, ↓reduceIte, e0_1, e0_2, e0_4, e0_5, h5, getD_rows h5, hw1, ms8_1, ms8_2, ms8_4, ms8_5, ms8_6, List.replicate_succ]
              refine CallP.ret (refList_call false [wordF plusB, accT ((l.map termP).take i), termP l[i]]) (by simp only [go_sem, List.map_cons, List.map_nil, kidsA]) ?_
              try simp only [go_sem, ↓reduceIte, e0_1, e0_2, e0_4, e0_5, h5, getD_rows h5, hw1, ms8_1, ms8_2, ms8_4, ms8_5, ms8_6, List.replicate_succ]
              apply hK; clear hK hP
              refine athen_normal.2 ?_
              refine ⟨_, ?_, rfl, ?_, ?_, ?_, ?_, ?_⟩
              · rw [hacc, if_neg (by omega)]; simp [cells_mk, binF]
              · simp only [go_sem, ↓reduceIte, e0_1, e0_2, e0_4, e0_5, h5, getD_rows h5, hw1, ms8_1, ms8_2, ms8_4, ms8_5, ms8_6] <;> try rfl
              · simp only [go_sem, ↓reduceIte, e0_1, e0_2, e0_4, e0_5, h5, getD_rows h5, hw1, ms8_1, ms8_2, ms8_4, ms8_5, ms8_6] <;> try rfl
              · simp only [go_sem, ↓reduceIte, e0_1, e0_2, e0_4, e0_5, h5, getD_rows h5, hw1, ms8_1, ms8_2, ms8_4, ms8_5, ms8_6] <;> try rfl
              · simp only [go_sem, ↓reduceIte, e0_1, e0_2, e0_4, e0_5, h5, getD_rows h5, hw1, ms8_1, ms8_2, ms8_4, ms8_5, ms8_6] <;> try rfl
              · simp only [go_sem, ↓reduceIte, e0_1, e0_2, e0_4, e0_5, h5, getD_rows h5, hw1, ms8_1, ms8_2, ms8_4, ms8_5, ms8_6] <;> try rfl
            ·
              refine aw_skip ?_
              refine athen_normal.2 ?_
              refine ⟨_, ?_, rfl, ?_, ?_, ?_, ?_, ?_⟩
              · rw [hacc, if_pos (by omega)]
              · simp only [go_sem, ↓reduceIte, e0_1, e0_2, e0_4, e0_5, h5, getD_rows h5, hw1, ms8_1, ms8_2, ms8_4, ms8_5, ms8_6] <;> try rfl
              · simp only [go_sem, ↓reduceIte, e0_1, e0_2, e0_4, e0_5, h5, getD_rows h5, hw1, ms8_1, ms8_2, ms8_4, ms8_5, ms8_6] <;> try rfl
              · simp only [go_sem, ↓reduceIte, e0_1, e0_2, e0_4, e0_5, h5, getD_rows h5, hw1, ms8_1, ms8_2, ms8_4, ms8_5, ms8_6] <;> try rfl
              · simp only [go_sem, ↓reduceIte, e0_1, e0_2, e0_4, e0_5, h5, getD_rows h5, hw1, ms8_1, ms8_2, ms8_4, ms8_5, ms8_6] <;> try rfl
              · simp only [go_sem, ↓reduceIte, e0_1, e0_2, e0_4, e0_5, h5, getD_rows h5, hw1, ms8_1, ms8_2, ms8_4, ms8_5, ms8_6] <;> try rfl
          ·
            rintro ⟨envms10, σms10, nxms10⟩ ⟨td, hms10_0, hmss10, ms10_1, ms10_2, ms10_4, ms10_5, ms10_6⟩
            dsimp only at hmss10  ms10_1 ms10_2 ms10_4 ms10_5 ms10_6
            subst hmss10
            subst hms10_0
            refine aw_lreg {} rfl rfl fun K KP hK hP => ?_
            simp only [go_sem, ↓reduceIte, e0_1, e0_2, e0_4, e0_5, h5, getD_rows h5, hw1, ms8_1, ms8_2, ms8_4, ms8_5, ms8_6, ms10_1, ms10_2, ms10_4, ms10_5, ms10_6]
            apply hK; clear hK hP
            refine ablock_normal.2 ?_
            refine athen_normal.2 ?_
            refine aw_lreg {} rfl rfl fun K KP hK hP => ?_
            simp only [go_sem, ↓reduceIte, e0_1, e0_2, e0_4, e0_5, h5, getD_rows h5, hw1, ms8_1, ms8_2, ms8_4, ms8_5, ms8_6, ms10_1, ms10_2, ms10_4, ms10_5, ms10_6]
            apply hK; clear hK hP
            refine afor_two ?_
            refine athen_normal.2 ?_
            refine ⟨_, ?_, i + 1, ?_, rfl, rfl, ?_, ?_, ?_, ?_⟩
            · omega
            · first | omega | trivial | assumption
            · simp only [go_sem, ↓reduceIte, e0_1, e0_2, e0_4, e0_5, h5, getD_rows h5, hw1, ms8_1, ms8_2, ms8_4, ms8_5, ms8_6, ms10_1, ms10_2, ms10_4, ms10_5, ms10_6] <;> try rfl
            · simp only [go_sem, ↓reduceIte, e0_1, e0_2, e0_4, e0_5, h5, getD_rows h5, hw1, ms8_1, ms8_2, ms8_4, ms8_5, ms8_6, ms10_1, ms10_2, ms10_4, ms10_5, ms10_6] <;> try rfl
            · simp only [go_sem, ↓reduceIte, e0_1, e0_2, e0_4, e0_5, h5, getD_rows h5, hw1, ms8_1, ms8_2, ms8_4, ms8_5, ms8_6, ms10_1, ms10_2, ms10_4, ms10_5, ms10_6] <;> try rfl
            · simp only [go_sem, ↓reduceIte, e0_1, e0_2, e0_4, e0_5, h5, getD_rows h5, hw1, ms8_1, ms8_2, ms8_4, ms8_5, ms8_6, ms10_1, ms10_2, ms10_4, ms10_5, ms10_6] <;> try rfl
      ·
        have hi : i = l.length := by omega
        have hfull : (l.map termP).take i = l.map termP := List.take_of_length_le (by simp; omega)
        rw [hfull]
        refine aw_exit ?_
        refine athen_exit.2 ?_
        refine afor_two ?_
        refine athen_exit.2 ?_
        refine ablock_here ?_
        refine athen_normal.2 ?_
        refine aw_seq ?_
        refine aw_sreg {} rfl rfl fun K KP hK hP => ?_
        simp only [go_sem, ↓reduceIte, e0_1, e0_2, e0_4, e0_5]
        apply hK; clear hK hP
        refine aw_if (l = []) (by simp only [go_sem, ↓reduceIte, e0_1, e0_2, e0_4, e0_5, List.length_map, List.length_eq_zero_iff, Int.natCast_eq_zero]) (fun h13 => ?_) (fun h13 => ?_)
        ·
          refine aw_sreg {} rfl rfl fun K KP hK hP => ?_
          simp only [go_sem, ↓reduceIte, e0_1, e0_2, e0_4, e0_5]
          refine CallP.ret (refNum_call _) (by simp only [go_sem]) ?_
          try simp only [go_sem, ↓reduceIte, e0_1, e0_2, e0_4, e0_5]
          apply hK; clear hK hP
          refine aw_ret ?_
          refine athen_ret.2 ?_
          simp only [go_sem, ↓reduceIte, e0_1, e0_2, e0_4, e0_5, athen_ret] <;> (
            have ht : termS ⟨k, nl, l⟩ = numF k := by rw [termS_acc]; simp [h13]
            have hk := (within_iff _).1 hgood.2
            rw [termE, if_pos hv, ht, if_pos (valid_num k hk.1 hk.2)]; rfl)
        ·
          refine aw_skip ?_
          refine athen_normal.2 ?_
          refine aw_mid (fun st => ∃ (f : Fm) (fc : List AV), (f = termS ⟨k, nl, l⟩) ∧ (fc = f.cells) ∧ [(0, .cells 24 zeroRow), (1, .cells 24 fc)] = st.σ ∧ st.env 2 = .ref 0 0 0 ∧ st.env 4 = .ref 1 1 0) ?_ ?_
          ·
            refine aw_sreg {} rfl rfl fun K KP hK hP => ?_
            simp only [go_sem, ↓reduceIte, e0_1, e0_2, e0_4, e0_5]
            apply hK; clear hK hP
            refine aw_if (¬ k = 0) (by simp only [go_sem, ↓reduceIte, e0_1, e0_2, e0_4, e0_5]) (fun h15 => ?_) (fun h15 => ?_)
            ·
              refine aw_ldraw {} [] [0, 0, 0, 4, 13, 31, 63, 127] mixed (by kernel_rfl) rfl rfl fun K KP hK hP => ?_
              simp only [go_sem, ↓reduceIte, e0_1, e0_2, e0_4, e0_5, List.replicate_succ]
              refine CallP.ret (refWord_call plusB) (by simp only [go_sem]) ?_
              try simp only [go_sem, ↓reduceIte, e0_1, e0_2, e0_4, e0_5, List.replicate_succ]
              refine CallP.ret (refNum_call _) (by simp only [go_sem]) ?_
              try simp only [go_sem, ↓reduceIte, e0_1, e0_2, e0_4, e0_5, List.replicate_succ]
              refine CallP.ret (refList_call false [wordF plusB, accT (l.map termP), numF k]) (by simp only [go_sem, List.map_cons, List.map_nil, kidsA]) ?_
              try simp only [go_sem, ↓reduceIte, e0_1, e0_2, e0_4, e0_5, List.replicate_succ]
              apply hK; clear hK hP
              refine athen_normal.2 ?_
              refine ⟨termS ⟨k, nl, l⟩, _, ?_, ?_, rfl, ?_, ?_⟩
              · first | omega | trivial | assumption
              · rw [termS_acc, if_neg h13, if_neg h15]; simp [cells_mk, binF]
              · simp only [go_sem, ↓reduceIte, e0_1, e0_2, e0_4, e0_5] <;> try rfl
              · simp only [go_sem, ↓reduceIte, e0_1, e0_2, e0_4, e0_5] <;> try rfl
            ·
              refine aw_skip ?_
              refine athen_normal.2 ?_
              refine ⟨termS ⟨k, nl, l⟩, _, ?_, ?_, rfl, ?_, ?_⟩
              · first | omega | trivial | assumption
              · rw [termS_acc, if_neg h13, if_pos (Classical.not_not.1 h15)]
              · simp only [go_sem, ↓reduceIte, e0_1, e0_2, e0_4, e0_5] <;> try rfl
              · simp only [go_sem, ↓reduceIte, e0_1, e0_2, e0_4, e0_5] <;> try rfl
          ·
            rintro ⟨envms15, σms15, nxms15⟩ ⟨f, fc, hms15_0, hms15_1, hmss15, ms15_2, ms15_4⟩
            dsimp only at hmss15  ms15_2 ms15_4
            subst hmss15
            subst hms15_1
            subst hms15_0
            have hbo : (termS ⟨k, nl, l⟩).big ≤ 4611686018427387904 := termS_bound hv hl
            refine aw_seq ?_
            refine aw_sreg {} rfl rfl fun K KP hK hP => ?_
            simp only [go_sem, ↓reduceIte, e0_1, e0_2, e0_4, e0_5, ms15_2, ms15_4]
            refine CallP.ret (refValid_call _ hbo) (by simp only [go_sem]) ?_
            try simp only [go_sem, ↓reduceIte, e0_1, e0_2, e0_4, e0_5, ms15_2, ms15_4]
            apply hK; clear hK hP
            refine aw_if (¬ validF (termS ⟨k, nl, l⟩) = true) (by simp only [go_sem, ↓reduceIte, e0_1, e0_2, e0_4, e0_5, ms15_2, ms15_4]) (fun h17 => ?_) (fun h17 => ?_)
            ·
              refine aw_sreg {} rfl rfl fun K KP hK hP => ?_
              simp only [go_sem, ↓reduceIte, e0_1, e0_2, e0_4, e0_5, ms15_2, ms15_4]
              apply hK; clear hK hP
              refine aw_ret ?_
              refine athen_ret.2 ?_
              simp only [go_sem, ↓reduceIte, e0_1, e0_2, e0_4, e0_5, ms15_2, ms15_4, athen_ret] <;> (
                simp [formE, termE, hv, h17, zeroF, go_sem, kidsA])
            ·
              refine aw_skip ?_
              refine athen_normal.2 ?_
              refine aw_sreg {} rfl rfl fun K KP hK hP => ?_
              simp only [go_sem, ↓reduceIte, e0_1, e0_2, e0_4, e0_5, ms15_2, ms15_4]
              apply hK; clear hK hP
              refine aw_ret ?_
              simp only [go_sem, ↓reduceIte, e0_1, e0_2, e0_4, e0_5, ms15_2, ms15_4, athen_ret] <;> (
                simp [formE, termE, hv, Classical.not_not.1 h17])
    ·
      refine ⟨_, 0, ?_, rfl, ?_, ?_, ?_, ?_, ?_⟩
      · first | omega | trivial | assumption
      · first | rfl | (simp only [go_sem, ↓reduceIte])
      · simp only [go_sem, ↓reduceIte] <;> try rfl
      · simp only [go_sem, ↓reduceIte] <;> try rfl
      · simp only [go_sem, ↓reduceIte] <;> try rfl
      · simp only [go_sem, ↓reduceIte] <;> try rfl
end Go.Ab
