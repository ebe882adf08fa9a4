/-
  ROWS MADE TIGHT, of both.
-/
import Derived.Test.YtmompmackgknbaaDoorF21
set_option linter.unusedVariables false
set_option linter.unusedSimpArgs false
set_option maxRecDepth 100000
namespace Go.Ab
open Go Go.RowKit Go.Proofs

def gcdL (l : List Pt) : Nat := l.foldl (fun g p => Nat.gcd g p.c.natAbs) 0
theorem gcdL_take {l : List Pt} {i : Nat} (h : i < l.length) : gcdL (l.take (i + 1)) = Nat.gcd (gcdL (l.take i)) l[i].c.natAbs := by
  unfold gcdL
  rw [List.take_succ_eq_append_getElem h, List.foldl_append]; rfl
theorem gcdL_le {l : List Pt} (b : Nat) (h : ∀ p ∈ l, p.c ≠ 0 ∧ p.c.natAbs ≤ b) : ∀ i, gcdL (l.take i) ≤ b
  | 0 => by simp [gcdL]
  | i + 1 => by
    rcases Nat.lt_or_ge i l.length with hi | hi
    · rw [gcdL_take hi]
      have := h _ (List.getElem_mem hi)
      exact Nat.le_trans (Nat.gcd_le_right _ (by omega)) this.2
    · rw [List.take_of_length_le (by omega), ← List.take_of_length_le (i := i) (l := l) hi]
      exact gcdL_le b h i
theorem gcdL_pos {l : List Pt} (h : ∀ p ∈ l, p.c ≠ 0) (hl : l ≠ []) : 0 < gcdL l := by
  have hlen : 0 < l.length := List.length_pos_iff.2 hl
  have hi : l.length - 1 < l.length := by omega
  have e := gcdL_take hi
  rw [show l.length - 1 + 1 = l.length by omega, List.take_length] at e
  rw [e]
  exact Nat.gcd_pos_of_pos_right _ (by have := h _ (List.getElem_mem hi); omega)
theorem tdiv_bound (c : Int) (g : Nat) : -(c.natAbs : Int) ≤ c.tdiv g ∧ c.tdiv g ≤ c.natAbs := by
  have h1 : (c.tdiv g).natAbs = c.natAbs / g := by rw [Int.natAbs_tdiv]; rfl
  have h2 := Nat.div_le_self c.natAbs g
  omega
/-- The number of a tight row. -/
def tightK (k : Int) (g : Nat) : Int := if g < 2 then k else k.tdiv g + (if 0 < k.tmod g then 1 else 0)
theorem tmod_facts (k : Int) {g : Nat} (hg : 0 < g) : k = g * k.tdiv g + k.tmod g ∧ (k.tmod g).natAbs < g ∧ (0 ≤ k → 0 ≤ k.tmod g) ∧ (k ≤ 0 → k.tmod g ≤ 0) := by
  refine ⟨(Int.mul_tdiv_add_tmod k g).symm, ?_, fun h => Int.tmod_nonneg _ h, fun h => ?_⟩
  · rw [Int.natAbs_tmod]; exact Nat.mod_lt _ hg
  · have := Int.tmod_nonneg (a := -k) g (by omega)
    rw [Int.neg_tmod] at this; omega
def tightR (k : Int) (g : Nat) : Int := (k.tmod g + g).tmod g
theorem tightR_eq (k : Int) {g : Nat} (hg : 0 < g) : tightR k g = if k.tmod g < 0 then k.tmod g + g else k.tmod g := by
  obtain ⟨h1, h2, h3, h4⟩ := tmod_facts k hg
  unfold tightR
  split
  · exact Int.tmod_eq_of_lt (by omega) (by omega)
  · rw [Int.tmod_eq_emod_of_nonneg (by omega)]
    have e : (k.tmod g + g) % (g : Int) = k.tmod g % g := by simp
    rw [e]
    exact Int.emod_eq_of_lt (by omega) (by omega)
theorem tightK_eq (k : Int) {g : Nat} (hg : 0 < g) : (k - tightR k g).tdiv g + (if 0 < tightR k g then 1 else 0) = tightK k g := by
  obtain ⟨h1, h2, h3, h4⟩ := tmod_facts k hg
  rw [tightR_eq k hg]
  have key : ∀ q : Int, ((g : Int) * q).tdiv g = q := fun q => Int.mul_tdiv_cancel_left q (by omega)
  by_cases hm : k.tmod g < 0
  · rw [if_pos hm, if_pos (by omega)]
    have e : k - (k.tmod g + g) = g * (k.tdiv g - 1) := by rw [Int.mul_sub]; omega
    rw [e, key]
    unfold tightK
    have hg2 : ¬ g < 2 := by omega
    rw [if_neg hg2, if_neg (by omega)]; omega
  · rw [if_neg hm]
    have e : k - k.tmod g = g * k.tdiv g := by omega
    rw [e, key]
    unfold tightK
    by_cases hg2 : g < 2
    · have hg1 : g = 1 := by omega
      subst hg1
      have hz : k.tmod ((1 : Nat) : Int) = 0 := by omega
      have hd : k.tdiv ((1 : Nat) : Int) = k := by omega
      simp [hz, hd]
    · rw [if_neg hg2]

def tightL (l : List Pt) (g : Nat) : List Pt := l.map fun p => ⟨p.c.tdiv g, p.t⟩
/-- What is told of a row that is made tight. -/
def tightS (s : Sm) : Sm := ⟨tightK s.k (gcdL s.l), true, tightL s.l (gcdL s.l)⟩
def tightE (s : Sm) : Sm × Int := if validSm s = true then (tightS s, 0) else (nilS, 1)
theorem Tight_call (k : Int) (nl : Bool) (l : List Pt) (hl : l.length ≤ 400000000000) (hb : ∀ p ∈ l, p.t.big ≤ 4611686018427387904) : PCall CX 19 [Sm.av ⟨k, nl, l⟩] (· = sumE (tightE ⟨k, nl, l⟩)) := by
  have hlv := lvalid_call k nl l hb (by omega)
  refine pcall_mk 3 75 [.cell 2 29, .tmp 3] Tryd.func19 rfl (by decide) rfl rfl rfl ?_
  simp only [go_sem]
  refine aw_sreg {} rfl (by simp only [allocObjs, go_sem]; rfl) fun K KP hK hP => ?_
  simp only [go_sem, ↓reduceIte]
  apply hK; clear hK hP
  refine aw_seq ?_
  refine aw_sreg {} rfl rfl fun K KP hK hP => ?_
  simp only [go_sem, ↓reduceIte]
  refine CallP.ret (by simpa only [go_sem] using hlv) (by simp only [go_sem]) ?_
  try simp only [go_sem, ↓reduceIte]
  apply hK; clear hK hP
  refine aw_if (¬ validSm ⟨k, nl, l⟩ = true) (by simp only [go_sem, ↓reduceIte]) (fun h1 => ?_) (fun h1 => ?_)
  ·
    refine aw_sreg {} rfl rfl fun K KP hK hP => ?_
    simp only [go_sem, ↓reduceIte]
    apply hK; clear hK hP
    refine aw_ret ?_
    refine athen_ret.2 ?_
    simp only [go_sem, ↓reduceIte, athen_ret] <;> (
      simp [sumE, tightE, h1, nilS, go_sem, termsA])
  ·
    have hv : validSm ⟨k, nl, l⟩ = true := Classical.not_not.1 h1
    obtain ⟨hg, hw⟩ := validSm_good hv
    have hk := (within_iff _).1 hw
    simp only at hg hk
    have hcs : ∀ p ∈ l, p.c ≠ 0 ∧ p.c.natAbs ≤ 1152921504606846976 := fun p hp => ⟨(hg.ok p hp).1, by have := (within_iff _).1 (hg.ok p hp).2.1; omega⟩
    have hvb : ∀ p ∈ l, p.t.big ≤ 40020000 := fun p hp => validF_big (hg.ok p hp).2.2
    have hgle := gcdL_le 1152921504606846976 hcs
    refine aw_skip ?_
    refine athen_normal.2 ?_
    refine aw_sreg {} rfl rfl fun K KP hK hP => ?_
    simp only [go_sem, ↓reduceIte]
    apply hK; clear hK hP
    refine aw_sreg {} rfl (by simp only [allocObjs, go_sem]; rfl) fun K KP hK hP => ?_
    simp only [go_sem, ↓reduceIte]
    apply hK; clear hK hP
    refine aw_seq ?_
    refine aw_sreg {} rfl rfl fun K KP hK hP => ?_
    simp only [go_sem, ↓reduceIte]
    apply hK; clear hK hP
    refine aw_block ?_
    refine aw_loop' (fun dd st => ∃ (i : Nat), (i ≤ l.length) ∧ l.length - i = dd ∧ [(0, .cells 29 [.int .i64 0, .base (.slice none 0 0)]), (1, .cells 29 [.int .i64 k, .base (.slice none 0 0)])] = st.σ ∧ st.env 1 = .rptr [.int .i64 k, termsA nl (l.map Pt.row)] ∧ st.env 2 = .ref 0 0 0 ∧ st.env 5 = .ref 1 1 0 ∧ st.env 4 = .int .i64 (gcdL (l.take i) : Nat) ∧ st.env 19 = termsA nl (l.map Pt.row) ∧ st.env 20 = .int .i64 l.length ∧ st.env 21 = .int .i64 (i : Nat)) (fun dd st hJ => ?_) ?_
    ·
      obtain ⟨env0, σ0, nx0⟩ := st
      obtain ⟨i, hp0_0, hd0, hs0, e0_1, e0_2, e0_5, e0_4, e0_19, e0_20, e0_21⟩ := hJ
      dsimp only at hs0  e0_1 e0_2 e0_5 e0_4 e0_19 e0_20 e0_21
      subst hd0; subst hs0
      refine aw_forget' 2 rfl ?_
      refine aw_sreg {} rfl rfl fun K KP hK hP => ?_
      simp only [go_sem, ↓reduceIte, e0_1, e0_2, e0_5, e0_4, e0_19, e0_20, e0_21]
      apply hK; clear hK hP
      refine aw_seq ?_
      refine aw_if (i < l.length) (by simp only [go_sem, ↓reduceIte, e0_1, e0_2, e0_5, e0_4, e0_19, e0_20, e0_21]) (fun h6 => ?_) (fun h6 => ?_)
      ·
        have hw1 : IntKind.wrap .i64 ((i : Int) + 1) = ((i + 1 : Nat) : Int) := by rw [wrap64 (by omega) (by omega)]; omega
        have hci := hcs _ (List.getElem_mem h6)
        have hgi := hgle i
        have hdiv := divisor_call (gcdL (l.take i)) l[i].c (by omega) (by omega) (by omega) (by omega)
        rw [Int.natAbs_natCast, ← gcdL_take h6] at hdiv
        refine aw_skip ?_
        refine athen_normal.2 ?_
        refine aw_seq ?_
        refine aw_block ?_
        refine aw_sreg {} rfl (by simp only [allocObjs, go_sem]; rfl) fun K KP hK hP => ?_
        simp only [go_sem, ↓reduceIte, e0_1, e0_2, e0_5, e0_4, e0_19, e0_20, e0_21, h6, getD_rows h6, hw1]
        apply hK; clear hK hP
        refine aw_lreg {} rfl rfl fun K KP hK hP => ?_
        simp only [go_sem, ↓reduceIte, e0_1, e0_2, e0_5, e0_4, e0_19, e0_20, e0_21, h6, getD_rows h6, hw1]
        refine CallP.ret hdiv (by simp only [go_sem]) ?_
        try simp only [go_sem, ↓reduceIte, e0_1, e0_2, e0_5, e0_4, e0_19, e0_20, e0_21, h6, getD_rows h6, hw1]
        apply hK; clear hK hP
        refine ablock_normal.2 ?_
        refine athen_normal.2 ?_
        refine aw_lreg {} rfl rfl fun K KP hK hP => ?_
        simp only [go_sem, ↓reduceIte, e0_1, e0_2, e0_5, e0_4, e0_19, e0_20, e0_21, h6, getD_rows h6, hw1]
        apply hK; clear hK hP
        refine afor_two ?_
        refine athen_normal.2 ?_
        refine ⟨_, ?_, i + 1, ?_, rfl, rfl, ?_, ?_, ?_, ?_, ?_, ?_, ?_⟩
        · omega
        · first | omega | trivial | assumption
        · simp only [go_sem, ↓reduceIte, e0_1, e0_2, e0_5, e0_4, e0_19, e0_20, e0_21, h6, getD_rows h6, hw1] <;> try rfl
        · simp only [go_sem, ↓reduceIte, e0_1, e0_2, e0_5, e0_4, e0_19, e0_20, e0_21, h6, getD_rows h6, hw1] <;> try rfl
        · simp only [go_sem, ↓reduceIte, e0_1, e0_2, e0_5, e0_4, e0_19, e0_20, e0_21, h6, getD_rows h6, hw1] <;> try rfl
        · simp only [go_sem, ↓reduceIte, e0_1, e0_2, e0_5, e0_4, e0_19, e0_20, e0_21, h6, getD_rows h6, hw1] <;> try rfl
        · simp only [go_sem, ↓reduceIte, e0_1, e0_2, e0_5, e0_4, e0_19, e0_20, e0_21, h6, getD_rows h6, hw1] <;> try rfl
        · simp only [go_sem, ↓reduceIte, e0_1, e0_2, e0_5, e0_4, e0_19, e0_20, e0_21, h6, getD_rows h6, hw1] <;> try rfl
        · simp only [go_sem, ↓reduceIte, e0_1, e0_2, e0_5, e0_4, e0_19, e0_20, e0_21, h6, getD_rows h6, hw1] <;> try rfl
      ·
        have hi : i = l.length := by omega
        rw [hi, List.take_length] at e0_4
        have hgg := hgle l.length
        rw [List.take_length] at hgg
        refine aw_exit ?_
        refine athen_exit.2 ?_
        refine afor_two ?_
        refine athen_exit.2 ?_
        refine ablock_here ?_
        refine athen_normal.2 ?_
        refine aw_seq ?_
        refine aw_sreg {} rfl rfl fun K KP hK hP => ?_
        simp only [go_sem, ↓reduceIte, e0_1, e0_2, e0_5, e0_4, e0_19, e0_20, e0_21]
        apply hK; clear hK hP
        refine aw_block ?_
        refine aw_loop' (fun dd st => ∃ (j : Nat) (tv : AV) (σr : Sto), (j ≤ l.length) ∧ (held2 5 68 (((tightL l (gcdL l)).map Pt.row).take j) tv σr) ∧ l.length - j = dd ∧ (0, .cells 29 [.int .i64 0, .base (.slice none 0 0)]) :: (1, .cells 29 [.int .i64 k, tv]) :: σr = st.σ ∧ st.env 1 = .rptr [.int .i64 k, termsA nl (l.map Pt.row)] ∧ st.env 2 = .ref 0 0 0 ∧ st.env 5 = .ref 1 1 0 ∧ st.env 4 = .int .i64 (gcdL l : Nat) ∧ st.env 31 = termsA nl (l.map Pt.row) ∧ st.env 32 = .int .i64 l.length ∧ st.env 33 = .int .i64 (j : Nat)) (fun dd st hJ => ?_) ?_
        ·
          obtain ⟨env2, σ2, nx2⟩ := st
          obtain ⟨j, tv, σr, hp2_0, hp2_1, hd2, hs2, e2_1, e2_2, e2_5, e2_4, e2_31, e2_32, e2_33⟩ := hJ
          dsimp only at hs2  e2_1 e2_2 e2_5 e2_4 e2_31 e2_32 e2_33
          subst hd2; subst hs2
          refine aw_sreg {} rfl rfl fun K KP hK hP => ?_
          simp only [go_sem, ↓reduceIte, e0_1, e0_2, e0_5, e0_4, e0_19, e0_20, e0_21, e2_1, e2_2, e2_5, e2_4, e2_31, e2_32, e2_33]
          apply hK; clear hK hP
          refine aw_seq ?_
          refine aw_if (j < l.length) (by simp only [go_sem, ↓reduceIte, e0_1, e0_2, e0_5, e0_4, e0_19, e0_20, e0_21, e2_1, e2_2, e2_5, e2_4, e2_31, e2_32, e2_33]) (fun h11 => ?_) (fun h11 => ?_)
          ·
            have hw1 : IntKind.wrap .i64 ((j : Int) + 1) = ((j + 1 : Nat) : Int) := by rw [wrap64 (by omega) (by omega)]; omega
            have hcj := hcs _ (List.getElem_mem h11)
            have hbj := hvb _ (List.getElem_mem h11)
            have hgp := gcdL_pos (fun p hp => (hcs p hp).1) (fun e => by rw [e] at h11; simp at h11)
            have hgn : ¬ gcdL l = 0 := by omega
            have htb := tdiv_bound l[j].c (gcdL l)
            have hwq : IntKind.wrap .i64 (Int.tdiv l[j].c (gcdL l : Nat)) = Int.tdiv l[j].c (gcdL l : Nat) := wrap64 (by omega) (by omega)
            have hlim : (j + 1) * 64 ≤ limB := by unfold limB; omega
            have hlim1 : 64 ≤ limB := by decide
            have hli : j + 1 ≤ 4611686018427387904 := by omega
            have htk : (((tightL l (gcdL l)).map Pt.row).take j).length = j := by simp [tightL]; omega
            have hsucc : ((tightL l (gcdL l)).map Pt.row).take (j + 1) = ((tightL l (gcdL l)).map Pt.row).take j ++ [.int .i64 (l[j].c.tdiv (gcdL l : Nat)) :: l[j].t.cells] := by rw [List.take_succ_eq_append_getElem (by simpa [tightL] using h11)]; simp [Pt.row, tightL]
            refine aw_skip ?_
            refine athen_normal.2 ?_
            refine aw_seq ?_
            refine aw_block ?_
            refine aw_sreg {} rfl (by simp only [allocObjs, go_sem]; rfl) fun K KP hK hP => ?_
            simp only [go_sem, ↓reduceIte, e0_1, e0_2, e0_5, e0_4, e0_19, e0_20, e0_21, e2_1, e2_2, e2_5, e2_4, e2_31, e2_32, e2_33, h11, getD_rows h11, hw1, hgn, hwq, hlim, hlim1, hli, List.replicate_succ]
            apply hK; clear hK hP
            by_cases c13 : ((tightL l (gcdL l)).map Pt.row).take j = []
            ·
              have htv := hp2_1.nil c13
              subst htv
              refine aw_ldraw {} [] [0, 1, 0, 4, 0, 28, 0, 64, 192, 508, 1020, 2047, 4095, 8191] mixed (by kernel_rfl) rfl rfl fun K KP hK hP => ?_
              simp only [go_sem, ↓reduceIte, e0_1, e0_2, e0_5, e0_4, e0_19, e0_20, e0_21, e2_1, e2_2, e2_5, e2_4, e2_31, e2_32, e2_33, h11, getD_rows h11, hw1, hgn, hwq, hlim, hlim1, hli, List.replicate_succ, c13]
              refine CallP.ret (copy_call _ (by omega)) (by simp only [go_sem]) ?_
              try simp only [go_sem, ↓reduceIte, e0_1, e0_2, e0_5, e0_4, e0_19, e0_20, e0_21, e2_1, e2_2, e2_5, e2_4, e2_31, e2_32, e2_33, h11, getD_rows h11, hw1, hgn, hwq, hlim, hlim1, hli, List.replicate_succ, c13]
              apply hK; clear hK hP
              refine ablock_normal.2 ?_
              refine athen_normal.2 ?_
              refine aw_lreg {} rfl rfl fun K KP hK hP => ?_
              simp only [go_sem, ↓reduceIte, e0_1, e0_2, e0_5, e0_4, e0_19, e0_20, e0_21, e2_1, e2_2, e2_5, e2_4, e2_31, e2_32, e2_33, h11, getD_rows h11, hw1, hgn, hwq, hlim, hlim1, hli, List.replicate_succ, c13]
              apply hK; clear hK hP
              refine athen_normal.2 ?_
              refine ⟨_, ?_, j + 1, .sref ((σr ++ [(nx2, AObj.cells 68 (.int .i64 l[j].c :: l[j].t.cells))]).length + 1 + 1) (nx2 + 1) 5 0 1, (σr ++ [(nx2, .cells 68 (.int .i64 l[j].c :: l[j].t.cells))]) ++ [(nx2 + 1, .gvec 5 68 [.int .i64 (l[j].c.tdiv (gcdL l : Nat)) :: l[j].t.cells])], ?_, ?_, rfl, ?_, ?_, ?_, ?_, ?_, ?_, ?_, ?_⟩
              · omega
              · first | omega | trivial | assumption
              · rw [hsucc, c13]; exact held2.new (by simp) _ _
              · simp
              · simp only [go_sem, ↓reduceIte, e0_1, e0_2, e0_5, e0_4, e0_19, e0_20, e0_21, e2_1, e2_2, e2_5, e2_4, e2_31, e2_32, e2_33, h11, getD_rows h11, hw1, hgn, hwq, hlim, hlim1, hli, List.replicate_succ, c13] <;> try rfl
              · simp only [go_sem, ↓reduceIte, e0_1, e0_2, e0_5, e0_4, e0_19, e0_20, e0_21, e2_1, e2_2, e2_5, e2_4, e2_31, e2_32, e2_33, h11, getD_rows h11, hw1, hgn, hwq, hlim, hlim1, hli, List.replicate_succ, c13] <;> try rfl
              · simp only [go_sem, ↓reduceIte, Nat.reduceEqDiff, e2_5]
              · simp only [go_sem, ↓reduceIte, e0_1, e0_2, e0_5, e0_4, e0_19, e0_20, e0_21, e2_1, e2_2, e2_5, e2_4, e2_31, e2_32, e2_33, h11, getD_rows h11, hw1, hgn, hwq, hlim, hlim1, hli, List.replicate_succ, c13] <;> try rfl
              · simp only [go_sem, ↓reduceIte, e0_1, e0_2, e0_5, e0_4, e0_19, e0_20, e0_21, e2_1, e2_2, e2_5, e2_4, e2_31, e2_32, e2_33, h11, getD_rows h11, hw1, hgn, hwq, hlim, hlim1, hli, List.replicate_succ, c13] <;> try rfl
              · simp only [go_sem, ↓reduceIte, e0_1, e0_2, e0_5, e0_4, e0_19, e0_20, e0_21, e2_1, e2_2, e2_5, e2_4, e2_31, e2_32, e2_33, h11, getD_rows h11, hw1, hgn, hwq, hlim, hlim1, hli, List.replicate_succ, c13] <;> try rfl
              · simp only [go_sem, ↓reduceIte, e0_1, e0_2, e0_5, e0_4, e0_19, e0_20, e0_21, e2_1, e2_2, e2_5, e2_4, e2_31, e2_32, e2_33, h11, getD_rows h11, hw1, hgn, hwq, hlim, hlim1, hli, List.replicate_succ, c13] <;> try rfl
            ·
              obtain ⟨q, nm, htv, hS2, hS3, hset⟩ := hp2_1.some c13
              generalize ((tightL l (gcdL l)).map Pt.row).take j = R at *
              rw [htk] at htv
              subst htv
              have htt : R.take j = R := List.take_of_length_le (by omega)
              refine aw_ldraw {} [] [0, 1, 0, 4, 0, 28, 0, 64, 192, 508, 1020, 2047, 4095, 8191] mixed (by kernel_rfl) rfl rfl fun K KP hK hP => ?_
              simp only [go_sem, ↓reduceIte, e0_1, e0_2, e0_5, e0_4, e0_19, e0_20, e0_21, e2_1, e2_2, e2_5, e2_4, e2_31, e2_32, e2_33, h11, getD_rows h11, hw1, hgn, hwq, hlim, hlim1, hli, List.replicate_succ, c13, hS2, hS3, htk, htt]
              refine CallP.ret (copy_call _ (by omega)) (by simp only [go_sem]) ?_
              try simp only [go_sem, ↓reduceIte, e0_1, e0_2, e0_5, e0_4, e0_19, e0_20, e0_21, e2_1, e2_2, e2_5, e2_4, e2_31, e2_32, e2_33, h11, getD_rows h11, hw1, hgn, hwq, hlim, hlim1, hli, List.replicate_succ, c13, hS2, hS3, htk, htt]
              apply hK; clear hK hP
              refine ablock_normal.2 ?_
              refine athen_normal.2 ?_
              refine aw_lreg {} rfl rfl fun K KP hK hP => ?_
              simp only [go_sem, ↓reduceIte, e0_1, e0_2, e0_5, e0_4, e0_19, e0_20, e0_21, e2_1, e2_2, e2_5, e2_4, e2_31, e2_32, e2_33, h11, getD_rows h11, hw1, hgn, hwq, hlim, hlim1, hli, List.replicate_succ, c13]
              apply hK; clear hK hP
              refine athen_normal.2 ?_
              refine ⟨_, ?_, j + 1, .sref (q + 1 + 1) (nx2 + 1) 5 0 (j + 1), (σr ++ [(nx2, AObj.cells 68 (.int .i64 l[j].c :: l[j].t.cells))]).set q (nx2 + 1, .gvec 5 68 (R ++ [.int .i64 (l[j].c.tdiv (gcdL l : Nat)) :: l[j].t.cells])), ?_, ?_, rfl, rfl, ?_, ?_, ?_, ?_, ?_, ?_, ?_⟩
              · omega
              · first | omega | trivial | assumption
              · rw [hsucc]
                have := hset [(nx2, .cells 68 (.int .i64 l[j].c :: l[j].t.cells))] (nx2 + 1) (R ++ [.int .i64 (l[j].c.tdiv (gcdL l : Nat)) :: l[j].t.cells]) (by simp)
                simpa [htk] using this
              · simp only [go_sem, ↓reduceIte, e0_1, e0_2, e0_5, e0_4, e0_19, e0_20, e0_21, e2_1, e2_2, e2_5, e2_4, e2_31, e2_32, e2_33, h11, getD_rows h11, hw1, hgn, hwq, hlim, hlim1, hli, List.replicate_succ, c13] <;> try rfl
              · simp only [go_sem, ↓reduceIte, e0_1, e0_2, e0_5, e0_4, e0_19, e0_20, e0_21, e2_1, e2_2, e2_5, e2_4, e2_31, e2_32, e2_33, h11, getD_rows h11, hw1, hgn, hwq, hlim, hlim1, hli, List.replicate_succ, c13] <;> try rfl
              · simp only [go_sem, ↓reduceIte, e0_1, e0_2, e0_5, e0_4, e0_19, e0_20, e0_21, e2_1, e2_2, e2_5, e2_4, e2_31, e2_32, e2_33, h11, getD_rows h11, hw1, hgn, hwq, hlim, hlim1, hli, List.replicate_succ, c13] <;> try rfl
              · simp only [go_sem, ↓reduceIte, e0_1, e0_2, e0_5, e0_4, e0_19, e0_20, e0_21, e2_1, e2_2, e2_5, e2_4, e2_31, e2_32, e2_33, h11, getD_rows h11, hw1, hgn, hwq, hlim, hlim1, hli, List.replicate_succ, c13] <;> try rfl
              · simp only [go_sem, ↓reduceIte, e0_1, e0_2, e0_5, e0_4, e0_19, e0_20, e0_21, e2_1, e2_2, e2_5, e2_4, e2_31, e2_32, e2_33, h11, getD_rows h11, hw1, hgn, hwq, hlim, hlim1, hli, List.replicate_succ, c13] <;> try rfl
              · simp only [go_sem, ↓reduceIte, e0_1, e0_2, e0_5, e0_4, e0_19, e0_20, e0_21, e2_1, e2_2, e2_5, e2_4, e2_31, e2_32, e2_33, h11, getD_rows h11, hw1, hgn, hwq, hlim, hlim1, hli, List.replicate_succ, c13] <;> try rfl
              · simp only [go_sem, ↓reduceIte, e0_1, e0_2, e0_5, e0_4, e0_19, e0_20, e0_21, e2_1, e2_2, e2_5, e2_4, e2_31, e2_32, e2_33, h11, getD_rows h11, hw1, hgn, hwq, hlim, hlim1, hli, List.replicate_succ, c13] <;> try rfl
          ·
            have hj : j = l.length := by omega
            have hfull : ((tightL l (gcdL l)).map Pt.row).take j = (tightL l (gcdL l)).map Pt.row := List.take_of_length_le (by simp [tightL]; omega)
            rw [hfull] at hp2_1
            refine aw_exit ?_
            refine athen_exit.2 ?_
            refine athen_exit.2 ?_
            refine ablock_here ?_
            refine athen_normal.2 ?_
            refine aw_mid (fun st => ∃ (kq : Int), (kq = tightK k (gcdL l)) ∧ (0, .cells 29 [.int .i64 0, .base (.slice none 0 0)]) :: (1, .cells 29 [.int .i64 kq, tv]) :: σr = st.σ ∧ st.env 2 = .ref 0 0 0 ∧ st.env 5 = .ref 1 1 0) ?_ ?_
            ·
              refine aw_sreg {} rfl rfl fun K KP hK hP => ?_
              simp only [go_sem, ↓reduceIte, e0_1, e0_2, e0_5, e0_4, e0_19, e0_20, e0_21, e2_1, e2_2, e2_5, e2_4, e2_31, e2_32, e2_33]
              apply hK; clear hK hP
              refine aw_if (0 < gcdL l) (by simp only [go_sem, ↓reduceIte, e0_1, e0_2, e0_5, e0_4, e0_19, e0_20, e0_21, e2_1, e2_2, e2_5, e2_4, e2_31, e2_32, e2_33]) (fun h15 => ?_) (fun h15 => ?_)
              ·
                have hgn : ¬ gcdL l = 0 := by omega
                obtain ⟨q1, q2, q3, q4⟩ := tmod_facts k h15
                have hr := tightR_eq k h15
                have hrb : 0 ≤ tightR k (gcdL l) ∧ tightR k (gcdL l) < gcdL l := by rw [hr]; split <;> omega
                have hm1 : IntKind.wrap .i64 (Int.tmod k (gcdL l : Nat)) = Int.tmod k (gcdL l : Nat) := wrap64 (by omega) (by omega)
                have hm2 : IntKind.wrap .i64 (Int.tmod k (gcdL l : Nat) + (gcdL l : Nat)) = Int.tmod k (gcdL l : Nat) + (gcdL l : Nat) := wrap64 (by omega) (by omega)
                have hm3 : Int.tmod (Int.tmod k (gcdL l : Nat) + (gcdL l : Nat)) (gcdL l : Nat) = tightR k (gcdL l) := rfl
                have hm4 : IntKind.wrap .i64 (k - tightR k (gcdL l)) = k - tightR k (gcdL l) := wrap64 (by omega) (by omega)
                have htd := tdiv_bound (k - tightR k (gcdL l)) (gcdL l)
                have hm5 : IntKind.wrap .i64 (Int.tdiv (k - tightR k (gcdL l)) (gcdL l : Nat)) = Int.tdiv (k - tightR k (gcdL l)) (gcdL l : Nat) := wrap64 (by omega) (by omega)
                have hm6 : IntKind.wrap .i64 (Int.tdiv (k - tightR k (gcdL l)) (gcdL l : Nat) + 1) = Int.tdiv (k - tightR k (gcdL l)) (gcdL l : Nat) + 1 := wrap64 (by omega) (by omega)
                have htk := tightK_eq k h15
                refine aw_sreg {} rfl rfl fun K KP hK hP => ?_
                simp only [go_sem, ↓reduceIte, e0_1, e0_2, e0_5, e0_4, e0_19, e0_20, e0_21, e2_1, e2_2, e2_5, e2_4, e2_31, e2_32, e2_33, hgn, hm1, hm2, hm3, hm4, hm5, hm6]
                apply hK; clear hK hP
                refine aw_sreg {} rfl rfl fun K KP hK hP => ?_
                simp only [go_sem, ↓reduceIte, e0_1, e0_2, e0_5, e0_4, e0_19, e0_20, e0_21, e2_1, e2_2, e2_5, e2_4, e2_31, e2_32, e2_33, hgn, hm1, hm2, hm3, hm4, hm5, hm6]
                apply hK; clear hK hP
                refine aw_sreg {} rfl rfl fun K KP hK hP => ?_
                simp only [go_sem, ↓reduceIte, e0_1, e0_2, e0_5, e0_4, e0_19, e0_20, e0_21, e2_1, e2_2, e2_5, e2_4, e2_31, e2_32, e2_33, hgn, hm1, hm2, hm3, hm4, hm5, hm6]
                apply hK; clear hK hP
                refine aw_if (0 < tightR k (gcdL l)) (by simp only [go_sem, ↓reduceIte, e0_1, e0_2, e0_5, e0_4, e0_19, e0_20, e0_21, e2_1, e2_2, e2_5, e2_4, e2_31, e2_32, e2_33, hgn, hm1, hm2, hm3, hm4, hm5, hm6]) (fun h18 => ?_) (fun h18 => ?_)
                ·
                  refine aw_lreg {} rfl rfl fun K KP hK hP => ?_
                  simp only [go_sem, ↓reduceIte, e0_1, e0_2, e0_5, e0_4, e0_19, e0_20, e0_21, e2_1, e2_2, e2_5, e2_4, e2_31, e2_32, e2_33, hgn, hm1, hm2, hm3, hm4, hm5, hm6]
                  apply hK; clear hK hP
                  refine athen_normal.2 ?_
                  refine ⟨Int.tdiv (k - tightR k (gcdL l)) (gcdL l : Nat) + 1, ?_, rfl, ?_, ?_⟩
                  · rw [if_pos h18] at htk; exact htk
                  · simp only [go_sem, ↓reduceIte, e0_1, e0_2, e0_5, e0_4, e0_19, e0_20, e0_21, e2_1, e2_2, e2_5, e2_4, e2_31, e2_32, e2_33, hgn, hm1, hm2, hm3, hm4, hm5, hm6] <;> try rfl
                  · simp only [go_sem, ↓reduceIte, e0_1, e0_2, e0_5, e0_4, e0_19, e0_20, e0_21, e2_1, e2_2, e2_5, e2_4, e2_31, e2_32, e2_33, hgn, hm1, hm2, hm3, hm4, hm5, hm6] <;> try rfl
                ·
                  refine aw_skip ?_
                  refine athen_normal.2 ?_
                  refine ⟨Int.tdiv (k - tightR k (gcdL l)) (gcdL l : Nat), ?_, rfl, ?_, ?_⟩
                  · rw [if_neg h18] at htk; omega
                  · simp only [go_sem, ↓reduceIte, e0_1, e0_2, e0_5, e0_4, e0_19, e0_20, e0_21, e2_1, e2_2, e2_5, e2_4, e2_31, e2_32, e2_33, hgn, hm1, hm2, hm3, hm4, hm5, hm6] <;> try rfl
                  · simp only [go_sem, ↓reduceIte, e0_1, e0_2, e0_5, e0_4, e0_19, e0_20, e0_21, e2_1, e2_2, e2_5, e2_4, e2_31, e2_32, e2_33, hgn, hm1, hm2, hm3, hm4, hm5, hm6] <;> try rfl
              ·
                refine aw_skip ?_
                refine athen_normal.2 ?_
                refine ⟨k, ?_, rfl, ?_, ?_⟩
                · unfold tightK; rw [if_pos (by omega)]
                · simp only [go_sem, ↓reduceIte, e0_1, e0_2, e0_5, e0_4, e0_19, e0_20, e0_21, e2_1, e2_2, e2_5, e2_4, e2_31, e2_32, e2_33] <;> try rfl
                · simp only [go_sem, ↓reduceIte, e0_1, e0_2, e0_5, e0_4, e0_19, e0_20, e0_21, e2_1, e2_2, e2_5, e2_4, e2_31, e2_32, e2_33] <;> try rfl
            ·
              rintro ⟨envms15, σms15, nxms15⟩ ⟨kq, hms15_0, hmss15, ms15_2, ms15_5⟩
              dsimp only at hmss15  ms15_2 ms15_5
              subst hmss15
              subst hms15_0
              by_cases c20 : l = []
              ·
                have htv := hp2_1.nil (by simp [tightL, c20])
                subst htv
                refine aw_sreg {} rfl rfl fun K KP hK hP => ?_
                simp only [go_sem, ↓reduceIte, e0_1, e0_2, e0_5, e0_4, e0_19, e0_20, e0_21, e2_1, e2_2, e2_5, e2_4, e2_31, e2_32, e2_33, ms15_2, ms15_5, c20]
                apply hK; clear hK hP
                refine aw_ret ?_
                simp only [go_sem, ↓reduceIte, e0_1, e0_2, e0_5, e0_4, e0_19, e0_20, e0_21, e2_1, e2_2, e2_5, e2_4, e2_31, e2_32, e2_33, ms15_2, ms15_5, c20, athen_ret] <;> (
                  subst c20; simp [sumE, tightE, hv, tightS, tightL, go_sem, termsA])
              ·
                obtain ⟨q, nm, htv, hS2, hS3, hset⟩ := hp2_1.some (by simpa [tightL] using c20)
                have htt : termsA true ((tightL l (gcdL l)).map Pt.row) = .vec 5 ((tightL l (gcdL l)).map Pt.row) := by cases l with | nil => exact absurd rfl c20 | cons => rfl
                have htq : sumE (tightE ⟨k, nl, l⟩) = .ret (.tup [.agg [.int .i64 (tightK k (gcdL l)), .vec 5 ((tightL l (gcdL l)).map Pt.row)], .int .i64 0]) := by simp [sumE, tightE, hv, tightS, go_sem, htt]
                generalize tightL l (gcdL l) = lt at *
                rw [List.length_map] at htv
                subst htv
                refine aw_sreg {} rfl rfl fun K KP hK hP => ?_
                simp only [go_sem, ↓reduceIte, e0_1, e0_2, e0_5, e0_4, e0_19, e0_20, e0_21, e2_1, e2_2, e2_5, e2_4, e2_31, e2_32, e2_33, ms15_2, ms15_5, c20]
                apply hK; clear hK hP
                refine aw_ret ?_
                simp only [go_sem, ↓reduceIte, e0_1, e0_2, e0_5, e0_4, e0_19, e0_20, e0_21, e2_1, e2_2, e2_5, e2_4, e2_31, e2_32, e2_33, ms15_2, ms15_5, c20, athen_ret, hS2, hS3, List.length_map, List.map_id'] <;> (
                  rw [htq])
        ·
          refine ⟨_, 0, .base (.slice none 0 0), [], ?_, ?_, rfl, ?_, ?_, ?_, ?_, ?_, ?_, ?_, ?_⟩
          · first | omega | trivial | assumption
          · exact .inl ⟨rfl, rfl⟩
          · first | rfl | (simp only [go_sem, ↓reduceIte, e0_1, e0_2, e0_5, e0_4, e0_19, e0_20, e0_21])
          · simp only [go_sem, ↓reduceIte, e0_1, e0_2, e0_5, e0_4, e0_19, e0_20, e0_21] <;> try rfl
          · simp only [go_sem, ↓reduceIte, e0_1, e0_2, e0_5, e0_4, e0_19, e0_20, e0_21] <;> try rfl
          · simp only [go_sem, ↓reduceIte, e0_1, e0_2, e0_5, e0_4, e0_19, e0_20, e0_21] <;> try rfl
          · simp only [go_sem, ↓reduceIte, e0_1, e0_2, e0_5, e0_4, e0_19, e0_20, e0_21] <;> try rfl
          · simp only [go_sem, ↓reduceIte, e0_1, e0_2, e0_5, e0_4, e0_19, e0_20, e0_21] <;> try rfl
          · simp only [go_sem, ↓reduceIte, e0_1, e0_2, e0_5, e0_4, e0_19, e0_20, e0_21] <;> try rfl
          · simp only [go_sem, ↓reduceIte, e0_1, e0_2, e0_5, e0_4, e0_19, e0_20, e0_21] <;> try rfl
    ·
      refine ⟨_, 0, ?_, rfl, ?_, ?_, ?_, ?_, ?_, ?_, ?_, ?_⟩
      · first | omega | trivial | assumption
      · first | rfl | (simp only [go_sem, ↓reduceIte])
      · simp only [go_sem, ↓reduceIte] <;> try rfl
      · simp only [go_sem, ↓reduceIte] <;> try rfl
      · simp only [go_sem, ↓reduceIte] <;> try rfl
      · simp only [go_sem, ↓reduceIte] <;> try rfl
      · simp only [go_sem, ↓reduceIte] <;> try rfl
      · simp only [go_sem, ↓reduceIte] <;> try rfl
      · simp only [go_sem, ↓reduceIte] <;> try rfl
end Go.Ab
