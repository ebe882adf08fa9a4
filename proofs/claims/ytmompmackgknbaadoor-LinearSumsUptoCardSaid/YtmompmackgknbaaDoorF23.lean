/-
  ROWS MADE TIGHT, by the reference.
-/
import Derived.Test.YtmompmackgknbaaDoorF22
set_option linter.unusedVariables false
set_option linter.unusedSimpArgs false
set_option maxRecDepth 100000
namespace Go.Ab
open Go Go.RowKit Go.Proofs

def refTightE (s : Sm) : Sm × Int := if validSm s = true then ((if gcdL s.l < 2 then s else tightS s), 0) else (nilS, 1)
theorem refTight_call (k : Int) (nl : Bool) (l : List Pt) (hl : l.length ≤ 400000000000) (hb : ∀ p ∈ l, p.t.big ≤ 4611686018427387904) : PCall CX 20 [Sm.av ⟨k, nl, l⟩] (· = sumE (refTightE ⟨k, nl, l⟩)) := by
  have hlv := rvalid_call k nl l hb (by omega)
  refine pcall_mk 3 73 [.cell 2 39, .tmp 3] Tryd.func20 rfl (by decide) rfl rfl rfl ?_
  simp only [go_sem]
  refine aw_sreg {} rfl (by simp only [allocObjs, go_sem]; rfl) fun K KP hK hP => ?_
  simp only [go_sem, ↓reduceIte]
  apply hK; clear hK hP
  refine aw_seq ?_
  refine aw_sreg {} rfl rfl fun K KP hK hP => ?_
  simp only [go_sem, ↓reduceIte]
  refine CallP.ret (by simpa only [go_sem] using hlv) (by simp only [go_sem]) ?_
  try simp only [go_sem, ↓reduceIte]
  apply hK; clear hK hP
  refine aw_if (¬ validSm ⟨k, nl, l⟩ = true) (by simp only [go_sem, ↓reduceIte]) (fun h1 => ?_) (fun h1 => ?_)
  ·
    refine aw_sreg {} rfl rfl fun K KP hK hP => ?_
    simp only [go_sem, ↓reduceIte]
    apply hK; clear hK hP
    refine aw_ret ?_
    refine athen_ret.2 ?_
    simp only [go_sem, ↓reduceIte, athen_ret] <;> (
      simp [sumE, refTightE, h1, nilS, go_sem, termsA])
  ·
    have hv : validSm ⟨k, nl, l⟩ = true := Classical.not_not.1 h1
    obtain ⟨hg, hw⟩ := validSm_good hv
    have hk := (within_iff _).1 hw
    simp only at hg hk
    have hcs : ∀ p ∈ l, p.c ≠ 0 ∧ p.c.natAbs ≤ 1152921504606846976 := fun p hp => ⟨(hg.ok p hp).1, by have := (within_iff _).1 (hg.ok p hp).2.1; omega⟩
    have hvb : ∀ p ∈ l, p.t.big ≤ 40020000 := fun p hp => validF_big (hg.ok p hp).2.2
    have hgle := gcdL_le 1152921504606846976 hcs
    refine aw_skip ?_
    refine athen_normal.2 ?_
    refine aw_sreg {} rfl rfl fun K KP hK hP => ?_
    simp only [go_sem, ↓reduceIte]
    apply hK; clear hK hP
    refine aw_seq ?_
    refine aw_sreg {} rfl rfl fun K KP hK hP => ?_
    simp only [go_sem, ↓reduceIte]
    apply hK; clear hK hP
    refine aw_block ?_
    refine aw_loop' (fun dd st => ∃ (i : Nat), (i ≤ l.length) ∧ l.length - i = dd ∧ [(0, .cells 39 [.int .i64 0, .base (.slice none 0 0)])] = st.σ ∧ st.env 1 = .rptr [.int .i64 k, termsA nl (l.map Pt.row)] ∧ st.env 2 = .ref 0 0 0 ∧ st.env 4 = .int .i64 (gcdL (l.take i) : Nat) ∧ st.env 5 = .int .i64 (i : Nat)) (fun dd st hJ => ?_) ?_
    ·
      obtain ⟨env0, σ0, nx0⟩ := st
      obtain ⟨i, hp0_0, hd0, hs0, e0_1, e0_2, e0_4, e0_5⟩ := hJ
      dsimp only at hs0  e0_1 e0_2 e0_4 e0_5
      subst hd0; subst hs0
      refine aw_forget' 1 rfl ?_
      refine aw_seq ?_
      refine aw_sreg {} rfl rfl fun K KP hK hP => ?_
      simp only [go_sem, ↓reduceIte, e0_1, e0_2, e0_4, e0_5]
      apply hK; clear hK hP
      refine aw_if (i < l.length) (by simp only [go_sem, ↓reduceIte, e0_1, e0_2, e0_4, e0_5]) (fun h5 => ?_) (fun h5 => ?_)
      ·
        have hw1 : IntKind.wrap .i64 ((i : Int) + 1) = ((i + 1 : Nat) : Int) := by rw [wrap64 (by omega) (by omega)]; omega
        have hci := hcs _ (List.getElem_mem h5)
        have hgi := hgle i
        have habs : absR l[i].c = ((l[i].c.natAbs : Nat) : Int) := by unfold absR; rw [if_neg (by omega)]
        have hdiv := refDivisor_call l[i].c.natAbs (gcdL (l.take i)) (by omega) (by omega)
        rw [Nat.gcd_comm, ← gcdL_take h5] at hdiv
        refine aw_skip ?_
        refine athen_normal.2 ?_
        refine aw_seq ?_
        refine aw_block ?_
        refine aw_lreg {} rfl rfl fun K KP hK hP => ?_
        simp only [go_sem, ↓reduceIte, e0_1, e0_2, e0_4, e0_5, h5, getD_rows h5, hw1, habs]
        refine CallP.ret (size_call l[i].c (by omega) (by omega)) (by simp only [go_sem]) ?_
        try simp only [go_sem, ↓reduceIte, e0_1, e0_2, e0_4, e0_5, h5, getD_rows h5, hw1, habs]
        refine CallP.ret hdiv (by simp only [go_sem]) ?_
        try simp only [go_sem, ↓reduceIte, e0_1, e0_2, e0_4, e0_5, h5, getD_rows h5, hw1, habs]
        apply hK; clear hK hP
        refine ablock_normal.2 ?_
        refine athen_normal.2 ?_
        refine aw_lreg {} rfl rfl fun K KP hK hP => ?_
        simp only [go_sem, ↓reduceIte, e0_1, e0_2, e0_4, e0_5, h5, getD_rows h5, hw1]
        apply hK; clear hK hP
        refine afor_one ?_
        refine athen_normal.2 ?_
        refine ⟨_, ?_, i + 1, ?_, rfl, rfl, ?_, ?_, ?_, ?_⟩
        · omega
        · first | omega | trivial | assumption
        · simp only [go_sem, ↓reduceIte, e0_1, e0_2, e0_4, e0_5, h5, getD_rows h5, hw1] <;> try rfl
        · simp only [go_sem, ↓reduceIte, e0_1, e0_2, e0_4, e0_5, h5, getD_rows h5, hw1] <;> try rfl
        · simp only [go_sem, ↓reduceIte, e0_1, e0_2, e0_4, e0_5, h5, getD_rows h5, hw1] <;> try rfl
        · simp only [go_sem, ↓reduceIte, e0_1, e0_2, e0_4, e0_5, h5, getD_rows h5, hw1] <;> try rfl
      ·
        have hi : i = l.length := by omega
        rw [hi, List.take_length] at e0_4
        have hgg := hgle l.length
        rw [List.take_length] at hgg
        refine aw_exit ?_
        refine athen_exit.2 ?_
        refine afor_one ?_
        refine athen_exit.2 ?_
        refine ablock_here ?_
        refine athen_normal.2 ?_
        refine aw_seq ?_
        refine aw_sreg {} rfl rfl fun K KP hK hP => ?_
        simp only [go_sem, ↓reduceIte, e0_1, e0_2, e0_4, e0_5]
        apply hK; clear hK hP
        refine aw_if (gcdL l < 2) (by simp only [go_sem, ↓reduceIte, Nat.reduceEqDiff, e0_4]; congr 1; apply decide_eq_decide.2; omega) (fun h8 => ?_) (fun h8 => ?_)
        ·
          refine aw_sreg {} rfl rfl fun K KP hK hP => ?_
          simp only [go_sem, ↓reduceIte, e0_1, e0_2, e0_4, e0_5]
          apply hK; clear hK hP
          refine aw_ret ?_
          refine athen_ret.2 ?_
          simp only [go_sem, ↓reduceIte, e0_1, e0_2, e0_4, e0_5, athen_ret] <;> (
            simp [sumE, refTightE, hv, h8, go_sem])
        ·
          have hgp : 0 < gcdL l := by omega
          have hgn : ¬ gcdL l = 0 := by omega
          obtain ⟨q1, q2, q3, q4⟩ := tmod_facts k hgp
          have htd := tdiv_bound k (gcdL l)
          have hmd : (Int.tdiv k (gcdL l : Nat)).natAbs ≤ k.natAbs / 2 := by
            have h1 : (Int.tdiv k (gcdL l : Nat)).natAbs = k.natAbs / gcdL l := by rw [Int.natAbs_tdiv]; rfl
            rw [h1]; exact Nat.div_le_div_left (by omega) (by decide)
          have hm5 : IntKind.wrap .i64 (Int.tdiv k (gcdL l : Nat)) = Int.tdiv k (gcdL l : Nat) := wrap64 (by omega) (by omega)
          have hm6 : IntKind.wrap .i64 (Int.tdiv k (gcdL l : Nat) + 1) = Int.tdiv k (gcdL l : Nat) + 1 := wrap64 (by omega) (by omega)
          refine aw_skip ?_
          refine athen_normal.2 ?_
          refine aw_sreg {} rfl (by simp only [allocObjs, go_sem]; rfl) fun K KP hK hP => ?_
          simp only [go_sem, ↓reduceIte, e0_1, e0_2, e0_4, e0_5, hgn, hm5, hm6]
          apply hK; clear hK hP
          refine aw_mid (fun st => ∃ (kq : Int), (kq = tightK k (gcdL l)) ∧ [(0, .cells 39 [.int .i64 0, .base (.slice none 0 0)]), (nx0, .cells 39 [.int .i64 kq, .base (.slice none 0 0)])] = st.σ ∧ st.env 1 = .rptr [.int .i64 k, termsA nl (l.map Pt.row)] ∧ st.env 2 = .ref 0 0 0 ∧ st.env 4 = .int .i64 (gcdL l : Nat) ∧ st.env 6 = .ref 1 nx0 0) ?_ ?_
          ·
            refine aw_sreg {} rfl rfl fun K KP hK hP => ?_
            simp only [go_sem, ↓reduceIte, e0_1, e0_2, e0_4, e0_5, hgn, hm5, hm6]
            apply hK; clear hK hP
            refine aw_if (0 < Int.tmod k (gcdL l : Nat)) (by simp only [go_sem, ↓reduceIte, e0_1, e0_2, e0_4, e0_5, hgn, hm5, hm6]) (fun h11 => ?_) (fun h11 => ?_)
            ·
              refine aw_lreg {} rfl rfl fun K KP hK hP => ?_
              simp only [go_sem, ↓reduceIte, e0_1, e0_2, e0_4, e0_5, hgn, hm5, hm6]
              apply hK; clear hK hP
              refine athen_normal.2 ?_
              refine ⟨Int.tdiv k (gcdL l : Nat) + 1, ?_, rfl, ?_, ?_, ?_, ?_⟩
              · unfold tightK; rw [if_neg h8, if_pos h11]
              · simp only [go_sem, ↓reduceIte, e0_1, e0_2, e0_4, e0_5, hgn, hm5, hm6] <;> try rfl
              · simp only [go_sem, ↓reduceIte, e0_1, e0_2, e0_4, e0_5, hgn, hm5, hm6] <;> try rfl
              · simp only [go_sem, ↓reduceIte, e0_1, e0_2, e0_4, e0_5, hgn, hm5, hm6] <;> try rfl
              · simp only [go_sem, ↓reduceIte, e0_1, e0_2, e0_4, e0_5, hgn, hm5, hm6] <;> try rfl
            ·
              refine aw_skip ?_
              refine athen_normal.2 ?_
              refine ⟨Int.tdiv k (gcdL l : Nat), ?_, rfl, ?_, ?_, ?_, ?_⟩
              · unfold tightK; rw [if_neg h8, if_neg h11]; omega
              · simp only [go_sem, ↓reduceIte, e0_1, e0_2, e0_4, e0_5, hgn, hm5, hm6] <;> try rfl
              · simp only [go_sem, ↓reduceIte, e0_1, e0_2, e0_4, e0_5, hgn, hm5, hm6] <;> try rfl
              · simp only [go_sem, ↓reduceIte, e0_1, e0_2, e0_4, e0_5, hgn, hm5, hm6] <;> try rfl
              · simp only [go_sem, ↓reduceIte, e0_1, e0_2, e0_4, e0_5, hgn, hm5, hm6] <;> try rfl
          ·
            rintro ⟨envms11, σms11, nxms11⟩ ⟨kq, hms11_0, hmss11, ms11_1, ms11_2, ms11_4, ms11_6⟩
            dsimp only at hmss11  ms11_1 ms11_2 ms11_4 ms11_6
            subst hmss11
            subst hms11_0
            refine aw_seq ?_
            refine aw_sreg {} rfl rfl fun K KP hK hP => ?_
            simp only [go_sem, ↓reduceIte, e0_1, e0_2, e0_4, e0_5, hgn, hm5, hm6, ms11_1, ms11_2, ms11_4, ms11_6]
            apply hK; clear hK hP
            refine aw_block ?_
            refine aw_loop' (fun dd st => ∃ (j : Nat) (tv : AV) (σr : Sto), (j ≤ l.length) ∧ (held2 5 71 (((tightL l (gcdL l)).map Pt.row).take j) tv σr) ∧ l.length - j = dd ∧ (0, .cells 39 [.int .i64 0, .base (.slice none 0 0)]) :: (nx0, .cells 39 [.int .i64 (tightK k (gcdL l)), tv]) :: σr = st.σ ∧ st.env 1 = .rptr [.int .i64 k, termsA nl (l.map Pt.row)] ∧ st.env 2 = .ref 0 0 0 ∧ st.env 6 = .ref 1 nx0 0 ∧ st.env 4 = .int .i64 (gcdL l : Nat) ∧ st.env 7 = .int .i64 (j : Nat)) (fun dd st hJ => ?_) ?_
            ·
              obtain ⟨env2, σ2, nx2⟩ := st
              obtain ⟨j, tv, σr, hp2_0, hp2_1, hd2, hs2, e2_1, e2_2, e2_6, e2_4, e2_7⟩ := hJ
              dsimp only at hs2  e2_1 e2_2 e2_6 e2_4 e2_7
              subst hd2; subst hs2
              refine aw_seq ?_
              refine aw_sreg {} rfl rfl fun K KP hK hP => ?_
              simp only [go_sem, ↓reduceIte, e0_1, e0_2, e0_4, e0_5, hgn, hm5, hm6, ms11_1, ms11_2, ms11_4, ms11_6, e2_1, e2_2, e2_6, e2_4, e2_7]
              apply hK; clear hK hP
              refine aw_if (j < l.length) (by simp only [go_sem, ↓reduceIte, e0_1, e0_2, e0_4, e0_5, hgn, hm5, hm6, ms11_1, ms11_2, ms11_4, ms11_6, e2_1, e2_2, e2_6, e2_4, e2_7]) (fun h14 => ?_) (fun h14 => ?_)
              ·
                have hw1 : IntKind.wrap .i64 ((j : Int) + 1) = ((j + 1 : Nat) : Int) := by rw [wrap64 (by omega) (by omega)]; omega
                have hcj := hcs _ (List.getElem_mem h14)
                have htb := tdiv_bound l[j].c (gcdL l)
                have hwq : IntKind.wrap .i64 (Int.tdiv l[j].c (gcdL l : Nat)) = Int.tdiv l[j].c (gcdL l : Nat) := wrap64 (by omega) (by omega)
                have hlim : (j + 1) * 64 ≤ limB := by unfold limB; omega
                have hlim1 : 64 ≤ limB := by decide
                have hli : j + 1 ≤ 4611686018427387904 := by omega
                have htk : (((tightL l (gcdL l)).map Pt.row).take j).length = j := by simp [tightL]; omega
                have hsucc : ((tightL l (gcdL l)).map Pt.row).take (j + 1) = ((tightL l (gcdL l)).map Pt.row).take j ++ [.int .i64 (l[j].c.tdiv (gcdL l : Nat)) :: l[j].t.cells] := by rw [List.take_succ_eq_append_getElem (by simpa [tightL] using h14)]; simp [Pt.row, tightL]
                refine aw_skip ?_
                refine athen_normal.2 ?_
                refine aw_seq ?_
                refine aw_block ?_
                by_cases c16 : ((tightL l (gcdL l)).map Pt.row).take j = []
                ·
                  have htv := hp2_1.nil c16
                  subst htv
                  refine aw_ldraw {} [] [0, 1, 0, 4, 0, 28, 60, 124, 0, 508, 0, 1024, 0, 7168, 15360, 31744, 65532, 131068, 262143, 524287, 1048575] mixed (by kernel_rfl) rfl rfl fun K KP hK hP => ?_
                  simp only [go_sem, ↓reduceIte, e0_1, e0_2, e0_4, e0_5, hgn, hm5, hm6, ms11_1, ms11_2, ms11_4, ms11_6, e2_1, e2_2, e2_6, e2_4, e2_7, h14, getD_rows h14, hw1, hgn, hwq, hlim, hlim1, hli, List.replicate_succ, c16]
                  apply hK; clear hK hP
                  refine ablock_normal.2 ?_
                  refine athen_normal.2 ?_
                  refine aw_lreg {} rfl rfl fun K KP hK hP => ?_
                  simp only [go_sem, ↓reduceIte, e0_1, e0_2, e0_4, e0_5, hgn, hm5, hm6, ms11_1, ms11_2, ms11_4, ms11_6, e2_1, e2_2, e2_6, e2_4, e2_7, h14, getD_rows h14, hw1, hgn, hwq, hlim, hlim1, hli, List.replicate_succ, c16]
                  apply hK; clear hK hP
                  refine athen_normal.2 ?_
                  refine ⟨_, ?_, j + 1, .sref (σr.length + 1 + 1) nx2 5 0 1, σr ++ [(nx2, .gvec 5 71 [.int .i64 (l[j].c.tdiv (gcdL l : Nat)) :: l[j].t.cells])], ?_, ?_, rfl, rfl, ?_, ?_, ?_, ?_, ?_⟩
                  · omega
                  · first | omega | trivial | assumption
                  · rw [hsucc, c16]; exact held2.new (by simp) _ _
                  · simp only [go_sem, ↓reduceIte, e0_1, e0_2, e0_4, e0_5, hgn, hm5, hm6, ms11_1, ms11_2, ms11_4, ms11_6, e2_1, e2_2, e2_6, e2_4, e2_7, h14, getD_rows h14, hw1, hgn, hwq, hlim, hlim1, hli, List.replicate_succ, c16] <;> try rfl
                  · simp only [go_sem, ↓reduceIte, e0_1, e0_2, e0_4, e0_5, hgn, hm5, hm6, ms11_1, ms11_2, ms11_4, ms11_6, e2_1, e2_2, e2_6, e2_4, e2_7, h14, getD_rows h14, hw1, hgn, hwq, hlim, hlim1, hli, List.replicate_succ, c16] <;> try rfl
                  · simp only [go_sem, ↓reduceIte, e0_1, e0_2, e0_4, e0_5, hgn, hm5, hm6, ms11_1, ms11_2, ms11_4, ms11_6, e2_1, e2_2, e2_6, e2_4, e2_7, h14, getD_rows h14, hw1, hgn, hwq, hlim, hlim1, hli, List.replicate_succ, c16] <;> try rfl
                  · simp only [go_sem, ↓reduceIte, e0_1, e0_2, e0_4, e0_5, hgn, hm5, hm6, ms11_1, ms11_2, ms11_4, ms11_6, e2_1, e2_2, e2_6, e2_4, e2_7, h14, getD_rows h14, hw1, hgn, hwq, hlim, hlim1, hli, List.replicate_succ, c16] <;> try rfl
                  · simp only [go_sem, ↓reduceIte, e0_1, e0_2, e0_4, e0_5, hgn, hm5, hm6, ms11_1, ms11_2, ms11_4, ms11_6, e2_1, e2_2, e2_6, e2_4, e2_7, h14, getD_rows h14, hw1, hgn, hwq, hlim, hlim1, hli, List.replicate_succ, c16] <;> try rfl
                ·
                  obtain ⟨q, nm, htv, hS2, hS3, hset⟩ := hp2_1.some c16
                  generalize ((tightL l (gcdL l)).map Pt.row).take j = R at *
                  rw [htk] at htv
                  subst htv
                  have htt : R.take j = R := List.take_of_length_le (by omega)
                  refine aw_ldraw {} [] [0, 1, 0, 4, 0, 28, 60, 124, 0, 508, 0, 1024, 0, 7168, 15360, 31744, 65532, 131068, 262143, 524287, 1048575] mixed (by kernel_rfl) rfl rfl fun K KP hK hP => ?_
                  simp only [go_sem, ↓reduceIte, e0_1, e0_2, e0_4, e0_5, hgn, hm5, hm6, ms11_1, ms11_2, ms11_4, ms11_6, e2_1, e2_2, e2_6, e2_4, e2_7, h14, getD_rows h14, hw1, hgn, hwq, hlim, hlim1, hli, List.replicate_succ, c16, hS2, hS3, htk, htt]
                  apply hK; clear hK hP
                  refine ablock_normal.2 ?_
                  refine athen_normal.2 ?_
                  refine aw_lreg {} rfl rfl fun K KP hK hP => ?_
                  simp only [go_sem, ↓reduceIte, e0_1, e0_2, e0_4, e0_5, hgn, hm5, hm6, ms11_1, ms11_2, ms11_4, ms11_6, e2_1, e2_2, e2_6, e2_4, e2_7, h14, getD_rows h14, hw1, hgn, hwq, hlim, hlim1, hli, List.replicate_succ, c16]
                  apply hK; clear hK hP
                  refine athen_normal.2 ?_
                  refine ⟨_, ?_, j + 1, .sref (q + 1 + 1) nx2 5 0 (j + 1), σr.set q (nx2, .gvec 5 71 (R ++ [.int .i64 (l[j].c.tdiv (gcdL l : Nat)) :: l[j].t.cells])), ?_, ?_, rfl, rfl, ?_, ?_, ?_, ?_, ?_⟩
                  · omega
                  · first | omega | trivial | assumption
                  · rw [hsucc]
                    have := hset [] nx2 (R ++ [.int .i64 (l[j].c.tdiv (gcdL l : Nat)) :: l[j].t.cells]) (by simp)
                    simpa [htk] using this
                  · simp only [go_sem, ↓reduceIte, e0_1, e0_2, e0_4, e0_5, hgn, hm5, hm6, ms11_1, ms11_2, ms11_4, ms11_6, e2_1, e2_2, e2_6, e2_4, e2_7, h14, getD_rows h14, hw1, hgn, hwq, hlim, hlim1, hli, List.replicate_succ, c16] <;> try rfl
                  · simp only [go_sem, ↓reduceIte, e0_1, e0_2, e0_4, e0_5, hgn, hm5, hm6, ms11_1, ms11_2, ms11_4, ms11_6, e2_1, e2_2, e2_6, e2_4, e2_7, h14, getD_rows h14, hw1, hgn, hwq, hlim, hlim1, hli, List.replicate_succ, c16] <;> try rfl
                  · simp only [go_sem, ↓reduceIte, e0_1, e0_2, e0_4, e0_5, hgn, hm5, hm6, ms11_1, ms11_2, ms11_4, ms11_6, e2_1, e2_2, e2_6, e2_4, e2_7, h14, getD_rows h14, hw1, hgn, hwq, hlim, hlim1, hli, List.replicate_succ, c16] <;> try rfl
                  · simp only [go_sem, ↓reduceIte, e0_1, e0_2, e0_4, e0_5, hgn, hm5, hm6, ms11_1, ms11_2, ms11_4, ms11_6, e2_1, e2_2, e2_6, e2_4, e2_7, h14, getD_rows h14, hw1, hgn, hwq, hlim, hlim1, hli, List.replicate_succ, c16] <;> try rfl
                  · simp only [go_sem, ↓reduceIte, e0_1, e0_2, e0_4, e0_5, hgn, hm5, hm6, ms11_1, ms11_2, ms11_4, ms11_6, e2_1, e2_2, e2_6, e2_4, e2_7, h14, getD_rows h14, hw1, hgn, hwq, hlim, hlim1, hli, List.replicate_succ, c16] <;> try rfl
              ·
                have hj : j = l.length := by omega
                have hfull : ((tightL l (gcdL l)).map Pt.row).take j = (tightL l (gcdL l)).map Pt.row := List.take_of_length_le (by simp [tightL]; omega)
                rw [hfull] at hp2_1
                refine aw_exit ?_
                refine athen_exit.2 ?_
                refine athen_exit.2 ?_
                refine ablock_here ?_
                refine athen_normal.2 ?_
                by_cases c17 : l = []
                ·
                  have htv := hp2_1.nil (by simp [tightL, c17])
                  subst htv
                  refine aw_sreg {} rfl rfl fun K KP hK hP => ?_
                  simp only [go_sem, ↓reduceIte, e0_1, e0_2, e0_4, e0_5, hgn, hm5, hm6, ms11_1, ms11_2, ms11_4, ms11_6, e2_1, e2_2, e2_6, e2_4, e2_7, c17]
                  apply hK; clear hK hP
                  refine aw_ret ?_
                  simp only [go_sem, ↓reduceIte, e0_1, e0_2, e0_4, e0_5, hgn, hm5, hm6, ms11_1, ms11_2, ms11_4, ms11_6, e2_1, e2_2, e2_6, e2_4, e2_7, c17, athen_ret] <;> (
                    subst c17; simp [sumE, refTightE, hv, h8, tightS, tightL, go_sem, termsA])
                ·
                  obtain ⟨q, nm, htv, hS2, hS3, hset⟩ := hp2_1.some (by simpa [tightL] using c17)
                  have htt : termsA true ((tightL l (gcdL l)).map Pt.row) = .vec 5 ((tightL l (gcdL l)).map Pt.row) := by cases l with | nil => exact absurd rfl c17 | cons => rfl
                  have htq : sumE (refTightE ⟨k, nl, l⟩) = .ret (.tup [.agg [.int .i64 (tightK k (gcdL l)), .vec 5 ((tightL l (gcdL l)).map Pt.row)], .int .i64 0]) := by simp [sumE, refTightE, hv, h8, tightS, go_sem, htt]
                  generalize tightL l (gcdL l) = lt at *
                  rw [List.length_map] at htv
                  subst htv
                  refine aw_sreg {} rfl rfl fun K KP hK hP => ?_
                  simp only [go_sem, ↓reduceIte, e0_1, e0_2, e0_4, e0_5, hgn, hm5, hm6, ms11_1, ms11_2, ms11_4, ms11_6, e2_1, e2_2, e2_6, e2_4, e2_7, c17]
                  apply hK; clear hK hP
                  refine aw_ret ?_
                  simp only [go_sem, ↓reduceIte, e0_1, e0_2, e0_4, e0_5, hgn, hm5, hm6, ms11_1, ms11_2, ms11_4, ms11_6, e2_1, e2_2, e2_6, e2_4, e2_7, c17, athen_ret, hS2, hS3, List.length_map, List.map_id'] <;> (
                    rw [htq])
            ·
              refine ⟨_, 0, .base (.slice none 0 0), [], ?_, ?_, rfl, ?_, ?_, ?_, ?_, ?_, ?_⟩
              · first | omega | trivial | assumption
              · exact .inl ⟨rfl, rfl⟩
              · first | rfl | (simp only [go_sem, ↓reduceIte, e0_1, e0_2, e0_4, e0_5, hgn, hm5, hm6, ms11_1, ms11_2, ms11_4, ms11_6])
              · simp only [go_sem, ↓reduceIte, e0_1, e0_2, e0_4, e0_5, hgn, hm5, hm6, ms11_1, ms11_2, ms11_4, ms11_6] <;> try rfl
              · simp only [go_sem, ↓reduceIte, e0_1, e0_2, e0_4, e0_5, hgn, hm5, hm6, ms11_1, ms11_2, ms11_4, ms11_6] <;> try rfl
              · simp only [go_sem, ↓reduceIte, e0_1, e0_2, e0_4, e0_5, hgn, hm5, hm6, ms11_1, ms11_2, ms11_4, ms11_6] <;> try rfl
              · simp only [go_sem, ↓reduceIte, e0_1, e0_2, e0_4, e0_5, hgn, hm5, hm6, ms11_1, ms11_2, ms11_4, ms11_6] <;> try rfl
              · simp only [go_sem, ↓reduceIte, e0_1, e0_2, e0_4, e0_5, hgn, hm5, hm6, ms11_1, ms11_2, ms11_4, ms11_6] <;> try rfl
    ·
      refine ⟨_, 0, ?_, rfl, ?_, ?_, ?_, ?_, ?_⟩
      · first | omega | trivial | assumption
      · first | rfl | (simp only [go_sem, ↓reduceIte])
      · simp only [go_sem, ↓reduceIte] <;> try rfl
      · simp only [go_sem, ↓reduceIte] <;> try rfl
      · simp only [go_sem, ↓reduceIte] <;> try rfl
      · simp only [go_sem, ↓reduceIte] <;> try rfl
/-- Both tight rows are told as the same. -/
theorem tight_same (s : Sm) : sameS (tightE s).1 (refTightE s).1 = true ∧ (tightE s).2 = (refTightE s).2 := by
  unfold tightE refTightE
  by_cases hv : validSm s = true
  · rw [if_pos hv, if_pos hv]
    refine ⟨?_, rfl⟩
    simp only
    by_cases hg : gcdL s.l < 2
    · rw [if_pos hg]
      have hk : (tightS s).k = s.k := by simp [tightS, tightK, hg]
      have hl : (tightS s).l = s.l := by
        simp only [tightS, tightL]
        obtain ⟨k, nl, l⟩ := s
        simp only at hg ⊢
        by_cases hn : l = []
        · subst hn; rfl
        · have hpos := gcdL_pos (fun p hp => ((validSm_good hv).1.ok p hp).1) hn
          have h1 : gcdL l = 1 := Nat.le_antisymm (Nat.le_of_lt_succ hg) hpos
          rw [h1]
          conv => rhs; rw [← List.map_id l]
          refine List.map_congr_left fun p hp => ?_
          show (⟨p.c.tdiv ((1 : Nat) : Int), p.t⟩ : Pt) = p
          rw [show p.c.tdiv ((1 : Nat) : Int) = p.c from Int.tdiv_one p.c]
      simp [sameS, hk, hl, sameL_self]
    · rw [if_neg hg]
      simp [sameS, sameL_self]
  · rw [if_neg hv, if_neg hv]
    exact ⟨by decide, rfl⟩
end Go.Ab
