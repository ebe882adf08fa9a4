/-
  SUMS as abstract values, and the contracts of the small functions on them.
-/
import Derived.Test.YtmompmackgknbaaDoorF7
set_option linter.unusedVariables false
set_option linter.unusedSimpArgs false
set_option maxRecDepth 100000
namespace Go.Ab
open Go Go.RowKit Go.Proofs

structure Pt where
  c : Int
  t : Fm
def Pt.row (p : Pt) : List AV := .int .i64 p.c :: p.t.cells
def termsA : Bool → List (List AV) → AV
  | true, [] => .base (.slice none 0 0)
  | _, rows => .vec 5 rows
structure Sm where
  k : Int
  nl : Bool
  l : List Pt
def Sm.cells (s : Sm) : List AV := [.int .i64 s.k, termsA s.nl (s.l.map Pt.row)]
def Sm.av (s : Sm) : AV := .agg s.cells
@[go_sem] theorem smav (k : Int) (nl : Bool) (l : List Pt) : Sm.av ⟨k, nl, l⟩ = .agg [.int .i64 k, termsA nl (l.map Pt.row)] := rfl
@[go_sem] theorem RFLL_rows (l : List Pt) : RFLL (l.map Pt.row) ↔ True := by
  simp only [iff_true]
  refine (RFLL_iff _).2 fun r hr => ?_
  obtain ⟨p, hp, rfl⟩ := List.mem_map.1 hr
  simp only [Pt.row, RFL, RF, true_and]
  exact p.t.rf
@[go_sem] theorem RF_terms (b : Bool) (rows : List (List AV)) : RF (termsA b rows) ↔ RFLL rows := by
  cases b <;> cases rows <;> simp only [termsA, RF, RFLL]
@[go_sem] theorem cellsA_terms (b : Bool) (l : List (List AV)) : cellsA (termsA b l) = some [termsA b l] := by cases b <;> cases l <;> rfl
@[go_sem] theorem frzF_terms (σ : Sto) (F : Nat) (b : Bool) (l : List (List AV)) : frzF σ F (termsA b l) = termsA b l := by
  cases F <;> cases b <;> cases l <;> rfl
@[go_sem] theorem lenA_terms (b : Bool) (l : List (List AV)) : lenA Tryd.prog 27 (termsA b l) = some (.int .i64 l.length) := by
  cases b <;> cases l <;> simp only [termsA, lenA, slcT_27, if_true, List.length_nil] <;> rfl
@[go_sem] theorem lenA_termsR (b : Bool) (l : List (List AV)) : lenA Tryd.prog 36 (termsA b l) = some (.int .i64 l.length) := by
  cases b <;> cases l <;> simp only [termsA, lenA, slcT_36, if_true, List.length_nil] <;> rfl
@[go_sem] theorem idxA_terms (b : Bool) (l : List (List AV)) (k : IntKind) (n : Int) : idxA Tryd.prog 27 (termsA b l) (.int k n) = if 0 ≤ n ∧ n < l.length then some (.rptr (l.getD n.toNat [])) else none := by
  cases b <;> cases l <;> simp only [termsA, idxA, elmT_27, List.length_nil, true_and]
  have : ¬ (0 ≤ n ∧ n < ((0 : Nat) : Int)) := by omega
  rw [if_neg this]
@[go_sem] theorem idxA_termsR (b : Bool) (l : List (List AV)) (k : IntKind) (n : Int) : idxA Tryd.prog 36 (termsA b l) (.int k n) = if 0 ≤ n ∧ n < l.length then some (.rptr (l.getD n.toNat [])) else none := by
  cases b <;> cases l <;> simp only [termsA, idxA, elmT_36, List.length_nil, true_and]
  have : ¬ (0 ≤ n ∧ n < ((0 : Nat) : Int)) := by omega
  rw [if_neg this]
@[go_sem] theorem RF_smav (s : Sm) : RF s.av ↔ True := by
  obtain ⟨k, nl, l⟩ := s
  simp only [Sm.av, Sm.cells, RF_agg, RFL_cons, RF_int, RF_terms, RFLL_rows, RFL_nil, and_self]
@[go_sem] theorem RFL_smcells (s : Sm) : RFL s.cells ↔ True := by
  have := RF_smav s
  simpa only [Sm.av, RF_agg] using this
@[go_sem] theorem cellsA_smav (s : Sm) : cellsA s.av = some s.cells := rfl
@[go_sem] theorem smcells_length (s : Sm) : s.cells.length = 2 := rfl
@[go_sem] theorem smcells_drop (s : Sm) : s.cells.drop 2 = [] := rfl
@[go_sem] theorem loadC_sm (s : Sm) : loadC Tryd.prog 29 s.cells = some s.av := by
  have h := smcells_length s
  simp only [loadC, aggT_29, szT_29, h, Nat.le_refl, if_true, Sm.av]
  rw [List.take_of_length_le (by omega)]
@[go_sem] theorem frzF_smav (σ : Sto) (F : Nat) (s : Sm) : frzF σ F s.av = s.av := by
  cases F with
  | zero => rfl
  | succ F => simp only [Sm.av, frzF_agg, Sm.cells, List.map_cons, List.map_nil, frzF_int, frzF_terms]
theorem getD_rows {l : List Pt} {i : Nat} (h : i < l.length) : (l.map Pt.row).getD i [] = .int .i64 l[i].c :: l[i].t.cells := by
  simp [h, Pt.row]
/-- Whether sums are told as the same. -/
def sameL : List Pt → List Pt → Bool
  | [], [] => true
  | p :: r, q :: s => if p.c = q.c ∧ cmpF p.t q.t = 0 then sameL r s else false
  | _, _ => false
theorem sameL_len : ∀ {l m : List Pt}, l.length ≠ m.length → sameL l m = false
  | [], [], h => by simp at h
  | [], _ :: _, _ => rfl
  | _ :: _, [], _ => rfl
  | p :: r, q :: s, h => by
    simp only [sameL]
    split
    · exact sameL_len (by simpa using h)
    · rfl
theorem sameL_drop {l m : List Pt} {i : Nat} (h : i < l.length) (h' : i < m.length) : sameL (l.drop i) (m.drop i) = if l[i].c = m[i].c ∧ cmpF l[i].t m[i].t = 0 then sameL (l.drop (i + 1)) (m.drop (i + 1)) else false := by
  rw [List.drop_eq_getElem_cons h, List.drop_eq_getElem_cons h']; simp only [sameL]
def sameS (a b : Sm) : Bool := decide (a.k = b.k) && sameL a.l b.l
theorem same_call (a b : Sm) (hb : ∀ p ∈ a.l, p.t.big ≤ 4611686018427387904) (hl : a.l.length ≤ 4611686018427387904) : PCall CX 11 [a.av, b.av] (· = .ret (.bool (sameS a b))) := by
  obtain ⟨k, nl, l⟩ := a
  obtain ⟨k', nl', l'⟩ := b
  simp only at hb hl
  refine pcall_mk 0 56 [.tmp 4] Tryd.func11 rfl (by decide) rfl rfl rfl ?_
  simp only [go_sem]
  refine aw_sreg {} rfl rfl fun K KP hK hP => ?_
  simp only [go_sem, ↓reduceIte]
  apply hK; clear hK hP
  refine aw_seq ?_
  by_cases c1_0 : ¬ k = k'
  ·
    refine aw_sreg {} rfl rfl fun K KP hK hP => ?_
    simp only [go_sem, ↓reduceIte, c1_0]
    apply hK; clear hK hP
    refine aw_if (True) (by simp only [go_sem, ↓reduceIte, c1_0]) (fun h1 => ?_) (fun h1 => ?_)
    ·
      refine aw_sreg {} rfl rfl fun K KP hK hP => ?_
      simp only [go_sem, ↓reduceIte, c1_0]
      apply hK; clear hK hP
      refine aw_ret ?_
      refine athen_ret.2 ?_
      simp only [go_sem, ↓reduceIte, c1_0, athen_ret] <;> (
        simp [sameS, c1_0])
    ·
      exact absurd trivial h1
  ·
    replace c1_0 := Classical.not_not.1 c1_0
    by_cases c1_1 : ¬ l.length = l'.length
    ·
      refine aw_sreg {} rfl rfl fun K KP hK hP => ?_
      simp only [go_sem, ↓reduceIte, c1_0, c1_1]
      apply hK; clear hK hP
      refine aw_if (True) (by simp only [go_sem, ↓reduceIte, c1_0, c1_1]) (fun h1 => ?_) (fun h1 => ?_)
      ·
        refine aw_sreg {} rfl rfl fun K KP hK hP => ?_
        simp only [go_sem, ↓reduceIte, c1_0, c1_1]
        apply hK; clear hK hP
        refine aw_ret ?_
        refine athen_ret.2 ?_
        simp only [go_sem, ↓reduceIte, c1_0, c1_1, athen_ret] <;> (
          simp [sameS, sameL_len c1_1])
      ·
        exact absurd trivial h1
    ·
      replace c1_1 := Classical.not_not.1 c1_1
      refine aw_sreg {} rfl rfl fun K KP hK hP => ?_
      simp only [go_sem, ↓reduceIte, c1_0, c1_1]
      apply hK; clear hK hP
      refine aw_if (False) (by simp only [go_sem, ↓reduceIte, c1_0, c1_1]) (fun h1 => ?_) (fun h1 => ?_)
      ·
        exact h1.elim
      ·
        refine aw_skip ?_
        refine athen_normal.2 ?_
        refine aw_seq ?_
        refine aw_sreg {} rfl rfl fun K KP hK hP => ?_
        simp only [go_sem, ↓reduceIte, c1_0, c1_1]
        apply hK; clear hK hP
        refine aw_block ?_
        refine aw_loop' (fun dd st => ∃ (i : Nat), (i ≤ l.length) ∧ (sameL l l' = sameL (l.drop i) (l'.drop i)) ∧ l.length - i = dd ∧ [] = st.σ ∧ st.env 2 = .rptr [.int .i64 k, termsA nl (l.map Pt.row)] ∧ st.env 3 = .rptr [.int .i64 k', termsA nl' (l'.map Pt.row)] ∧ st.env 5 = .int .i64 (i : Nat)) (fun dd st hJ => ?_) ?_
        ·
          obtain ⟨env0, σ0, nx0⟩ := st
          obtain ⟨i, hp0_0, hp0_1, hd0, hs0, e0_2, e0_3, e0_5⟩ := hJ
          dsimp only at hs0  e0_2 e0_3 e0_5
          subst hd0; subst hs0
          refine aw_forget' 0 rfl ?_
          refine aw_seq ?_
          refine aw_sreg {} rfl rfl fun K KP hK hP => ?_
          simp only [go_sem, ↓reduceIte, c1_0, c1_1, e0_2, e0_3, e0_5]
          apply hK; clear hK hP
          refine aw_if (i < l.length) (by simp only [go_sem, ↓reduceIte, c1_0, c1_1, e0_2, e0_3, e0_5]) (fun h4 => ?_) (fun h4 => ?_)
          ·
            have h4' : i < l'.length := by omega
            have hw1 : IntKind.wrap .i64 ((i : Int) + 1) = ((i + 1 : Nat) : Int) := by rw [wrap64 (by omega) (by omega)]; omega
            have hdr := sameL_drop h4 h4'
            have hbi := hb _ (List.getElem_mem h4)
            refine aw_skip ?_
            refine athen_normal.2 ?_
            refine aw_seq ?_
            refine aw_block ?_
            by_cases c6_0 : ¬ l[i].c = l'[i].c
            ·
              refine aw_sdraw {} [] [0, 1, 0, 7, 15, 31, 0, 64, 0, 448, 960, 1984, 4095, 8191, 16383, 32767, 16383, 131071, 262143, 524287, 16383, 1064959, 16383, 7356415, 15745023, 32522239, 67108863, 134217727, 268435455] mixed (by kernel_rfl) rfl rfl fun K KP hK hP => ?_
              simp only [go_sem, ↓reduceIte, c1_0, c1_1, e0_2, e0_3, e0_5, h4, h4', getD_rows h4, getD_rows h4', hw1, c6_0]
              apply hK; clear hK hP
              refine aw_if (True) (by simp only [go_sem, ↓reduceIte, c1_0, c1_1, e0_2, e0_3, e0_5, h4, h4', getD_rows h4, getD_rows h4', hw1, c6_0]) (fun h6 => ?_) (fun h6 => ?_)
              ·
                refine aw_sreg {} rfl rfl fun K KP hK hP => ?_
                simp only [go_sem, ↓reduceIte, c1_0, c1_1, e0_2, e0_3, e0_5, h4, h4', getD_rows h4, getD_rows h4', hw1, c6_0]
                apply hK; clear hK hP
                refine aw_ret ?_
                refine ablock_ret.2 ?_
                refine athen_ret.2 ?_
                refine afor_zero ?_
                refine athen_ret.2 ?_
                refine ablock_ret.2 ?_
                refine athen_ret.2 ?_
                simp only [go_sem, ↓reduceIte, c1_0, c1_1, e0_2, e0_3, e0_5, h4, h4', getD_rows h4, getD_rows h4', hw1, c6_0, athen_ret] <;> (
                  simp [sameS, hp0_1, hdr, c6_0])
              ·
                exact absurd trivial h6
            ·
              replace c6_0 := Classical.not_not.1 c6_0
              refine aw_sdraw {} [] [0, 1, 0, 7, 15, 31, 0, 64, 0, 448, 960, 1984, 4095, 8191, 16383, 32767, 16383, 131071, 262143, 524287, 16383, 1064959, 16383, 7356415, 15745023, 32522239, 67108863, 134217727, 268435455] mixed (by kernel_rfl) rfl rfl fun K KP hK hP => ?_
              simp only [go_sem, ↓reduceIte, c1_0, c1_1, e0_2, e0_3, e0_5, h4, h4', getD_rows h4, getD_rows h4', hw1, c6_0]
              refine CallP.ret (refEqual_call l[i].t l'[i].t hbi) (by simp only [go_sem]) ?_
              try simp only [go_sem, ↓reduceIte, c1_0, c1_1, e0_2, e0_3, e0_5, h4, h4', getD_rows h4, getD_rows h4', hw1, c6_0]
              apply hK; clear hK hP
              refine aw_if (¬ cmpF l[i].t l'[i].t = 0) (by simp only [go_sem, ↓reduceIte, c1_0, c1_1, e0_2, e0_3, e0_5, h4, h4', getD_rows h4, getD_rows h4', hw1, c6_0]) (fun h6 => ?_) (fun h6 => ?_)
              ·
                refine aw_sreg {} rfl rfl fun K KP hK hP => ?_
                simp only [go_sem, ↓reduceIte, c1_0, c1_1, e0_2, e0_3, e0_5, h4, h4', getD_rows h4, getD_rows h4', hw1, c6_0]
                apply hK; clear hK hP
                refine aw_ret ?_
                refine ablock_ret.2 ?_
                refine athen_ret.2 ?_
                refine afor_zero ?_
                refine athen_ret.2 ?_
                refine ablock_ret.2 ?_
                refine athen_ret.2 ?_
                simp only [go_sem, ↓reduceIte, c1_0, c1_1, e0_2, e0_3, e0_5, h4, h4', getD_rows h4, getD_rows h4', hw1, c6_0, athen_ret] <;> (
                  simp [sameS, hp0_1, hdr, h6])
              ·
                refine aw_skip ?_
                refine ablock_normal.2 ?_
                refine athen_normal.2 ?_
                refine aw_lreg {} rfl rfl fun K KP hK hP => ?_
                simp only [go_sem, ↓reduceIte, c1_0, c1_1, e0_2, e0_3, e0_5, h4, h4', getD_rows h4, getD_rows h4', hw1, c6_0]
                apply hK; clear hK hP
                refine afor_zero ?_
                refine athen_normal.2 ?_
                refine ⟨_, ?_, i + 1, ?_, ?_, rfl, rfl, ?_, ?_, ?_⟩
                · omega
                · first | omega | trivial | assumption
                · rw [hp0_1, hdr, if_pos ⟨c6_0, Classical.not_not.1 h6⟩]
                · simp only [go_sem, ↓reduceIte, c1_0, c1_1, e0_2, e0_3, e0_5, h4, h4', getD_rows h4, getD_rows h4', hw1, c6_0] <;> try rfl
                · simp only [go_sem, ↓reduceIte, c1_0, c1_1, e0_2, e0_3, e0_5, h4, h4', getD_rows h4, getD_rows h4', hw1, c6_0] <;> try rfl
                · simp only [go_sem, ↓reduceIte, c1_0, c1_1, e0_2, e0_3, e0_5, h4, h4', getD_rows h4, getD_rows h4', hw1, c6_0] <;> try rfl
          ·
            refine aw_exit ?_
            refine athen_exit.2 ?_
            refine afor_zero ?_
            refine athen_exit.2 ?_
            refine ablock_here ?_
            refine athen_normal.2 ?_
            refine aw_sreg {} rfl rfl fun K KP hK hP => ?_
            simp only [go_sem, ↓reduceIte, c1_0, c1_1, e0_2, e0_3, e0_5]
            apply hK; clear hK hP
            refine aw_ret ?_
            simp only [go_sem, ↓reduceIte, c1_0, c1_1, e0_2, e0_3, e0_5, athen_ret] <;> (
              have hi : i = l.length := by omega
              have hd1 : l.drop i = [] := by subst hi; exact List.drop_length
              have hd2 : l'.drop i = [] := List.drop_of_length_le (by omega)
              rw [hd1, hd2] at hp0_1
              simp [sameS, hp0_1, c1_0, sameL])
        ·
          refine ⟨_, 0, ?_, ?_, rfl, ?_, ?_, ?_, ?_⟩
          · first | omega | trivial | assumption
          · first | omega | trivial | assumption
          · first | rfl | (simp only [go_sem, ↓reduceIte, c1_0, c1_1])
          · simp only [go_sem, ↓reduceIte, c1_0, c1_1] <;> try rfl
          · simp only [go_sem, ↓reduceIte, c1_0, c1_1] <;> try rfl
          · simp only [go_sem, ↓reduceIte, c1_0, c1_1] <;> try rfl

/-! ### The reference's terms of a sum -/
@[go_sem] theorem appYs_one (σ : Sto) (r : List AV) : appYs Tryd.prog 36 5 σ (.vec 5 [r]) = some [r] := by
  simp [appYs, slcT_36, elemsA]
def growA (rows : List (List AV)) (nm : Nat) : AV := if rows = [] then .base (.slice none 0 0) else .sref 0 nm 5 0 rows.length
def growS (ty : Nat) (rows : List (List AV)) (nm : Nat) : Sto := if rows = [] then [] else [(nm, .gvec 5 ty rows)]
theorem growA_nil (nm : Nat) : growA [] nm = .base (.slice none 0 0) := rfl
theorem growS_nil (ty nm : Nat) : growS ty [] nm = [] := rfl
theorem growA_ne {rows : List (List AV)} (h : rows ≠ []) (nm : Nat) : growA rows nm = .sref 0 nm 5 0 rows.length := if_neg h
theorem growS_ne {rows : List (List AV)} (h : rows ≠ []) (ty nm : Nat) : growS ty rows nm = [(nm, .gvec 5 ty rows)] := if_neg h
theorem theirs_call (k : Int) (nl : Bool) (l : List Pt) (hl : l.length ≤ 1000000000000) : PCall CX 12 [Sm.av ⟨k, nl, l⟩] (· = .ret (termsA true (l.map Pt.row))) := by
  refine pcall_mk 1 29 [.tmp 2] Tryd.func12 rfl (by decide) rfl rfl rfl ?_
  simp only [go_sem]
  refine aw_sreg {} rfl rfl fun K KP hK hP => ?_
  simp only [go_sem, ↓reduceIte]
  apply hK; clear hK hP
  refine aw_sreg {} rfl rfl fun K KP hK hP => ?_
  simp only [go_sem, ↓reduceIte]
  apply hK; clear hK hP
  refine aw_seq ?_
  refine aw_sreg {} rfl rfl fun K KP hK hP => ?_
  simp only [go_sem, ↓reduceIte]
  apply hK; clear hK hP
  refine aw_block ?_
  refine aw_loop' (fun dd st => ∃ (i nm : Nat), (i ≤ l.length) ∧ l.length - i = dd ∧ growS 71 ((l.map Pt.row).take i) nm = st.σ ∧ st.env 1 = .rptr [.int .i64 k, termsA nl (l.map Pt.row)] ∧ st.env 3 = growA ((l.map Pt.row).take i) nm ∧ st.env 4 = .int .i64 (i : Nat)) (fun dd st hJ => ?_) ?_
  ·
    obtain ⟨env0, σ0, nx0⟩ := st
    obtain ⟨i, nm, hp0_0, hd0, hs0, e0_1, e0_3, e0_4⟩ := hJ
    dsimp only at hs0  e0_1 e0_3 e0_4
    subst hd0; subst hs0
    refine aw_seq ?_
    refine aw_sreg {} rfl rfl fun K KP hK hP => ?_
    simp only [go_sem, ↓reduceIte, e0_1, e0_3, e0_4]
    apply hK; clear hK hP
    refine aw_if (i < l.length) (by simp only [go_sem, ↓reduceIte, e0_1, e0_3, e0_4]) (fun h3 => ?_) (fun h3 => ?_)
    ·
      have hw1 : IntKind.wrap .i64 ((i : Int) + 1) = ((i + 1 : Nat) : Int) := by rw [wrap64 (by omega) (by omega)]; omega
      have hlim : (i + 1) * 64 ≤ limB := by unfold limB; omega
      have hlim1 : 64 ≤ limB := by decide
      have hli : i + 1 ≤ 4611686018427387904 := by omega
      have htk : ((l.map Pt.row).take i).length = i := by simp; omega
      have htt : ((l.map Pt.row).take i).take i = (l.map Pt.row).take i := by rw [List.take_take, Nat.min_self]
      have hsucc : (l.map Pt.row).take (i + 1) = (l.map Pt.row).take i ++ [.int .i64 l[i].c :: l[i].t.cells] := by rw [List.take_succ_eq_append_getElem (by simpa using h3)]; simp [Pt.row]
      refine aw_skip ?_
      refine athen_normal.2 ?_
      refine aw_seq ?_
      refine aw_block ?_
      by_cases c5 : (l.map Pt.row).take i = []
      ·
        refine aw_ldraw {} [] [0, 0, 2, 0, 14, 30, 62, 0, 128, 0, 896, 1920, 3968, 8190, 16382, 32767, 65535] mixed (by kernel_rfl) rfl rfl fun K KP hK hP => ?_
        simp only [go_sem, ↓reduceIte, e0_1, e0_3, e0_4, h3, getD_rows h3, hw1, hlim, hlim1, hli, htk, htt, List.replicate_succ, c5, growA_nil, growS_nil]
        apply hK; clear hK hP
        refine ablock_normal.2 ?_
        refine athen_normal.2 ?_
        refine aw_lreg {} rfl rfl fun K KP hK hP => ?_
        simp only [go_sem, ↓reduceIte, e0_1, e0_3, e0_4, h3, getD_rows h3, hw1, hlim, hlim1, hli, htk, htt, List.replicate_succ, c5]
        apply hK; clear hK hP
        refine athen_normal.2 ?_
        refine ⟨_, ?_, i + 1, nx0, ?_, rfl, ?_, ?_, ?_, ?_⟩
        · omega
        · first | omega | trivial | assumption
        · rw [hsucc, c5]; rfl
        · simp only [go_sem, ↓reduceIte, e0_1, e0_3, e0_4, h3, getD_rows h3, hw1, hlim, hlim1, hli, htk, htt, List.replicate_succ, c5] <;> try rfl
        · rw [hsucc, c5]; rfl
        · simp only [go_sem, ↓reduceIte, e0_1, e0_3, e0_4, h3, getD_rows h3, hw1, hlim, hlim1, hli, htk, htt, List.replicate_succ, c5] <;> try rfl
      ·
        refine aw_ldraw {} [] [0, 0, 2, 0, 14, 30, 62, 0, 128, 0, 896, 1920, 3968, 8190, 16382, 32767, 65535] mixed (by kernel_rfl) rfl rfl fun K KP hK hP => ?_
        simp only [go_sem, ↓reduceIte, e0_1, e0_3, e0_4, h3, getD_rows h3, hw1, hlim, hlim1, hli, htk, htt, List.replicate_succ, c5, growA_ne c5, growS_ne c5]
        apply hK; clear hK hP
        refine ablock_normal.2 ?_
        refine athen_normal.2 ?_
        refine aw_lreg {} rfl rfl fun K KP hK hP => ?_
        simp only [go_sem, ↓reduceIte, e0_1, e0_3, e0_4, h3, getD_rows h3, hw1, hlim, hlim1, hli, htk, htt, List.replicate_succ, c5]
        apply hK; clear hK hP
        refine athen_normal.2 ?_
        refine ⟨_, ?_, i + 1, nx0, ?_, rfl, ?_, ?_, ?_, ?_⟩
        · omega
        · first | omega | trivial | assumption
        · rw [hsucc, growS_ne (by simp)]
        · simp only [go_sem, ↓reduceIte, e0_1, e0_3, e0_4, h3, getD_rows h3, hw1, hlim, hlim1, hli, htk, htt, List.replicate_succ, c5] <;> try rfl
        · rw [hsucc, growA_ne (by simp), List.length_append, htk]; rfl
        · simp only [go_sem, ↓reduceIte, e0_1, e0_3, e0_4, h3, getD_rows h3, hw1, hlim, hlim1, hli, htk, htt, List.replicate_succ, c5] <;> try rfl
    ·
      refine aw_exit ?_
      refine athen_exit.2 ?_
      refine athen_exit.2 ?_
      refine ablock_here ?_
      refine athen_normal.2 ?_
      by_cases c6 : l = []
      ·
        have hi : i = l.length := by omega
        have hfull : (l.map Pt.row).take i = l.map Pt.row := List.take_of_length_le (by simp; omega)
        have hfull2 : (l.map Pt.row).take l.length = l.map Pt.row := List.take_of_length_le (by simp)
        refine aw_sreg {} rfl rfl fun K KP hK hP => ?_
        simp only [go_sem, ↓reduceIte, e0_1, e0_3, e0_4, c6]
        apply hK; clear hK hP
        refine aw_ret ?_
        simp only [go_sem, ↓reduceIte, e0_1, e0_3, e0_4, c6, athen_ret, growA_nil, growS_nil, List.take_nil, termsA]
      ·
        have hi : i = l.length := by omega
        have hfull : (l.map Pt.row).take i = l.map Pt.row := List.take_of_length_le (by simp; omega)
        have hfull2 : (l.map Pt.row).take l.length = l.map Pt.row := List.take_of_length_le (by simp)
        refine aw_sreg {} rfl rfl fun K KP hK hP => ?_
        simp only [go_sem, ↓reduceIte, e0_1, e0_3, e0_4, c6]
        apply hK; clear hK hP
        refine aw_ret ?_
        simp only [go_sem, ↓reduceIte, e0_1, e0_3, e0_4, c6, athen_ret] <;> (
          have hne : l.map Pt.row ≠ [] := by simpa using c6
          rw [hfull, growA_ne hne, growS_ne hne]
          have ht : termsA true (l.map Pt.row) = .vec 5 (l.map Pt.row) := by cases l with | nil => exact absurd rfl c6 | cons => rfl
          rw [ht]
          simp only [go_sem, hfull2, ↓reduceIte, List.map_id'])
  ·
    refine ⟨_, 0, 0, ?_, rfl, ?_, ?_, ?_, ?_⟩
    · first | omega | trivial | assumption
    · first | rfl | (simp only [go_sem, ↓reduceIte])
    · simp only [go_sem, ↓reduceIte] <;> try rfl
    · simp only [go_sem, ↓reduceIte] <;> try rfl
    · simp only [go_sem, ↓reduceIte] <;> try rfl
end Go.Ab
