/-
  THE ORDER OF FORMS, as the reader and as the reference have it.
-/
import Derived.Test.YtmompmackgknbaaDoorF3
set_option linter.unusedVariables false
set_option linter.unusedSimpArgs false
set_option maxRecDepth 100000
namespace Go.Ab
open Go Go.RowKit Go.Proofs

theorem Valid_call (f : Fm) (hb : f.big ≤ 4611686018427387904) : PCall CX 31 [f.av] (· = .ret (.bool (validS f 20000 100).1)) := by
  obtain ⟨k, n, t, nl, l⟩ := f
  refine pcall_mk 0 6 [.tmp 2] Tryd.func31 rfl (by decide) rfl rfl rfl ?_
  simp only [go_sem]
  refine aw_sreg {} rfl rfl fun K KP hK hP => ?_
  simp only [go_sem, ↓reduceIte]
  apply hK; clear hK hP
  refine aw_sreg {} rfl (by simp only [allocObjs, go_sem]; rfl) fun K KP hK hP => ?_
  simp only [go_sem, ↓reduceIte]
  apply hK; clear hK hP
  refine aw_sreg { ac := [5] } rfl rfl fun K KP hK hP => ?_
  simp only [go_sem, ↓reduceIte]
  refine CallP.acallN (valid_call (.mk k n t nl l) 20000 100 0 _ [] (by decide) (by decide) (by decide) (by decide) hb).av (fun nx1 => ?_)
  try simp only [go_sem, ↓reduceIte]
  apply hK; clear hK hP
  refine aw_ret ?_
  simp only [go_sem, ↓reduceIte, athen_ret]
def cmpI (a b : Int) : Int := if a < b then -1 else if b < a then 1 else 0
def cmpS (a b : List UInt8) : Int := if Op.bytesLess a b = true then -1 else if a = b then 0 else 1
theorem isNaNi_call (a : Int) : PCall CX 75 [.int .i64 a] (· = .ret (.bool false)) := by
  refine pcall_mk 0 6 [.tmp 2] Tryd.func75 rfl (by decide) rfl rfl rfl ?_
  refine aw_sreg {} rfl rfl fun K KP hK hP => ?_
  simp only [go_sem, ↓reduceIte]
  apply hK; clear hK hP
  refine aw_sreg {} rfl rfl fun K KP hK hP => ?_
  simp only [go_sem, ↓reduceIte]
  apply hK; clear hK hP
  refine aw_ret ?_
  simp only [go_sem, ↓reduceIte, athen_ret]
theorem isNaNs_call (a : List UInt8) : PCall CX 76 [.str a] (· = .ret (.bool false)) := by
  refine pcall_mk 0 6 [.tmp 2] Tryd.func76 rfl (by decide) rfl rfl rfl ?_
  refine aw_sreg {} rfl rfl fun K KP hK hP => ?_
  simp only [go_sem, ↓reduceIte]
  apply hK; clear hK hP
  refine aw_sreg {} rfl rfl fun K KP hK hP => ?_
  simp only [go_sem, ↓reduceIte]
  apply hK; clear hK hP
  refine aw_ret ?_
  simp only [go_sem, ↓reduceIte, athen_ret]
theorem cmpI_call (a b : Int) : PCall CX 56 [.int .i64 a, .int .i64 b] (· = .ret (.int .i64 (cmpI a b))) := by
  refine pcall_mk 0 20 [.tmp 4] Tryd.func56 rfl (by decide) rfl rfl rfl ?_
  refine aw_sreg {} rfl rfl fun K KP hK hP => ?_
  simp only [go_sem, ↓reduceIte]
  apply hK; clear hK hP
  refine aw_sreg {} rfl rfl fun K KP hK hP => ?_
  simp only [go_sem, ↓reduceIte]
  refine CallP.ret (isNaNi_call _) (by simp only [go_sem]) ?_
  try simp only [go_sem, ↓reduceIte]
  apply hK; clear hK hP
  refine aw_sreg {} rfl rfl fun K KP hK hP => ?_
  simp only [go_sem, ↓reduceIte]
  refine CallP.ret (isNaNi_call _) (by simp only [go_sem]) ?_
  try simp only [go_sem, ↓reduceIte]
  apply hK; clear hK hP
  refine aw_seq ?_
  refine aw_sreg {} rfl rfl fun K KP hK hP => ?_
  simp only [go_sem, ↓reduceIte]
  apply hK; clear hK hP
  refine aw_if (False) (by simp only [go_sem, ↓reduceIte]) (fun h3 => ?_) (fun h3 => ?_)
  ·
    exact h3.elim
  ·
    refine aw_skip ?_
    refine athen_normal.2 ?_
    refine aw_seq ?_
    refine aw_sreg {} rfl rfl fun K KP hK hP => ?_
    simp only [go_sem, ↓reduceIte]
    apply hK; clear hK hP
    refine aw_if (False) (by simp only [go_sem, ↓reduceIte]) (fun h7 => ?_) (fun h7 => ?_)
    ·
      exact h7.elim
    ·
      refine aw_skip ?_
      refine athen_normal.2 ?_
      refine aw_seq ?_
      refine aw_sreg {} rfl rfl fun K KP hK hP => ?_
      simp only [go_sem, ↓reduceIte]
      apply hK; clear hK hP
      refine aw_if (a < b) (by simp only [go_sem, ↓reduceIte]) (fun h9 => ?_) (fun h9 => ?_)
      ·
        refine aw_sreg {} rfl rfl fun K KP hK hP => ?_
        simp only [go_sem, ↓reduceIte]
        apply hK; clear hK hP
        refine aw_ret ?_
        refine athen_ret.2 ?_
        simp only [go_sem, ↓reduceIte, athen_ret] <;> (
          simp [cmpI, h9])
      ·
        refine aw_skip ?_
        refine athen_normal.2 ?_
        refine aw_seq ?_
        refine aw_sreg {} rfl rfl fun K KP hK hP => ?_
        simp only [go_sem, ↓reduceIte]
        apply hK; clear hK hP
        refine aw_if (b < a) (by simp only [go_sem, ↓reduceIte]) (fun h11 => ?_) (fun h11 => ?_)
        ·
          refine aw_sreg {} rfl rfl fun K KP hK hP => ?_
          simp only [go_sem, ↓reduceIte]
          apply hK; clear hK hP
          refine aw_ret ?_
          refine athen_ret.2 ?_
          simp only [go_sem, ↓reduceIte, athen_ret] <;> (
            simp [cmpI, h9, h11])
        ·
          refine aw_skip ?_
          refine athen_normal.2 ?_
          refine aw_sreg {} rfl rfl fun K KP hK hP => ?_
          simp only [go_sem, ↓reduceIte]
          apply hK; clear hK hP
          refine aw_ret ?_
          simp only [go_sem, ↓reduceIte, athen_ret] <;> (
            simp [cmpI, h9, h11])
theorem cmpS_call (a b : List UInt8) : PCall CX 57 [.str a, .str b] (· = .ret (.int .i64 (cmpS a b))) := by
  refine pcall_mk 0 20 [.tmp 4] Tryd.func57 rfl (by decide) rfl rfl rfl ?_
  refine aw_sreg {} rfl rfl fun K KP hK hP => ?_
  simp only [go_sem, ↓reduceIte]
  apply hK; clear hK hP
  refine aw_sreg {} rfl rfl fun K KP hK hP => ?_
  simp only [go_sem, ↓reduceIte]
  refine CallP.ret (isNaNs_call _) (by simp only [go_sem]) ?_
  try simp only [go_sem, ↓reduceIte]
  apply hK; clear hK hP
  refine aw_sreg {} rfl rfl fun K KP hK hP => ?_
  simp only [go_sem, ↓reduceIte]
  refine CallP.ret (isNaNs_call _) (by simp only [go_sem]) ?_
  try simp only [go_sem, ↓reduceIte]
  apply hK; clear hK hP
  refine aw_seq ?_
  refine aw_sreg {} rfl rfl fun K KP hK hP => ?_
  simp only [go_sem, ↓reduceIte]
  apply hK; clear hK hP
  refine aw_if (False) (by simp only [go_sem, ↓reduceIte]) (fun h3 => ?_) (fun h3 => ?_)
  ·
    exact h3.elim
  ·
    refine aw_skip ?_
    refine athen_normal.2 ?_
    refine aw_seq ?_
    refine aw_sreg {} rfl rfl fun K KP hK hP => ?_
    simp only [go_sem, ↓reduceIte]
    apply hK; clear hK hP
    refine aw_if (False) (by simp only [go_sem, ↓reduceIte]) (fun h7 => ?_) (fun h7 => ?_)
    ·
      exact h7.elim
    ·
      refine aw_skip ?_
      refine athen_normal.2 ?_
      refine aw_seq ?_
      refine aw_sreg {} rfl rfl fun K KP hK hP => ?_
      simp only [go_sem, ↓reduceIte]
      apply hK; clear hK hP
      refine aw_if (Op.bytesLess a b = true) (by simp only [go_sem, ↓reduceIte]) (fun h9 => ?_) (fun h9 => ?_)
      ·
        refine aw_sreg {} rfl rfl fun K KP hK hP => ?_
        simp only [go_sem, ↓reduceIte]
        apply hK; clear hK hP
        refine aw_ret ?_
        refine athen_ret.2 ?_
        simp only [go_sem, ↓reduceIte, athen_ret] <;> (
          simp [cmpS, h9])
      ·
        refine aw_skip ?_
        refine athen_normal.2 ?_
        refine aw_seq ?_
        refine aw_sreg {} rfl rfl fun K KP hK hP => ?_
        simp only [go_sem, ↓reduceIte]
        apply hK; clear hK hP
        refine aw_if (¬ (Op.bytesLess a b = true ∨ a = b)) (by simp only [go_sem, ↓reduceIte, Nat.reduceEqDiff, Nat.reduceAdd]; cases Op.bytesLess a b <;> simp) (fun h11 => ?_) (fun h11 => ?_)
        ·
          refine aw_sreg {} rfl rfl fun K KP hK hP => ?_
          simp only [go_sem, ↓reduceIte]
          apply hK; clear hK hP
          refine aw_ret ?_
          refine athen_ret.2 ?_
          simp only [go_sem, ↓reduceIte, athen_ret] <;> (
            have : ¬ a = b := fun e => h11 (.inr e)
            simp [cmpS, h9, this])
        ·
          refine aw_skip ?_
          refine athen_normal.2 ?_
          refine aw_sreg {} rfl rfl fun K KP hK hP => ?_
          simp only [go_sem, ↓reduceIte]
          apply hK; clear hK hP
          refine aw_ret ?_
          simp only [go_sem, ↓reduceIte, athen_ret] <;> (
            have : a = b := by
              rcases Classical.not_not.1 h11 with h | h
              · exact absurd h h9
              · exact h
            subst this
            simp [cmpS]
            simpa using h9)
mutual
def cmpF : Fm → Fm → Int
  | .mk k n t _ l, g => if ¬ k = g.k then cmpI k g.k else if k = 0 then cmpI n g.n else if k = 1 ∨ k = 2 then cmpS t g.t else if k = 3 then cmpL l g.l else 0
def cmpL : List Fm → List Fm → Int
  | [], m => if m = [] then 0 else -1
  | f :: r, m => match m with
    | [] => 1
    | g :: m => if ¬ cmpF f g = 0 then cmpF f g else cmpL r m
end
theorem cmpL_drop {l m : List Fm} {i : Nat} (h : i < l.length) (h' : i < m.length) : cmpL (l.drop i) (m.drop i) = if ¬ cmpF l[i] m[i] = 0 then cmpF l[i] m[i] else cmpL (l.drop (i + 1)) (m.drop (i + 1)) := by
  rw [List.drop_eq_getElem_cons h, List.drop_eq_getElem_cons h']; simp only [cmpL]
theorem compareFunc_call (nl nl' : Bool) (l m : List Fm) (hl : l.length ≤ 4611686018427387904) (hc : ∀ f ∈ l, ∀ g, PCall CX 23 [f.av, g.av] (· = .ret (.int .i64 (cmpF f g)))) :
    PCall CX 58 [kidsA nl (l.map Fm.cells), kidsA nl' (m.map Fm.cells), .fn (.func 23) [] []] (· = .ret (.int .i64 (cmpL l m))) := by
  refine pcall_mk 0 39 [.tmp 6] Tryd.func58 rfl (by decide) rfl rfl rfl ?_
  refine aw_sreg {} rfl rfl fun K KP hK hP => ?_
  simp only [go_sem, ↓reduceIte]
  apply hK; clear hK hP
  refine aw_seq ?_
  refine aw_sreg {} rfl rfl fun K KP hK hP => ?_
  simp only [go_sem, ↓reduceIte]
  apply hK; clear hK hP
  refine aw_block ?_
  refine aw_loop' (fun dd st => ∃ (i : Nat), (i ≤ l.length) ∧ (i ≤ m.length) ∧ (cmpL l m = cmpL (l.drop i) (m.drop i)) ∧ l.length - i = dd ∧ [] = st.σ ∧ st.env 0 = kidsA nl (l.map Fm.cells) ∧ st.env 1 = kidsA nl' (m.map Fm.cells) ∧ st.env 2 = .fn (.func 23) [] [] ∧ st.env 11 = kidsA nl (l.map Fm.cells) ∧ st.env 12 = .int .i64 l.length ∧ st.env 13 = .int .i64 (i : Nat)) (fun dd st hJ => ?_) ?_
  ·
    obtain ⟨env0, σ0, nx0⟩ := st
    obtain ⟨i, hp0_0, hp0_1, hp0_2, hd0, hs0, e0_0, e0_1, e0_2, e0_11, e0_12, e0_13⟩ := hJ
    dsimp only at hs0  e0_0 e0_1 e0_2 e0_11 e0_12 e0_13
    subst hd0; subst hs0
    refine aw_forget' 0 rfl ?_
    refine aw_sreg {} rfl rfl fun K KP hK hP => ?_
    simp only [go_sem, ↓reduceIte, e0_0, e0_1, e0_2, e0_11, e0_12, e0_13]
    apply hK; clear hK hP
    refine aw_seq ?_
    refine aw_if (i < l.length) (by simp only [go_sem, ↓reduceIte, e0_0, e0_1, e0_2, e0_11, e0_12, e0_13]) (fun h2 => ?_) (fun h2 => ?_)
    ·
      have hw1 : IntKind.wrap .i64 ((i : Int) + 1) = ((i + 1 : Nat) : Int) := by rw [wrap64 (by omega) (by omega)]; omega
      refine aw_skip ?_
      refine athen_normal.2 ?_
      refine aw_seq ?_
      refine aw_block ?_
      refine aw_sreg {} rfl (by simp only [allocObjs, go_sem]; rfl) fun K KP hK hP => ?_
      simp only [go_sem, ↓reduceIte, e0_0, e0_1, e0_2, e0_11, e0_12, e0_13, h2, getD_cells h2, hw1]
      apply hK; clear hK hP
      refine aw_seq ?_
      refine aw_sreg {} rfl rfl fun K KP hK hP => ?_
      simp only [go_sem, ↓reduceIte, e0_0, e0_1, e0_2, e0_11, e0_12, e0_13, h2, getD_cells h2, hw1]
      apply hK; clear hK hP
      refine aw_if (m.length ≤ i) (by simp only [go_sem, ↓reduceIte, e0_0, e0_1, e0_2, e0_11, e0_12, e0_13, h2, getD_cells h2, hw1]) (fun h4 => ?_) (fun h4 => ?_)
      ·
        refine aw_sreg {} rfl rfl fun K KP hK hP => ?_
        simp only [go_sem, ↓reduceIte, e0_0, e0_1, e0_2, e0_11, e0_12, e0_13, h2, getD_cells h2, hw1]
        apply hK; clear hK hP
        refine aw_ret ?_
        refine athen_ret.2 ?_
        refine ablock_ret.2 ?_
        refine athen_ret.2 ?_
        refine afor_zero ?_
        refine athen_ret.2 ?_
        refine ablock_ret.2 ?_
        refine athen_ret.2 ?_
        simp only [go_sem, ↓reduceIte, e0_0, e0_1, e0_2, e0_11, e0_12, e0_13, h2, getD_cells h2, hw1, athen_ret] <;> (
          have hi : i = m.length := by omega
          rw [hp0_2, hi, List.drop_length, List.drop_eq_getElem_cons (by omega)]
          rfl)
      ·
        have h4' : i < m.length := by omega
        have hdr := cmpL_drop h2 h4'
        refine aw_skip ?_
        refine athen_normal.2 ?_
        refine aw_sreg {} rfl (by simp only [allocObjs, go_sem]; rfl) fun K KP hK hP => ?_
        simp only [go_sem, ↓reduceIte, e0_0, e0_1, e0_2, e0_11, e0_12, e0_13, h2, getD_cells h2, hw1, h4', getD_cells h4']
        apply hK; clear hK hP
        refine aw_sreg {} rfl rfl fun K KP hK hP => ?_
        simp only [go_sem, ↓reduceIte, e0_0, e0_1, e0_2, e0_11, e0_12, e0_13, h2, getD_cells h2, hw1, h4', getD_cells h4']
        refine CallP.ret (hc _ (List.getElem_mem h2) _) (by simp only [go_sem]) ?_
        try simp only [go_sem, ↓reduceIte, e0_0, e0_1, e0_2, e0_11, e0_12, e0_13, h2, getD_cells h2, hw1, h4', getD_cells h4']
        apply hK; clear hK hP
        refine aw_sreg {} rfl rfl fun K KP hK hP => ?_
        simp only [go_sem, ↓reduceIte, e0_0, e0_1, e0_2, e0_11, e0_12, e0_13, h2, getD_cells h2, hw1, h4', getD_cells h4']
        apply hK; clear hK hP
        refine aw_if (¬ cmpF l[i] m[i] = 0) (by simp only [go_sem, ↓reduceIte, e0_0, e0_1, e0_2, e0_11, e0_12, e0_13, h2, getD_cells h2, hw1, h4', getD_cells h4']) (fun h8 => ?_) (fun h8 => ?_)
        ·
          refine aw_sreg {} rfl rfl fun K KP hK hP => ?_
          simp only [go_sem, ↓reduceIte, e0_0, e0_1, e0_2, e0_11, e0_12, e0_13, h2, getD_cells h2, hw1, h4', getD_cells h4']
          apply hK; clear hK hP
          refine aw_ret ?_
          refine ablock_ret.2 ?_
          refine athen_ret.2 ?_
          refine afor_zero ?_
          refine athen_ret.2 ?_
          refine ablock_ret.2 ?_
          refine athen_ret.2 ?_
          simp only [go_sem, ↓reduceIte, e0_0, e0_1, e0_2, e0_11, e0_12, e0_13, h2, getD_cells h2, hw1, h4', getD_cells h4', athen_ret] <;> (
            rw [hp0_2, hdr, if_pos h8])
        ·
          refine aw_skip ?_
          refine ablock_normal.2 ?_
          refine athen_normal.2 ?_
          refine aw_lreg {} rfl rfl fun K KP hK hP => ?_
          simp only [go_sem, ↓reduceIte, e0_0, e0_1, e0_2, e0_11, e0_12, e0_13, h2, getD_cells h2, hw1, h4', getD_cells h4']
          apply hK; clear hK hP
          refine afor_zero ?_
          refine athen_normal.2 ?_
          refine ⟨_, ?_, i + 1, ?_, ?_, ?_, rfl, rfl, ?_, ?_, ?_, ?_, ?_, ?_⟩
          · omega
          · first | omega | trivial | assumption
          · first | omega | trivial | assumption
          · rw [hp0_2, hdr, if_neg h8]
          · simp only [go_sem, ↓reduceIte, e0_0, e0_1, e0_2, e0_11, e0_12, e0_13, h2, getD_cells h2, hw1, h4', getD_cells h4'] <;> try rfl
          · simp only [go_sem, ↓reduceIte, e0_0, e0_1, e0_2, e0_11, e0_12, e0_13, h2, getD_cells h2, hw1, h4', getD_cells h4'] <;> try rfl
          · simp only [go_sem, ↓reduceIte, e0_0, e0_1, e0_2, e0_11, e0_12, e0_13, h2, getD_cells h2, hw1, h4', getD_cells h4'] <;> try rfl
          · simp only [go_sem, ↓reduceIte, e0_0, e0_1, e0_2, e0_11, e0_12, e0_13, h2, getD_cells h2, hw1, h4', getD_cells h4'] <;> try rfl
          · simp only [go_sem, ↓reduceIte, e0_0, e0_1, e0_2, e0_11, e0_12, e0_13, h2, getD_cells h2, hw1, h4', getD_cells h4'] <;> try rfl
          · simp only [go_sem, ↓reduceIte, e0_0, e0_1, e0_2, e0_11, e0_12, e0_13, h2, getD_cells h2, hw1, h4', getD_cells h4'] <;> try rfl
    ·
      refine aw_exit ?_
      refine athen_exit.2 ?_
      refine afor_zero ?_
      refine athen_exit.2 ?_
      refine ablock_here ?_
      refine athen_normal.2 ?_
      refine aw_seq ?_
      refine aw_sreg {} rfl rfl fun K KP hK hP => ?_
      simp only [go_sem, ↓reduceIte, e0_0, e0_1, e0_2, e0_11, e0_12, e0_13]
      apply hK; clear hK hP
      refine aw_if (l.length < m.length) (by simp only [go_sem, ↓reduceIte, e0_0, e0_1, e0_2, e0_11, e0_12, e0_13]) (fun h11 => ?_) (fun h11 => ?_)
      ·
        refine aw_sreg {} rfl rfl fun K KP hK hP => ?_
        simp only [go_sem, ↓reduceIte, e0_0, e0_1, e0_2, e0_11, e0_12, e0_13]
        apply hK; clear hK hP
        refine aw_ret ?_
        refine athen_ret.2 ?_
        simp only [go_sem, ↓reduceIte, e0_0, e0_1, e0_2, e0_11, e0_12, e0_13, athen_ret] <;> (
          have hi : i = l.length := by omega
          rw [hp0_2, hi, List.drop_length, List.drop_eq_getElem_cons (by omega)]
          rfl)
      ·
        refine aw_skip ?_
        refine athen_normal.2 ?_
        refine aw_sreg {} rfl rfl fun K KP hK hP => ?_
        simp only [go_sem, ↓reduceIte, e0_0, e0_1, e0_2, e0_11, e0_12, e0_13]
        apply hK; clear hK hP
        refine aw_ret ?_
        simp only [go_sem, ↓reduceIte, e0_0, e0_1, e0_2, e0_11, e0_12, e0_13, athen_ret] <;> (
          have hi : i = l.length := by omega
          have hm : m.length = l.length := by omega
          rw [hp0_2, hi, List.drop_length, ← hm, List.drop_length]
          rfl)
  ·
    refine ⟨_, 0, ?_, ?_, ?_, rfl, ?_, ?_, ?_, ?_, ?_, ?_, ?_⟩
    · first | omega | trivial | assumption
    · first | omega | trivial | assumption
    · first | omega | trivial | assumption
    · first | rfl | (simp only [go_sem, ↓reduceIte])
    · simp only [go_sem, ↓reduceIte] <;> try rfl
    · simp only [go_sem, ↓reduceIte] <;> try rfl
    · simp only [go_sem, ↓reduceIte] <;> try rfl
    · simp only [go_sem, ↓reduceIte] <;> try rfl
    · simp only [go_sem, ↓reduceIte] <;> try rfl
    · simp only [go_sem, ↓reduceIte] <;> try rfl

theorem compare_call : ∀ f : Fm, f.big ≤ 4611686018427387904 → ∀ g : Fm, PCall CX 23 [f.av, g.av] (· = .ret (.int .i64 (cmpF f g))) := Fm.ind fun k n t nl l ih hbig g => by
  obtain ⟨k', n', t', nl', l'⟩ := g
  have hlen := length_le_big l
  simp only [Fm.big] at hbig
  refine pcall_mk 0 39 [.tmp 4] Tryd.func23 rfl (by decide) rfl rfl rfl ?_
  simp only [go_sem]
  refine aw_sreg {} rfl rfl fun K KP hK hP => ?_
  simp only [go_sem, ↓reduceIte]
  apply hK; clear hK hP
  refine aw_seq ?_
  refine aw_sreg {} rfl rfl fun K KP hK hP => ?_
  simp only [go_sem, ↓reduceIte]
  apply hK; clear hK hP
  refine aw_if (¬ k = k') (by simp only [go_sem, ↓reduceIte]) (fun h1 => ?_) (fun h1 => ?_)
  ·
    refine aw_sreg {} rfl rfl fun K KP hK hP => ?_
    simp only [go_sem, ↓reduceIte]
    refine CallP.ret (cmpI_call _ _) (by simp only [go_sem]) ?_
    try simp only [go_sem, ↓reduceIte]
    apply hK; clear hK hP
    refine aw_ret ?_
    refine athen_ret.2 ?_
    simp only [go_sem, ↓reduceIte, athen_ret] <;> (
      simp_all [cmpF, Fm.k, Fm.n, Fm.t, Fm.l])
  ·
    refine aw_skip ?_
    refine athen_normal.2 ?_
    refine aw_seq ?_
    refine aw_sreg {} rfl rfl fun K KP hK hP => ?_
    simp only [go_sem, ↓reduceIte]
    apply hK; clear hK hP
    refine aw_block ?_
    refine aw_sreg {} rfl rfl fun K KP hK hP => ?_
    simp only [go_sem, ↓reduceIte]
    apply hK; clear hK hP
    refine aw_if (k = 0) (by simp only [go_sem, ↓reduceIte]) (fun h4 => ?_) (fun h4 => ?_)
    ·
      refine aw_sreg {} rfl rfl fun K KP hK hP => ?_
      simp only [go_sem, ↓reduceIte]
      refine CallP.ret (cmpI_call _ _) (by simp only [go_sem]) ?_
      try simp only [go_sem, ↓reduceIte]
      apply hK; clear hK hP
      refine aw_ret ?_
      refine ablock_ret.2 ?_
      refine athen_ret.2 ?_
      simp only [go_sem, ↓reduceIte, athen_ret] <;> (
        simp_all [cmpF, Fm.k, Fm.n, Fm.t, Fm.l])
    ·
      refine aw_seq ?_
      refine aw_sreg {} rfl rfl fun K KP hK hP => ?_
      simp only [go_sem, ↓reduceIte]
      apply hK; clear hK hP
      refine aw_if (k = 1) (by simp only [go_sem, ↓reduceIte]) (fun h6 => ?_) (fun h6 => ?_)
      ·
        refine aw_skip ?_
        refine athen_normal.2 ?_
        refine aw_if (True) (by simp only [go_sem, ↓reduceIte, h6]) (fun h6s => ?_) (fun h6s => ?_)
        ·
          refine aw_sreg {} rfl rfl fun K KP hK hP => ?_
          simp only [go_sem, ↓reduceIte]
          refine CallP.ret (cmpS_call _ _) (by simp only [go_sem]) ?_
          try simp only [go_sem, ↓reduceIte]
          apply hK; clear hK hP
          refine aw_ret ?_
          refine ablock_ret.2 ?_
          refine athen_ret.2 ?_
          simp only [go_sem, ↓reduceIte, athen_ret] <;> (
            simp_all [cmpF, Fm.k, Fm.n, Fm.t, Fm.l])
        ·
          exact absurd trivial h6s
      ·
        refine aw_lreg {} rfl rfl fun K KP hK hP => ?_
        simp only [go_sem, ↓reduceIte]
        apply hK; clear hK hP
        refine athen_normal.2 ?_
        refine aw_if (k = 2) (by simp only [go_sem, ↓reduceIte]) (fun h7 => ?_) (fun h7 => ?_)
        ·
          refine aw_sreg {} rfl rfl fun K KP hK hP => ?_
          simp only [go_sem, ↓reduceIte]
          refine CallP.ret (cmpS_call _ _) (by simp only [go_sem]) ?_
          try simp only [go_sem, ↓reduceIte]
          apply hK; clear hK hP
          refine aw_ret ?_
          refine ablock_ret.2 ?_
          refine athen_ret.2 ?_
          simp only [go_sem, ↓reduceIte, athen_ret] <;> (
            simp_all [cmpF, Fm.k, Fm.n, Fm.t, Fm.l])
        ·
          refine aw_sreg {} rfl rfl fun K KP hK hP => ?_
          simp only [go_sem, ↓reduceIte]
          apply hK; clear hK hP
          refine aw_if (k = 3) (by simp only [go_sem, ↓reduceIte]) (fun h9 => ?_) (fun h9 => ?_)
          ·
            refine aw_sreg {} rfl rfl fun K KP hK hP => ?_
            simp only [go_sem, ↓reduceIte]
            refine CallP.ret (compareFunc_call nl nl' l l' (by omega) (fun f hf g => ih f hf (by have := big_mem hf; omega) g)) (by simp only [go_sem]) ?_
            try simp only [go_sem, ↓reduceIte]
            apply hK; clear hK hP
            refine aw_ret ?_
            refine ablock_ret.2 ?_
            refine athen_ret.2 ?_
            simp only [go_sem, ↓reduceIte, athen_ret] <;> (
              simp_all [cmpF, Fm.k, Fm.n, Fm.t, Fm.l])
          ·
            refine aw_skip ?_
            refine ablock_normal.2 ?_
            refine athen_normal.2 ?_
            refine aw_sreg {} rfl rfl fun K KP hK hP => ?_
            simp only [go_sem, ↓reduceIte]
            apply hK; clear hK hP
            refine aw_ret ?_
            simp only [go_sem, ↓reduceIte, athen_ret] <;> (
              simp_all [cmpF, Fm.k, Fm.n, Fm.t, Fm.l])
theorem equal_call (f g : Fm) (hb : f.big ≤ 4611686018427387904) : PCall CX 25 [f.av, g.av] (· = .ret (.bool (decide (cmpF f g = 0)))) := by
  obtain ⟨k, n, t, nl, l⟩ := f
  obtain ⟨k', n', t', nl', l'⟩ := g
  have h := compare_call (.mk k n t nl l) hb (.mk k' n' t' nl' l')
  simp only [av_mk] at h
  refine pcall_mk 0 9 [.tmp 4] Tryd.func25 rfl (by decide) rfl rfl rfl ?_
  simp only [go_sem]
  refine aw_sreg {} rfl rfl fun K KP hK hP => ?_
  simp only [go_sem, ↓reduceIte]
  apply hK; clear hK hP
  refine aw_sreg {} rfl rfl fun K KP hK hP => ?_
  simp only [go_sem, ↓reduceIte]
  refine CallP.ret h (by simp only [go_sem]) ?_
  try simp only [go_sem, ↓reduceIte]
  apply hK; clear hK hP
  refine aw_ret ?_
  simp only [go_sem, ↓reduceIte, athen_ret]
end Go.Ab
