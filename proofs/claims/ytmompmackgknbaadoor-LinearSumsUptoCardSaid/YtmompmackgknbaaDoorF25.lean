/-
  THE ROWS of a literal, of both.
-/
import Derived.Test.YtmompmackgknbaaDoorF24
set_option linter.unusedVariables false
set_option linter.unusedSimpArgs false
set_option maxRecDepth 100000
namespace Go.Ab
open Go Go.RowKit Go.Proofs

@[go_sem] theorem RFLL_sums (l : List Sm) : RFLL (l.map Sm.cells) ↔ True := by
  simp only [iff_true]
  refine (RFLL_iff _).2 fun r hr => ?_
  obtain ⟨s, hs, rfl⟩ := List.mem_map.1 hr
  have := RFL_smcells s
  simpa using this
def litNot (f : Fm) : Bool := isF f notB 1
def litIn (f : Fm) : Fm := if litNot f = true then f.l.getD 1 f else f
def rowsOK (f : Fm) (nt : Bool) : Prop := f.l.length = 3 ∧ (f.head = leB ∨ f.head = ltB ∨ (f.head = eqB ∧ nt = false))
instance (f : Fm) (nt : Bool) : Decidable (rowsOK f nt) := by unfold rowsOK; infer_instance
def rowsE (f : Fm) : List Sm × Int := if validF f = true then (if rowsOK (litIn f) (litNot f) then (match rowsO (litIn f).head (litNot f) (ofS ((litIn f).l.getD 1 f)) (ofS ((litIn f).l.getD 2 f)) with | some rs => (rs, 0) | none => ([], 5)) else ([], 3)) else ([], 1)
def outRows (r : List Sm × Int) : AOut := .ret (.tup [if r.2 = 0 then .vec 2 (r.1.map Sm.cells) else .base (.slice none 0 0), .int .i64 r.2])
theorem rowsE_bad {f : Fm} (h : ¬ validF f = true) : outRows (rowsE f) = .ret (.tup [.base (.slice none 0 0), .int .i64 1]) := by simp [rowsE, h, outRows]
theorem rowsE_none {f : Fm} (h : validF f = true) (h2 : ¬ rowsOK (litIn f) (litNot f)) : outRows (rowsE f) = .ret (.tup [.base (.slice none 0 0), .int .i64 3]) := by simp [rowsE, h, h2, outRows]
theorem rowsE_range {f : Fm} (h : validF f = true) (h2 : rowsOK (litIn f) (litNot f)) {x0 x1 x2 : Fm} (hl : (litIn f).l = [x0, x1, x2]) (hr : rowsO (litIn f).head (litNot f) (ofS x1) (ofS x2) = none) : outRows (rowsE f) = .ret (.tup [.base (.slice none 0 0), .int .i64 5]) := by
  simp [rowsE, h, h2, hl, hr, outRows]
theorem rowsE_ok {f : Fm} (h : validF f = true) (h2 : rowsOK (litIn f) (litNot f)) {x0 x1 x2 : Fm} (hl : (litIn f).l = [x0, x1, x2]) {rs : List Sm} (hr : rowsO (litIn f).head (litNot f) (ofS x1) (ofS x2) = some rs) : outRows (rowsE f) = .ret (.tup [.vec 2 (rs.map Sm.cells), .int .i64 0]) := by
  simp [rowsE, h, h2, hl, hr, outRows]
theorem litIn_valid {f : Fm} (h : validF f = true) : ∀ g ∈ (litIn f).l, validF g = true := by
  obtain ⟨k, n, t, nl, l⟩ := f
  unfold litIn
  split
  · rename_i hn
    obtain ⟨x0, x1, rfl⟩ := isF_kid (h := notB) hn
    have h1 := validF_part h x1 (by simp)
    obtain ⟨k', n', t', nl', l'⟩ := x1
    exact validF_part h1
  · exact validF_part h
theorem Rows_call (f : Fm) (hb : f.big ≤ 4611686018427387904) : PCall CX 14 [f.av] (· = outRows (rowsE f)) := by
  have hln : isF f notB 1 = litNot f := rfl
  refine pcall_mk 1 45 [.tmp 2, .tmp 3] Tryd.func14 rfl (by decide) rfl rfl rfl ?_
  refine aw_sreg {} rfl rfl fun K KP hK hP => ?_
  simp only [go_sem, ↓reduceIte]
  apply hK; clear hK hP
  refine aw_seq ?_
  refine aw_sreg {} rfl rfl fun K KP hK hP => ?_
  simp only [go_sem, ↓reduceIte]
  refine CallP.ret (Valid_call f hb) (by simp only [go_sem]) ?_
  try simp only [go_sem, ↓reduceIte]
  apply hK; clear hK hP
  refine aw_if (¬ validF f = true) (by simp only [go_sem, ↓reduceIte, Nat.reduceEqDiff]; simp [validF]) (fun h1 => ?_) (fun h1 => ?_)
  ·
    refine aw_sreg {} rfl rfl fun K KP hK hP => ?_
    simp only [go_sem, ↓reduceIte]
    apply hK; clear hK hP
    refine aw_ret ?_
    refine athen_ret.2 ?_
    simp only [go_sem, ↓reduceIte, athen_ret] <;> (
      rw [rowsE_bad h1])
  ·
    have hv : validF f = true := Classical.not_not.1 h1
    have hlv := litIn_valid hv
    refine aw_skip ?_
    refine athen_normal.2 ?_
    refine aw_sdraw {} [] [0, 0, 2, 0, 0, 31, 63] mixed (by kernel_rfl) rfl (by simp only [allocObjs, go_sem]; rfl) fun K KP hK hP => ?_
    simp only [go_sem, ↓reduceIte]
    refine CallP.ret (is_call f notB 1 (by decide) (by decide)) (by simp only [go_sem]) ?_
    try simp only [go_sem, ↓reduceIte]
    apply hK; clear hK hP
    refine aw_mid (fun st => ∃ (g : Fm), (g = litIn f) ∧ [(0, .cells 24 g.cells), (1, .cells 4 [.bool (litNot f)])] = st.σ ∧ st.env 4 = .ref 0 0 0 ∧ st.env 5 = .ref 1 1 0) ?_ ?_
    ·
      refine aw_sreg {} rfl rfl fun K KP hK hP => ?_
      simp only [go_sem, ↓reduceIte]
      apply hK; clear hK hP
      refine aw_if (litNot f = true) (by simp only [go_sem, ↓reduceIte, hln]) (fun h4 => ?_) (fun h4 => ?_)
      ·
        obtain ⟨k, n, t, nl, l⟩ := f
        obtain ⟨x0, x1, rfl⟩ := isF_kid (h := notB) h4
        refine aw_lreg {} rfl rfl fun K KP hK hP => ?_
        simp only [go_sem, ↓reduceIte, cells_mk, List.map_cons, List.map_nil, List.getD_cons_succ, List.getD_cons_zero, av_mk]
        apply hK; clear hK hP
        refine athen_normal.2 ?_
        refine ⟨x1, ?_, rfl, ?_, ?_⟩
        · simp [litIn, h4, Fm.l]
        · simp only [go_sem, ↓reduceIte] <;> try rfl
        · simp only [go_sem, ↓reduceIte] <;> try rfl
      ·
        refine aw_skip ?_
        refine athen_normal.2 ?_
        refine ⟨f, ?_, rfl, ?_, ?_⟩
        · simp [litIn, h4]
        · simp only [go_sem, ↓reduceIte] <;> try rfl
        · simp only [go_sem, ↓reduceIte] <;> try rfl
    ·
      rintro ⟨envms4, σms4, nxms4⟩ ⟨g, hms4_0, hmss4, ms4_4, ms4_5⟩
      dsimp only at hmss4  ms4_4 ms4_5
      subst hmss4
      obtain ⟨k', n', t', nl', l'⟩ := g
      have hgl : l' = (litIn f).l := by rw [← hms4_0]; rfl
      have hgh : Fm.head (.mk k' n' t' nl' l') = (litIn f).head := by rw [← hms4_0]
      rw [← hgl] at hlv
      refine aw_sreg {} rfl (by simp only [allocObjs, go_sem]; rfl) fun K KP hK hP => ?_
      simp only [go_sem, ↓reduceIte, ms4_4, ms4_5]
      refine CallP.ret (head_call (.mk k' n' t' nl' l')).av (by simp only [go_sem]) ?_
      try simp only [go_sem, ↓reduceIte, ms4_4, ms4_5]
      apply hK; clear hK hP
      refine aw_seq ?_
      refine aw_sregB {} 22 39 40 (.bool (decide (¬ (l'.length = 3 ∧ (Fm.head (.mk k' n' t' nl' l') = leB ∨ Fm.head (.mk k' n' t' nl' l') = ltB ∨ (Fm.head (.mk k' n' t' nl' l') = eqB ∧ litNot f = false)))))) rfl rfl rfl (fun K KP hK hP => ?_) (fun junk7 => ?_)
      ·
        simp only [go_sem, ↓reduceIte, ms4_4, ms4_5, cells_mk]
        repeat' (first | (refine hK _ (by first | rfl | (simp only [go_sem, ↓reduceIte, ms4_4, ms4_5, cells_mk]; done) | (simp only [go_sem, ↓reduceIte, ms4_4, ms4_5, cells_mk, *]; done)) rfl ?_) | ((refine gsel_cases (fun h => ?_) (fun h => ?_) <;> (try simp only [Bool.not_eq_true', Bool.not_eq_false', Bool.not_not, decide_eq_true_eq, decide_eq_false_iff_not, ite_eq_left_iff, ite_eq_right_iff] at h)) <;> simp only [go_sem, ↓reduceIte, ms4_4, ms4_5, cells_mk, *]) | (simp only [go_sem, ↓reduceIte, ms4_4, ms4_5, cells_mk]))
        all_goals (
            try simp only [go_sem, ↓reduceIte, ms4_4, ms4_5, cells_mk]
            all_goals first | (simp_all [List.length_pos_iff]; done) | (simp_all; omega))
      ·
        refine aw_if (¬ (l'.length = 3 ∧ (Fm.head (.mk k' n' t' nl' l') = leB ∨ Fm.head (.mk k' n' t' nl' l') = ltB ∨ (Fm.head (.mk k' n' t' nl' l') = eqB ∧ litNot f = false)))) (by simp only [go_sem, ↓reduceIte, ms4_4, ms4_5]) (fun h7 => ?_) (fun h7 => ?_)
        ·
          refine aw_sreg {} rfl rfl fun K KP hK hP => ?_
          simp only [go_sem, ↓reduceIte, ms4_4, ms4_5]
          apply hK; clear hK hP
          refine aw_ret ?_
          refine athen_ret.2 ?_
          simp only [go_sem, ↓reduceIte, ms4_4, ms4_5, athen_ret] <;> (
            rw [rowsE_none hv (by unfold rowsOK; rw [← hgl, ← hgh]; exact h7)])
        ·
          have hok : rowsOK (litIn f) (litNot f) := by unfold rowsOK; rw [← hgl, ← hgh]; exact Classical.not_not.1 h7
          obtain ⟨x0, x1, x2, hl3⟩ := len_three hok.1
          rw [hl3] at hgl
          subst hgl
          have hr := fun c0 x n0 n1 n2 n3 nx => rows1_call k' n' t' nl' x0 x1 x2 (hlv x1 (by simp)) (hlv x2 (by simp)) (Fm.head (.mk k' n' t' nl' [x0, x1, x2])) (litNot f) c0 x n0 n1 n2 n3 nx
          refine aw_skip ?_
          refine athen_normal.2 ?_
          refine aw_sreg {} rfl (by simp only [allocObjs, go_sem]; rfl) fun K KP hK hP => ?_
          simp only [go_sem, ↓reduceIte, ms4_4, ms4_5]
          apply hK; clear hK hP
          by_cases c10_0 : rowsO (Fm.head (.mk k' n' t' nl' [x0, x1, x2])) (litNot f) (ofS x1) (ofS x2) = none
          ·
            simp only [cells_mk, List.map_cons, List.map_nil] at hr
            refine aw_sreg { ac := [42] } rfl rfl fun K KP hK hP => ?_
            simp only [go_sem, ↓reduceIte, ms4_4, ms4_5, c10_0, List.map_cons, List.map_nil, cells_mk]
            refine CallP.acallN (caught_pan (σ2 := [(0, .cells 24 [.int .i64 k', .int .i64 n', .str t', kidsA nl' [x0.cells, x1.cells, x2.cells]]), (1, .cells 4 [.bool (litNot f)]), (nxms4, .cells 9 [.str (Fm.head (.mk k' n' t' nl' [x0, x1, x2]))]), (nxms4 + 1, .cells 43 [.base (.slice none 0 0)])]) rfl fun x nx1 => by have h := hr (.base (.slice none 0 0)) x 0 1 nxms4 (nxms4 + 1) nx1; rw [c10_0] at h; exact h) (fun nx1 => ?_)
            try simp only [go_sem, ↓reduceIte, ms4_4, ms4_5, c10_0, List.map_cons, List.map_nil, cells_mk]
            apply hK; clear hK hP
            refine aw_seq ?_
            refine aw_sreg {} rfl rfl fun K KP hK hP => ?_
            simp only [go_sem, ↓reduceIte, ms4_4, ms4_5, c10_0]
            apply hK; clear hK hP
            refine aw_if (True) (by simp only [go_sem, ↓reduceIte, ms4_4, ms4_5, c10_0]) (fun h11 => ?_) (fun h11 => ?_)
            ·
              refine aw_sreg {} rfl rfl fun K KP hK hP => ?_
              simp only [go_sem, ↓reduceIte, ms4_4, ms4_5, c10_0]
              apply hK; clear hK hP
              refine aw_ret ?_
              refine athen_ret.2 ?_
              simp only [go_sem, ↓reduceIte, ms4_4, ms4_5, c10_0, athen_ret] <;> (
                rw [rowsE_range hv hok hl3 (by rw [← hgh]; exact c10_0)])
            ·
              exact absurd trivial h11
          ·
            simp only [cells_mk, List.map_cons, List.map_nil] at hr
            obtain ⟨rs, hrs⟩ := Option.ne_none_iff_exists'.1 c10_0
            refine aw_sreg { ac := [42] } rfl rfl fun K KP hK hP => ?_
            simp only [go_sem, ↓reduceIte, ms4_4, ms4_5, c10_0, List.map_cons, List.map_nil, cells_mk]
            refine CallP.acallN (caught_ret (σ2 := [(0, .cells 24 [.int .i64 k', .int .i64 n', .str t', kidsA nl' [x0.cells, x1.cells, x2.cells]]), (1, .cells 4 [.bool (litNot f)]), (nxms4, .cells 9 [.str (Fm.head (.mk k' n' t' nl' [x0, x1, x2]))]), (nxms4 + 1, .cells 43 [.vec 2 (rs.map Sm.cells)])]) rfl fun x nx1 => by have h := hr (.base (.slice none 0 0)) x 0 1 nxms4 (nxms4 + 1) nx1; rw [hrs] at h; exact h) (fun nx1 => ?_)
            try simp only [go_sem, ↓reduceIte, ms4_4, ms4_5, c10_0, List.map_cons, List.map_nil, cells_mk]
            apply hK; clear hK hP
            refine aw_seq ?_
            refine aw_sreg {} rfl rfl fun K KP hK hP => ?_
            simp only [go_sem, ↓reduceIte, ms4_4, ms4_5, c10_0]
            apply hK; clear hK hP
            refine aw_if (False) (by simp only [go_sem, ↓reduceIte, ms4_4, ms4_5, c10_0]) (fun h11 => ?_) (fun h11 => ?_)
            ·
              exact h11.elim
            ·
              refine aw_skip ?_
              refine athen_normal.2 ?_
              refine aw_sreg {} rfl rfl fun K KP hK hP => ?_
              simp only [go_sem, ↓reduceIte, ms4_4, ms4_5, c10_0]
              apply hK; clear hK hP
              refine aw_ret ?_
              simp only [go_sem, ↓reduceIte, ms4_4, ms4_5, c10_0, athen_ret] <;> (
                rw [rowsE_ok hv hok hl3 (by rw [← hgh]; exact hrs)])

/-! ### The reference's -/
theorem bump_eq {B : Nat} {s : Sm} (hg : GoodS (Atom B) s) (hn : s.nl = true) : bumpS s = if within (s.k + 1) = true then some ⟨s.k + 1, true, s.l⟩ else none := by
  obtain ⟨k, nl, l⟩ := s
  have h1 : timesS 1 1 = some 1 := by decide
  simp only [bumpS, plusS, oneS, h1, Option.bind_some]
  rw [mergeL_nil 1 l (fun p hp => (hg.1.ok p hp).1)]
  by_cases hw : within (k + 1) = true
  · rw [wholeS_in hw, if_pos hw]; rfl
  · have : wholeS (k + 1) = none := by
      have h := whole_isSome (k + 1)
      rw [show within (k + 1) = false by simpa using hw] at h
      simpa using h
    rw [this, if_neg hw]; rfl
structure Hid (p : Prop) : Prop where
  h : p
theorem leB_lt : (leB = [60]) = False := by decide
theorem eqB_lt : (eqB = [60]) = False := by decide
theorem eqB_le : (eqB = [60, 61]) = False := by decide
theorem refRows_call (f : Fm) (hb : f.big ≤ 4611686018427387904) : PCall CX 15 [f.av] (· = outRows (rowsE f)) := by
  obtain ⟨k, n, t, nl, l⟩ := f
  have hln := isF_iff (k := k) (n := n) (t := t) (nl := nl) (l := l) (h := notB) (c := 1) (by decide)
  refine pcall_mk 2 138 [.tmp 2, .tmp 3] Tryd.func15 rfl (by decide) rfl rfl rfl ?_
  simp only [go_sem]
  refine aw_sreg {} rfl rfl fun K KP hK hP => ?_
  simp only [go_sem, ↓reduceIte, List.map_cons, List.map_nil, List.getD_cons_zero, List.getD_cons_succ]
  apply hK; clear hK hP
  refine aw_seq ?_
  refine aw_sreg {} rfl rfl fun K KP hK hP => ?_
  simp only [go_sem, ↓reduceIte, List.map_cons, List.map_nil, List.getD_cons_zero, List.getD_cons_succ]
  refine CallP.ret (refValid_call (.mk k n t nl l) hb).av (by simp only [go_sem]) ?_
  try simp only [go_sem, ↓reduceIte, List.map_cons, List.map_nil, List.getD_cons_zero, List.getD_cons_succ]
  apply hK; clear hK hP
  refine aw_if (¬ validF (.mk k n t nl l) = true) (by simp only [go_sem, ↓reduceIte, List.map_cons, List.map_nil, List.getD_cons_zero, List.getD_cons_succ]) (fun h1 => ?_) (fun h1 => ?_)
  ·
    refine aw_sreg {} rfl rfl fun K KP hK hP => ?_
    simp only [go_sem, ↓reduceIte, List.map_cons, List.map_nil, List.getD_cons_zero, List.getD_cons_succ]
    apply hK; clear hK hP
    refine aw_ret ?_
    refine athen_ret.2 ?_
    simp only [go_sem, ↓reduceIte, List.map_cons, List.map_nil, List.getD_cons_zero, List.getD_cons_succ, athen_ret] <;> (
      rw [rowsE_bad h1])
  ·
    have hv : validF (.mk k n t nl l) = true := Classical.not_not.1 h1
    have hlv := litIn_valid hv
    refine aw_skip ?_
    refine athen_normal.2 ?_
    refine aw_sreg {} rfl (by simp only [allocObjs, go_sem]; rfl) fun K KP hK hP => ?_
    simp only [go_sem, ↓reduceIte, List.map_cons, List.map_nil, List.getD_cons_zero, List.getD_cons_succ]
    apply hK; clear hK hP
    refine aw_sreg {} rfl rfl fun K KP hK hP => ?_
    simp only [go_sem, ↓reduceIte, List.map_cons, List.map_nil, List.getD_cons_zero, List.getD_cons_succ]
    apply hK; clear hK hP
    refine aw_mid (fun st => ∃ (g : Fm) (gc : List AV), (g = litIn (.mk k n t nl l)) ∧ (gc = g.cells) ∧ [(0, .cells 24 gc)] = st.σ ∧ st.env 4 = .ref 0 0 0 ∧ st.env 5 = .bool (litNot (.mk k n t nl l))) ?_ ?_
    ·
      refine aw_sregB {} 18 25 26 (.bool (litNot (.mk k n t nl l))) rfl rfl rfl (fun K KP hK hP => ?_) (fun junk5 => ?_)
      ·
        by_cases c5_0 : ¬ Fm.head (.mk k n t nl l) = notB
        ·
          simp only [go_sem, ↓reduceIte, List.map_cons, List.map_nil, List.getD_cons_zero, List.getD_cons_succ, c5_0]
          refine CallP.ret (refHead_call (.mk k n t nl l)).av (by simp only [go_sem]) ?_
          try simp only [go_sem, ↓reduceIte, List.map_cons, List.map_nil, List.getD_cons_zero, List.getD_cons_succ, c5_0]
          refine hK _ (by first | rfl | (simp only [go_sem, ↓reduceIte, List.map_cons, List.map_nil, List.getD_cons_zero, List.getD_cons_succ, c5_0])) rfl ?_
          have : litNot (.mk k n t nl l) = false := by
            cases h : litNot (.mk k n t nl l)
            · rfl
            · exact absurd (hln.1 h).1 c5_0
          simp only [go_sem, ↓reduceIte, Nat.reduceEqDiff, this]
        ·
          replace c5_0 := Classical.not_not.1 c5_0
          simp only [go_sem, ↓reduceIte, List.map_cons, List.map_nil, List.getD_cons_zero, List.getD_cons_succ, c5_0]
          refine CallP.ret (refHead_call (.mk k n t nl l)).av (by simp only [go_sem]) ?_
          try simp only [go_sem, ↓reduceIte, List.map_cons, List.map_nil, List.getD_cons_zero, List.getD_cons_succ, c5_0]
          refine hK _ (by first | rfl | (simp only [go_sem, ↓reduceIte, List.map_cons, List.map_nil, List.getD_cons_zero, List.getD_cons_succ, c5_0])) rfl ?_
          simp only [go_sem, ↓reduceIte, Nat.reduceEqDiff, AV.bool.injEq]; rw [Bool.eq_iff_iff, show (litNot (.mk k n t nl l) = true) = _ from propext hln]; simp [c5_0]; omega
      ·
        refine aw_if (litNot (.mk k n t nl l) = true) (by simp only [go_sem, ↓reduceIte, List.map_cons, List.map_nil, List.getD_cons_zero, List.getD_cons_succ]) (fun h5 => ?_) (fun h5 => ?_)
        ·
          obtain ⟨x0, x1, rfl⟩ := isF_kid (h := notB) h5
          refine aw_sreg {} rfl rfl fun K KP hK hP => ?_
          simp only [go_sem, ↓reduceIte, List.map_cons, List.map_nil, List.getD_cons_zero, List.getD_cons_succ]
          apply hK; clear hK hP
          refine aw_lreg {} rfl rfl fun K KP hK hP => ?_
          simp only [go_sem, ↓reduceIte, List.map_cons, List.map_nil, List.getD_cons_zero, List.getD_cons_succ]
          apply hK; clear hK hP
          refine athen_normal.2 ?_
          refine ⟨x1, _, ?_, ?_, rfl, ?_, ?_⟩
          · simp [litIn, h5, Fm.l]
          · rfl
          · simp only [go_sem, ↓reduceIte, List.map_cons, List.map_nil, List.getD_cons_zero, List.getD_cons_succ] <;> try rfl
          · simp only [go_sem, ↓reduceIte, List.map_cons, List.map_nil, List.getD_cons_zero, List.getD_cons_succ] <;> (
              rw [h5])
        ·
          refine aw_skip ?_
          refine athen_normal.2 ?_
          refine ⟨.mk k n t nl l, _, ?_, ?_, rfl, ?_, ?_⟩
          · simp [litIn, h5]
          · rw [cells_mk]
          · simp only [go_sem, ↓reduceIte, List.map_cons, List.map_nil, List.getD_cons_zero, List.getD_cons_succ] <;> try rfl
          · simp only [go_sem, ↓reduceIte, List.map_cons, List.map_nil, List.getD_cons_zero, List.getD_cons_succ] <;> (
              simp [h5])
    ·
      rintro ⟨envms5, σms5, nxms5⟩ ⟨g, gc, hms5_0, hms5_1, hmss5, ms5_4, ms5_5⟩
      dsimp only at hmss5  ms5_4 ms5_5
      subst hmss5
      subst hms5_1
      obtain ⟨k', n', t', nl', l'⟩ := g
      have hgl : l' = (litIn (.mk k n t nl l)).l := by rw [← hms5_0]; rfl
      have hgh : Fm.head (.mk k' n' t' nl' l') = (litIn (.mk k n t nl l)).head := by rw [← hms5_0]
      rw [← hgl] at hlv
      replace hgl := Hid.mk hgl
      replace hgh := Hid.mk hgh
      clear hms5_0
      clear hln
      generalize (Fm.mk k n t nl l) = F at *
      refine aw_sreg {} rfl rfl fun K KP hK hP => ?_
      simp only [go_sem, ↓reduceIte, List.map_cons, List.map_nil, List.getD_cons_zero, List.getD_cons_succ, ms5_4, ms5_5]
      refine CallP.ret (refHead_call (.mk k' n' t' nl' l')).av (by simp only [go_sem]) ?_
      try simp only [go_sem, ↓reduceIte, List.map_cons, List.map_nil, List.getD_cons_zero, List.getD_cons_succ, ms5_4, ms5_5]
      apply hK; clear hK hP
      refine aw_seq ?_
      refine aw_sregB {} 33 50 51 (.bool (decide (¬ (l'.length = 3 ∧ (Fm.head (.mk k' n' t' nl' l') = leB ∨ Fm.head (.mk k' n' t' nl' l') = ltB ∨ (Fm.head (.mk k' n' t' nl' l') = eqB ∧ litNot F = false)))))) rfl rfl rfl (fun K KP hK hP => ?_) (fun junk9 => ?_)
      ·
        by_cases c9_0 : ¬ (l'.length : Int) = 3
        ·
          simp only [go_sem, ↓reduceIte, List.map_cons, List.map_nil, List.getD_cons_zero, List.getD_cons_succ, ms5_4, ms5_5, c9_0, cells_mk, leB_lt, eqB_lt, eqB_le]
          refine hK _ (by first | rfl | (simp only [go_sem, ↓reduceIte, List.map_cons, List.map_nil, List.getD_cons_zero, List.getD_cons_succ, ms5_4, ms5_5, c9_0, cells_mk, leB_lt, eqB_lt, eqB_le])) rfl ?_
          have hc : ((l'.length : Int) = 3) = (l'.length = 3) := propext ⟨fun h => by omega, fun h => by omega⟩
          rw [hc] at c9_0
          simp_all only [go_sem, ↓reduceIte, Nat.reduceEqDiff]
          try simp_all
        ·
          replace c9_0 := Classical.not_not.1 c9_0
          by_cases c9_1 : Fm.head (.mk k' n' t' nl' l') = ltB
          ·
            simp only [go_sem, ↓reduceIte, List.map_cons, List.map_nil, List.getD_cons_zero, List.getD_cons_succ, ms5_4, ms5_5, c9_0, c9_1, cells_mk, leB_lt, eqB_lt, eqB_le]
            refine hK _ (by first | rfl | (simp only [go_sem, ↓reduceIte, List.map_cons, List.map_nil, List.getD_cons_zero, List.getD_cons_succ, ms5_4, ms5_5, c9_0, c9_1, cells_mk, leB_lt, eqB_lt, eqB_le])) rfl ?_
            have hc : ((l'.length : Int) = 3) = (l'.length = 3) := propext ⟨fun h => by omega, fun h => by omega⟩
            rw [hc] at c9_0
            simp_all only [go_sem, ↓reduceIte, Nat.reduceEqDiff]
            try simp_all
          ·
            by_cases c9_2 : Fm.head (.mk k' n' t' nl' l') = leB
            ·
              simp only [go_sem, ↓reduceIte, List.map_cons, List.map_nil, List.getD_cons_zero, List.getD_cons_succ, ms5_4, ms5_5, c9_0, c9_1, c9_2, cells_mk, leB_lt, eqB_lt, eqB_le]
              refine hK _ (by first | rfl | (simp only [go_sem, ↓reduceIte, List.map_cons, List.map_nil, List.getD_cons_zero, List.getD_cons_succ, ms5_4, ms5_5, c9_0, c9_1, c9_2, cells_mk, leB_lt, eqB_lt, eqB_le])) rfl ?_
              have hc : ((l'.length : Int) = 3) = (l'.length = 3) := propext ⟨fun h => by omega, fun h => by omega⟩
              rw [hc] at c9_0
              simp_all only [go_sem, ↓reduceIte, Nat.reduceEqDiff]
              try simp_all
            ·
              by_cases c9_3 : ¬ Fm.head (.mk k' n' t' nl' l') = eqB
              ·
                simp only [go_sem, ↓reduceIte, List.map_cons, List.map_nil, List.getD_cons_zero, List.getD_cons_succ, ms5_4, ms5_5, c9_0, c9_1, c9_2, c9_3, cells_mk, leB_lt, eqB_lt, eqB_le]
                refine hK _ (by first | rfl | (simp only [go_sem, ↓reduceIte, List.map_cons, List.map_nil, List.getD_cons_zero, List.getD_cons_succ, ms5_4, ms5_5, c9_0, c9_1, c9_2, c9_3, cells_mk, leB_lt, eqB_lt, eqB_le])) rfl ?_
                have hc : ((l'.length : Int) = 3) = (l'.length = 3) := propext ⟨fun h => by omega, fun h => by omega⟩
                rw [hc] at c9_0
                simp_all only [go_sem, ↓reduceIte, Nat.reduceEqDiff]
                try simp_all
              ·
                replace c9_3 := Classical.not_not.1 c9_3
                simp only [go_sem, ↓reduceIte, List.map_cons, List.map_nil, List.getD_cons_zero, List.getD_cons_succ, ms5_4, ms5_5, c9_0, c9_1, c9_2, c9_3, cells_mk, leB_lt, eqB_lt, eqB_le]
                refine hK _ (by first | rfl | (simp only [go_sem, ↓reduceIte, List.map_cons, List.map_nil, List.getD_cons_zero, List.getD_cons_succ, ms5_4, ms5_5, c9_0, c9_1, c9_2, c9_3, cells_mk, leB_lt, eqB_lt, eqB_le])) rfl ?_
                have hc : ((l'.length : Int) = 3) = (l'.length = 3) := propext ⟨fun h => by omega, fun h => by omega⟩
                rw [hc] at c9_0
                simp_all only [go_sem, ↓reduceIte, Nat.reduceEqDiff]
                try simp_all
      ·
        refine aw_if (¬ (l'.length = 3 ∧ (Fm.head (.mk k' n' t' nl' l') = leB ∨ Fm.head (.mk k' n' t' nl' l') = ltB ∨ (Fm.head (.mk k' n' t' nl' l') = eqB ∧ litNot F = false)))) (by simp only [go_sem, ↓reduceIte, List.map_cons, List.map_nil, List.getD_cons_zero, List.getD_cons_succ, ms5_4, ms5_5]) (fun h9 => ?_) (fun h9 => ?_)
        ·
          refine aw_sreg {} rfl rfl fun K KP hK hP => ?_
          simp only [go_sem, ↓reduceIte, List.map_cons, List.map_nil, List.getD_cons_zero, List.getD_cons_succ, ms5_4, ms5_5]
          apply hK; clear hK hP
          refine aw_ret ?_
          refine athen_ret.2 ?_
          simp only [go_sem, ↓reduceIte, List.map_cons, List.map_nil, List.getD_cons_zero, List.getD_cons_succ, ms5_4, ms5_5, athen_ret] <;> (
            rw [rowsE_none hv (by unfold rowsOK; rw [← hgl.h, ← hgh.h]; exact h9)])
        ·
          have hok : rowsOK (litIn F) (litNot F) := by unfold rowsOK; rw [← hgl.h, ← hgh.h]; exact Classical.not_not.1 h9
          have hgl := hgl.h
          have hgh := hgh.h
          obtain ⟨x0, x1, x2, hl3⟩ := len_three hok.1
          rw [hl3] at hgl
          subst hgl
          have hv1 := hlv x1 (by simp)
          have hv2 := hlv x2 (by simp)
          have hb1 := validF_big hv1
          have hb2 := validF_big hv2
          have ih1 := refOf_call x1 hv1 (by omega)
          have ih2 := refOf_call x2 hv2 (by omega)
          have hnone : (ofS x1 = none ∨ ofS x2 = none) → rowsO (litIn F).head (litNot F) (ofS x1) (ofS x2) = none := by
            intro h
            rcases h with h | h <;> rw [h]
            · rfl
            · cases ofS x1 <;> rfl
          refine aw_skip ?_
          refine athen_normal.2 ?_
          refine aw_sreg {} rfl (by simp only [allocObjs, go_sem]; rfl) fun K KP hK hP => ?_
          simp only [go_sem, ↓reduceIte, List.map_cons, List.map_nil, List.getD_cons_zero, List.getD_cons_succ, ms5_4, ms5_5, cells_mk]
          refine CallP.ofR ih1 (by simp only [go_sem]) fun s1 hs1 => ?_
          try simp only [go_sem, ↓reduceIte, List.map_cons, List.map_nil, List.getD_cons_zero, List.getD_cons_succ, ms5_4, ms5_5, cells_mk]
          apply hK; clear hK hP
          refine aw_sreg {} rfl (by simp only [allocObjs, go_sem]; rfl) fun K KP hK hP => ?_
          simp only [go_sem, ↓reduceIte, List.map_cons, List.map_nil, List.getD_cons_zero, List.getD_cons_succ, ms5_4, ms5_5, cells_mk]
          refine CallP.ofR ih2 (by simp only [go_sem]) fun s2 hs2 => ?_
          try simp only [go_sem, ↓reduceIte, List.map_cons, List.map_nil, List.getD_cons_zero, List.getD_cons_succ, ms5_4, ms5_5, cells_mk]
          apply hK; clear hK hP
          refine aw_seq ?_
          refine aw_sregB {} 68 72 73 (.bool (decide (ofS x1 = none ∨ ofS x2 = none))) rfl rfl rfl (fun K KP hK hP => ?_) (fun junk13 => ?_)
          ·
            by_cases c13_0 : ofS x1 = none
            ·
              simp only [go_sem, ↓reduceIte, List.map_cons, List.map_nil, List.getD_cons_zero, List.getD_cons_succ, ms5_4, ms5_5, c13_0, Option.isSome_none]
              refine hK _ (by first | rfl | (simp only [go_sem, ↓reduceIte, List.map_cons, List.map_nil, List.getD_cons_zero, List.getD_cons_succ, ms5_4, ms5_5, c13_0, Option.isSome_none])) rfl ?_
              simp only [go_sem, ↓reduceIte, Nat.reduceEqDiff]
              cases ofS x2 <;> simp [c13_0]
            ·
              simp only [go_sem, ↓reduceIte, List.map_cons, List.map_nil, List.getD_cons_zero, List.getD_cons_succ, ms5_4, ms5_5, c13_0, show (ofS x1).isSome = true from Option.isSome_iff_ne_none.2 c13_0]
              refine hK _ (by first | rfl | (simp only [go_sem, ↓reduceIte, List.map_cons, List.map_nil, List.getD_cons_zero, List.getD_cons_succ, ms5_4, ms5_5, c13_0, show (ofS x1).isSome = true from Option.isSome_iff_ne_none.2 c13_0])) rfl ?_
              simp only [go_sem, ↓reduceIte, Nat.reduceEqDiff]
              cases ofS x2 <;> simp [c13_0]
          ·
            refine aw_if (ofS x1 = none ∨ ofS x2 = none) (by simp only [go_sem, ↓reduceIte, List.map_cons, List.map_nil, List.getD_cons_zero, List.getD_cons_succ, ms5_4, ms5_5]) (fun h13 => ?_) (fun h13 => ?_)
            ·
              refine aw_sreg {} rfl rfl fun K KP hK hP => ?_
              simp only [go_sem, ↓reduceIte, List.map_cons, List.map_nil, List.getD_cons_zero, List.getD_cons_succ, ms5_4, ms5_5]
              apply hK; clear hK hP
              refine aw_ret ?_
              refine athen_ret.2 ?_
              simp only [go_sem, ↓reduceIte, List.map_cons, List.map_nil, List.getD_cons_zero, List.getD_cons_succ, ms5_4, ms5_5, athen_ret] <;> (
                rw [rowsE_range hv hok hl3 (hnone h13)])
            ·
              obtain ⟨a, ha⟩ := Option.ne_none_iff_exists'.1 (fun h => h13 (.inl h))
              obtain ⟨b, hb'⟩ := Option.ne_none_iff_exists'.1 (fun h => h13 (.inr h))
              have hsa := hs1 a ha
              have hsb := hs2 b hb'
              subst hsa; subst hsb
              have ga := ofS_good x1 hv1 _ ha
              have gb := ofS_good x2 hv2 _ hb'
              have ga1 : GoodS (Atom 40020000) s1 := ga.1.mono fun f hf => hf.mono (by omega)
              have gb1 : GoodS (Atom 40020000) s2 := gb.1.mono fun f hf => hf.mono (by omega)
              have fa := fit_good ga1 (by decide) (by omega)
              have fb := fit_good gb1 (by decide) (by omega)
              have hro : rowsO (litIn F).head (litNot F) (ofS x1) (ofS x2) = (plusS s1 s2 (-1)).bind fun low => (plusS s2 s1 (-1)).bind fun high => if (litIn F).head = eqB then some [low, high] else if (litIn F).head = leB then (if litNot F = false then some [low] else (bumpS high).map ([·])) else if litNot F = false then (bumpS low).map ([·]) else some [high] := by rw [ha, hb']; rfl
              refine aw_skip ?_
              refine athen_normal.2 ?_
              refine aw_sreg {} rfl (by simp only [allocObjs, go_sem]; rfl) fun K KP hK hP => ?_
              simp only [go_sem, ↓reduceIte, List.map_cons, List.map_nil, List.getD_cons_zero, List.getD_cons_succ, ms5_4, ms5_5]
              refine CallP.ofR (x := plusS s1 s2 (-1)) (refSum_call s1 s2 (-1) fa fb (by decide) (by decide)) (by simp only [go_sem]) fun s3 hs3 => ?_
              try simp only [go_sem, ↓reduceIte, List.map_cons, List.map_nil, List.getD_cons_zero, List.getD_cons_succ, ms5_4, ms5_5]
              apply hK; clear hK hP
              refine aw_sreg {} rfl (by simp only [allocObjs, go_sem]; rfl) fun K KP hK hP => ?_
              simp only [go_sem, ↓reduceIte, List.map_cons, List.map_nil, List.getD_cons_zero, List.getD_cons_succ, ms5_4, ms5_5]
              refine CallP.ofR (x := plusS s2 s1 (-1)) (refSum_call s2 s1 (-1) fb fa (by decide) (by decide)) (by simp only [go_sem]) fun s4 hs4 => ?_
              try simp only [go_sem, ↓reduceIte, List.map_cons, List.map_nil, List.getD_cons_zero, List.getD_cons_succ, ms5_4, ms5_5]
              apply hK; clear hK hP
              refine aw_seq ?_
              refine aw_sregB {} 86 90 91 (.bool (decide (plusS s1 s2 (-1) = none ∨ plusS s2 s1 (-1) = none))) rfl rfl rfl (fun K KP hK hP => ?_) (fun junk17 => ?_)
              ·
                by_cases c17_0 : plusS s1 s2 (-1) = none
                ·
                  simp only [go_sem, ↓reduceIte, List.map_cons, List.map_nil, List.getD_cons_zero, List.getD_cons_succ, ms5_4, ms5_5, c17_0, Option.isSome_none]
                  refine hK _ (by first | rfl | (simp only [go_sem, ↓reduceIte, List.map_cons, List.map_nil, List.getD_cons_zero, List.getD_cons_succ, ms5_4, ms5_5, c17_0, Option.isSome_none])) rfl ?_
                  simp only [go_sem, ↓reduceIte, Nat.reduceEqDiff]
                  cases plusS s2 s1 (-1) <;> simp [c17_0]
                ·
                  simp only [go_sem, ↓reduceIte, List.map_cons, List.map_nil, List.getD_cons_zero, List.getD_cons_succ, ms5_4, ms5_5, c17_0, show (plusS s1 s2 (-1)).isSome = true from Option.isSome_iff_ne_none.2 c17_0]
                  refine hK _ (by first | rfl | (simp only [go_sem, ↓reduceIte, List.map_cons, List.map_nil, List.getD_cons_zero, List.getD_cons_succ, ms5_4, ms5_5, c17_0, show (plusS s1 s2 (-1)).isSome = true from Option.isSome_iff_ne_none.2 c17_0])) rfl ?_
                  simp only [go_sem, ↓reduceIte, Nat.reduceEqDiff]
                  cases plusS s2 s1 (-1) <;> simp [c17_0]
              ·
                refine aw_if (plusS s1 s2 (-1) = none ∨ plusS s2 s1 (-1) = none) (by simp only [go_sem, ↓reduceIte, List.map_cons, List.map_nil, List.getD_cons_zero, List.getD_cons_succ, ms5_4, ms5_5]) (fun h17 => ?_) (fun h17 => ?_)
                ·
                  refine aw_sreg {} rfl rfl fun K KP hK hP => ?_
                  simp only [go_sem, ↓reduceIte, List.map_cons, List.map_nil, List.getD_cons_zero, List.getD_cons_succ, ms5_4, ms5_5]
                  apply hK; clear hK hP
                  refine aw_ret ?_
                  refine athen_ret.2 ?_
                  simp only [go_sem, ↓reduceIte, List.map_cons, List.map_nil, List.getD_cons_zero, List.getD_cons_succ, ms5_4, ms5_5, athen_ret] <;> (
                    rw [rowsE_range hv hok hl3 (by rw [hro]; rcases h17 with h | h <;> rw [h]; rfl; cases plusS s1 s2 (-1) <;> rfl)])
                ·
                  obtain ⟨lo, hlo⟩ := Option.ne_none_iff_exists'.1 (fun h => h17 (.inl h))
                  obtain ⟨hi, hhi⟩ := Option.ne_none_iff_exists'.1 (fun h => h17 (.inr h))
                  have hs3' := hs3 lo hlo
                  have hs4' := hs4 hi hhi
                  subst hs3'; subst hs4'
                  obtain ⟨glow, nlow, -⟩ := plusS_good hlo ga1 gb1
                  obtain ⟨ghigh, nhigh, -⟩ := plusS_good hhi gb1 ga1
                  simp only [hlo, hhi, Option.bind_some, bump_eq glow nlow, bump_eq ghigh nhigh] at hro
                  have wlow := glow.2
                  have whigh := ghigh.2
                  have klow := (within_iff _).1 wlow
                  have khigh := (within_iff _).1 whigh
                  obtain ⟨lk, ln, ll⟩ := s3
                  obtain ⟨hk, hn, hl⟩ := s4
                  simp only at nlow nhigh klow khigh wlow whigh hro
                  subst nlow; subst nhigh
                  have wl1 : IntKind.wrap .i64 (lk + 1) = lk + 1 := wrap64 (by omega) (by omega)
                  have wh1 : IntKind.wrap .i64 (hk + 1) = hk + 1 := wrap64 (by omega) (by omega)
                  refine aw_skip ?_
                  refine athen_normal.2 ?_
                  refine aw_sreg {} rfl rfl fun K KP hK hP => ?_
                  simp only [go_sem, ↓reduceIte, List.map_cons, List.map_nil, List.getD_cons_zero, List.getD_cons_succ, ms5_4, ms5_5]
                  apply hK; clear hK hP
                  refine aw_mid (fun st => ∃ (rk : Int) (rn : Bool) (rl : List Pt) (rs : List Sm) (σb : Sto), (rowsO (litIn F).head (litNot F) (ofS x1) (ofS x2) = if within rk = true then some ((⟨rk, rn, rl⟩ : Sm) :: rs) else none) ∧ σb = st.σ ∧ st.env 13 = .vec 2 (((⟨rk, rn, rl⟩ : Sm) :: rs).map Sm.cells)) ?_ ?_
                  ·
                    refine aw_block ?_
                    refine aw_sreg {} rfl rfl fun K KP hK hP => ?_
                    simp only [go_sem, ↓reduceIte, List.map_cons, List.map_nil, List.getD_cons_zero, List.getD_cons_succ, ms5_4, ms5_5]
                    apply hK; clear hK hP
                    refine aw_if (Fm.head (.mk k' n' t' nl' [x0, x1, x2]) = eqB) (by simp only [go_sem, ↓reduceIte, List.map_cons, List.map_nil, List.getD_cons_zero, List.getD_cons_succ, ms5_4, ms5_5]) (fun h21 => ?_) (fun h21 => ?_)
                    ·
                      refine aw_lreg {} rfl rfl fun K KP hK hP => ?_
                      simp only [go_sem, ↓reduceIte, List.map_cons, List.map_nil, List.getD_cons_zero, List.getD_cons_succ, ms5_4, ms5_5, List.replicate_succ]
                      apply hK; clear hK hP
                      refine ablock_normal.2 ?_
                      refine athen_normal.2 ?_
                      refine ⟨lk, true, ll, [⟨hk, true, hl⟩], _, ?_, rfl, ?_⟩
                      · rw [hro, if_pos (by rw [← hgh]; exact h21), if_pos wlow]
                      · simp only [go_sem, ↓reduceIte, List.map_cons, List.map_nil, List.getD_cons_zero, List.getD_cons_succ, ms5_4, ms5_5] <;> try rfl
                    ·
                      refine aw_sregB {} 101 106 100 (.bool (decide (Fm.head (.mk k' n' t' nl' [x0, x1, x2]) = leB ∧ litNot F = false))) rfl rfl rfl (fun K KP hK hP => ?_) (fun junk23 => ?_)
                      ·
                        simp only [go_sem, ↓reduceIte, List.map_cons, List.map_nil, List.getD_cons_zero, List.getD_cons_succ, ms5_4, ms5_5]
                        repeat' (first | (refine hK _ (by first | rfl | (simp only [go_sem, ↓reduceIte, List.map_cons, List.map_nil, List.getD_cons_zero, List.getD_cons_succ, ms5_4, ms5_5]; done) | (simp only [go_sem, ↓reduceIte, List.map_cons, List.map_nil, List.getD_cons_zero, List.getD_cons_succ, ms5_4, ms5_5, *]; done)) rfl ?_) | ((refine gsel_cases (fun h => ?_) (fun h => ?_) <;> (try simp only [Bool.not_eq_true', Bool.not_eq_false', Bool.not_not, decide_eq_true_eq, decide_eq_false_iff_not, ite_eq_left_iff, ite_eq_right_iff] at h)) <;> simp only [go_sem, ↓reduceIte, List.map_cons, List.map_nil, List.getD_cons_zero, List.getD_cons_succ, ms5_4, ms5_5, *]) | (simp only [go_sem, ↓reduceIte, List.map_cons, List.map_nil, List.getD_cons_zero, List.getD_cons_succ, ms5_4, ms5_5]))
                        all_goals (
                            try simp only [go_sem, ↓reduceIte, List.map_cons, List.map_nil, List.getD_cons_zero, List.getD_cons_succ, ms5_4, ms5_5]
                            all_goals first | (simp_all [List.length_pos_iff]; done) | (simp_all; omega))
                      ·
                        refine aw_if (Fm.head (.mk k' n' t' nl' [x0, x1, x2]) = leB ∧ litNot F = false) (by simp only [go_sem, ↓reduceIte, List.map_cons, List.map_nil, List.getD_cons_zero, List.getD_cons_succ, ms5_4, ms5_5]) (fun h23 => ?_) (fun h23 => ?_)
                        ·
                          refine aw_lreg {} rfl rfl fun K KP hK hP => ?_
                          simp only [go_sem, ↓reduceIte, List.map_cons, List.map_nil, List.getD_cons_zero, List.getD_cons_succ, ms5_4, ms5_5, List.replicate_succ]
                          apply hK; clear hK hP
                          refine ablock_normal.2 ?_
                          refine athen_normal.2 ?_
                          refine ⟨lk, true, ll, [], _, ?_, rfl, ?_⟩
                          · rw [hro, if_neg (by rw [← hgh]; exact h21), if_pos (by rw [← hgh]; exact h23.1), if_pos h23.2, if_pos wlow]
                          · simp only [go_sem, ↓reduceIte, List.map_cons, List.map_nil, List.getD_cons_zero, List.getD_cons_succ, ms5_4, ms5_5] <;> try rfl
                        ·
                          refine aw_sregB {} 110 115 109 (.bool (decide (Fm.head (.mk k' n' t' nl' [x0, x1, x2]) = ltB ∧ litNot F = false))) rfl rfl rfl (fun K KP hK hP => ?_) (fun junk25 => ?_)
                          ·
                            simp only [go_sem, ↓reduceIte, List.map_cons, List.map_nil, List.getD_cons_zero, List.getD_cons_succ, ms5_4, ms5_5]
                            repeat' (first | (refine hK _ (by first | rfl | (simp only [go_sem, ↓reduceIte, List.map_cons, List.map_nil, List.getD_cons_zero, List.getD_cons_succ, ms5_4, ms5_5]; done) | (simp only [go_sem, ↓reduceIte, List.map_cons, List.map_nil, List.getD_cons_zero, List.getD_cons_succ, ms5_4, ms5_5, *]; done)) rfl ?_) | ((refine gsel_cases (fun h => ?_) (fun h => ?_) <;> (try simp only [Bool.not_eq_true', Bool.not_eq_false', Bool.not_not, decide_eq_true_eq, decide_eq_false_iff_not, ite_eq_left_iff, ite_eq_right_iff] at h)) <;> simp only [go_sem, ↓reduceIte, List.map_cons, List.map_nil, List.getD_cons_zero, List.getD_cons_succ, ms5_4, ms5_5, *]) | (simp only [go_sem, ↓reduceIte, List.map_cons, List.map_nil, List.getD_cons_zero, List.getD_cons_succ, ms5_4, ms5_5]))
                            all_goals (
                                try simp only [go_sem, ↓reduceIte, List.map_cons, List.map_nil, List.getD_cons_zero, List.getD_cons_succ, ms5_4, ms5_5]
                                all_goals first | (simp_all [List.length_pos_iff]; done) | (simp_all; omega))
                          ·
                            refine aw_if (Fm.head (.mk k' n' t' nl' [x0, x1, x2]) = ltB ∧ litNot F = false) (by simp only [go_sem, ↓reduceIte, List.map_cons, List.map_nil, List.getD_cons_zero, List.getD_cons_succ, ms5_4, ms5_5]) (fun h25 => ?_) (fun h25 => ?_)
                            ·
                              refine aw_sreg {} rfl rfl fun K KP hK hP => ?_
                              simp only [go_sem, ↓reduceIte, List.map_cons, List.map_nil, List.getD_cons_zero, List.getD_cons_succ, ms5_4, ms5_5, wl1]
                              apply hK; clear hK hP
                              refine aw_lreg {} rfl rfl fun K KP hK hP => ?_
                              simp only [go_sem, ↓reduceIte, List.map_cons, List.map_nil, List.getD_cons_zero, List.getD_cons_succ, ms5_4, ms5_5, List.replicate_succ]
                              apply hK; clear hK hP
                              refine ablock_normal.2 ?_
                              refine athen_normal.2 ?_
                              refine ⟨lk + 1, true, ll, [], _, ?_, rfl, ?_⟩
                              · rw [hro, if_neg (by rw [← hgh]; exact h21), if_neg (by rw [← hgh, h25.1]; decide), if_pos h25.2]; cases hw : within (lk + 1) <;> rfl
                              · simp only [go_sem, ↓reduceIte, List.map_cons, List.map_nil, List.getD_cons_zero, List.getD_cons_succ, ms5_4, ms5_5] <;> try rfl
                            ·
                              refine aw_sreg {} rfl rfl fun K KP hK hP => ?_
                              simp only [go_sem, ↓reduceIte, List.map_cons, List.map_nil, List.getD_cons_zero, List.getD_cons_succ, ms5_4, ms5_5]
                              apply hK; clear hK hP
                              refine aw_if (Fm.head (.mk k' n' t' nl' [x0, x1, x2]) = leB) (by simp only [go_sem, ↓reduceIte, List.map_cons, List.map_nil, List.getD_cons_zero, List.getD_cons_succ, ms5_4, ms5_5]) (fun h28 => ?_) (fun h28 => ?_)
                              ·
                                refine aw_sreg {} rfl rfl fun K KP hK hP => ?_
                                simp only [go_sem, ↓reduceIte, List.map_cons, List.map_nil, List.getD_cons_zero, List.getD_cons_succ, ms5_4, ms5_5, wh1]
                                apply hK; clear hK hP
                                refine aw_lreg {} rfl rfl fun K KP hK hP => ?_
                                simp only [go_sem, ↓reduceIte, List.map_cons, List.map_nil, List.getD_cons_zero, List.getD_cons_succ, ms5_4, ms5_5, List.replicate_succ]
                                apply hK; clear hK hP
                                refine ablock_normal.2 ?_
                                refine athen_normal.2 ?_
                                refine ⟨hk + 1, true, hl, [], _, ?_, rfl, ?_⟩
                                · rw [hro, if_neg (by rw [← hgh]; exact h21), if_pos (by rw [← hgh]; exact h28), if_neg (fun h => h23 ⟨h28, h⟩)]; cases hw : within (hk + 1) <;> rfl
                                · simp only [go_sem, ↓reduceIte, List.map_cons, List.map_nil, List.getD_cons_zero, List.getD_cons_succ, ms5_4, ms5_5] <;> try rfl
                              ·
                                refine aw_lreg {} rfl rfl fun K KP hK hP => ?_
                                simp only [go_sem, ↓reduceIte, List.map_cons, List.map_nil, List.getD_cons_zero, List.getD_cons_succ, ms5_4, ms5_5, List.replicate_succ]
                                apply hK; clear hK hP
                                refine ablock_normal.2 ?_
                                refine athen_normal.2 ?_
                                refine ⟨hk, true, hl, [], _, ?_, rfl, ?_⟩
                                · rw [hro, if_neg (by rw [← hgh]; exact h21), if_neg (by rw [← hgh]; exact h28), if_neg (fun h => h25 ⟨by have := hok.2; rw [← hgh] at this; rcases this with e | e | ⟨e, -⟩; exact absurd e h28; exact e; exact absurd e h21, h⟩), if_pos whigh]
                                · simp only [go_sem, ↓reduceIte, List.map_cons, List.map_nil, List.getD_cons_zero, List.getD_cons_succ, ms5_4, ms5_5] <;> try rfl
                  ·
                    rintro ⟨envmb0, σmb0, nxmb0⟩ ⟨rk, rn, rl, rs, σb, hmb0_0, hmsb0, mb0_13⟩
                    dsimp only at hmsb0  mb0_13
                    subst hmsb0
                    refine aw_seq ?_
                    refine aw_sreg {} rfl rfl fun K KP hK hP => ?_
                    simp only [go_sem, ↓reduceIte, List.map_cons, List.map_nil, List.getD_cons_zero, List.getD_cons_succ, ms5_4, ms5_5, mb0_13, Sm.cells, List.head?_cons]
                    refine CallP.ret (small34_call _) (by simp only [go_sem]) ?_
                    try simp only [go_sem, ↓reduceIte, List.map_cons, List.map_nil, List.getD_cons_zero, List.getD_cons_succ, ms5_4, ms5_5, mb0_13, Sm.cells, List.head?_cons]
                    apply hK; clear hK hP
                    refine aw_if (¬ within rk = true) (by simp only [go_sem, ↓reduceIte, List.map_cons, List.map_nil, List.getD_cons_zero, List.getD_cons_succ, ms5_4, ms5_5, mb0_13]) (fun h31 => ?_) (fun h31 => ?_)
                    ·
                      refine aw_sreg {} rfl rfl fun K KP hK hP => ?_
                      simp only [go_sem, ↓reduceIte, List.map_cons, List.map_nil, List.getD_cons_zero, List.getD_cons_succ, ms5_4, ms5_5, mb0_13]
                      apply hK; clear hK hP
                      refine aw_ret ?_
                      refine athen_ret.2 ?_
                      simp only [go_sem, ↓reduceIte, List.map_cons, List.map_nil, List.getD_cons_zero, List.getD_cons_succ, ms5_4, ms5_5, mb0_13, athen_ret] <;> (
                        rw [rowsE_range hv hok hl3 (by rw [hmb0_0, if_neg h31])])
                    ·
                      refine aw_skip ?_
                      refine athen_normal.2 ?_
                      refine aw_sreg {} rfl rfl fun K KP hK hP => ?_
                      simp only [go_sem, ↓reduceIte, List.map_cons, List.map_nil, List.getD_cons_zero, List.getD_cons_succ, ms5_4, ms5_5, mb0_13]
                      apply hK; clear hK hP
                      refine aw_ret ?_
                      simp only [go_sem, ↓reduceIte, List.map_cons, List.map_nil, List.getD_cons_zero, List.getD_cons_succ, ms5_4, ms5_5, mb0_13, athen_ret] <;> (
                        rw [rowsE_ok hv hok hl3 (by rw [hmb0_0, if_pos (Classical.not_not.1 h31)])]; rfl)
end Go.Ab
