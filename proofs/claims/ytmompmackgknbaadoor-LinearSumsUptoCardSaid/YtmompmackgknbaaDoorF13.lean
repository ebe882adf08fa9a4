/-
  THE TERM OF A SUM, as it is exported.
-/
import Derived.Test.YtmompmackgknbaaDoorF12
set_option linter.unusedVariables false
set_option linter.unusedSimpArgs false
set_option maxRecDepth 100000
namespace Go.Ab
open Go Go.RowKit Go.Proofs

/-- How the rows of a slice that grows lie, behind one object. -/
def held1 (esz ety : Nat) (rows : List (List AV)) (v : AV) (σr : Sto) : Prop := (rows = [] ∧ v = .base (.slice none 0 0)) ∨ ∃ q nm, rows ≠ [] ∧ v = .sref (q + 1) nm esz 0 rows.length ∧ σr[q]? = some (nm, .gvec esz ety rows)
theorem held1.app {esz ety : Nat} {rows : List (List AV)} {v : AV} {σr : Sto} (h : held1 esz ety rows v σr) (l : Sto) : held1 esz ety rows v (σr ++ l) := by
  rcases h with h | ⟨q, nm, h1, h2, h3⟩
  · exact .inl h
  · exact .inr ⟨q, nm, h1, h2, by rw [List.getElem?_append_left (List.getElem?_eq_some_iff.1 h3).1]; exact h3⟩
theorem held1.nil {esz ety : Nat} {rows : List (List AV)} {v : AV} {σr : Sto} (h : held1 esz ety rows v σr) (hr : rows = []) : v = .base (.slice none 0 0) := by
  rcases h with h | ⟨q, nm, h1, h2, h3⟩
  · exact h.2
  · exact absurd hr h1
theorem held1.some {esz ety : Nat} {rows : List (List AV)} {v : AV} {σr : Sto} (h : held1 esz ety rows v σr) (hr : rows ≠ []) : ∃ q nm, v = .sref (q + 1) nm esz 0 rows.length ∧ (∀ (a : Nat × AObj) (l : Sto), sget (a :: (σr ++ l)) (q + 1) nm = some (.gvec esz ety rows)) ∧ sget σr q nm = some (.gvec esz ety rows) ∧
    ∀ (l : Sto) (nm' : Nat) (rows' : List (List AV)) , rows' ≠ [] → held1 esz ety rows' (.sref (q + 1) nm' esz 0 rows'.length) ((σr ++ l).set q (nm', .gvec esz ety rows')) := by
  rcases h with h | ⟨q, nm, h1, h2, h3⟩
  · exact absurd h.1 hr
  · have hq := (List.getElem?_eq_some_iff.1 h3).1
    refine ⟨q, nm, h2, fun a l => ?_, ?_, fun l nm' rows' hne => .inr ⟨q, nm', hne, rfl, ?_⟩⟩
    · unfold sget; rw [List.getElem?_cons_succ, List.getElem?_append_left hq, h3]; simp
    · unfold sget; rw [h3]; simp
    · rw [List.getElem?_set, if_pos rfl, if_pos (by simp; omega)]
theorem held1.new {esz ety : Nat} {rows : List (List AV)} (hne : rows ≠ []) (σr : Sto) (nm : Nat) : held1 esz ety rows (.sref (σr.length + 1) nm esz 0 rows.length) (σr ++ [(nm, .gvec esz ety rows)]) :=
  .inr ⟨σr.length, nm, hne, rfl, by simp⟩

theorem afor_app {Q : AExit → St → Prop} {e : AExit} {env : Nat → AV} {a x : Nat × AObj} {σ l : Sto} {nx : Nat} (h : Q e ⟨env, a :: (σ ++ [x]), nx⟩) : afor (σ.length + 1 + 1) Q e ⟨env, a :: (σ ++ x :: l), nx⟩ := by
  have : (σ ++ x :: l).take (σ.length + 1) = σ ++ [x] := by
    rw [List.take_append, List.take_of_length_le (by omega)]; simp
  simpa [afor, this] using h
theorem termP_ne {p : Pt} (h : ¬ p.c = 1) : termP p = .mk 3 0 [] false (wordF starB :: [numF p.c, p.t]) := by simp [termP, h, binF]
theorem termP_eq {p : Pt} (h : p.c = 1) : termP p = p.t := by simp [termP, h]
@[go_sem] theorem zeroRow_length : zeroRow.length = 4 := rfl
@[go_sem] theorem zeroRow_drop : zeroRow.drop 4 = [] := rfl
theorem big_foldl : ∀ (r : List Fm) (f : Fm), (r.foldl (binF plusB) f).big = f.big + Fm.bigL r + 3 * r.length
  | [], f => by simp [Fm.bigL]
  | g :: r, f => by
    rw [List.foldl_cons, big_foldl r]
    simp only [binF, wordF, Fm.big, Fm.bigL, List.length_cons, List.length_nil]
    omega
theorem bigL_max : ∀ (l : List Fm) (b : Nat), (∀ f ∈ l, f.big ≤ b) → Fm.bigL l ≤ l.length * b
  | [], b, _ => by simp [Fm.bigL]
  | f :: r, b, h => by
    have h1 := h f (by simp)
    have h2 := bigL_max r b (fun g hg => h g (by simp [hg]))
    simp only [Fm.bigL, List.length_cons, Nat.succ_mul]; omega
theorem termP_big (p : Pt) : (termP p).big ≤ p.t.big + 4 := by
  unfold termP
  split
  · omega
  · simp only [binF, wordF, numF, Fm.big, Fm.bigL, List.length_cons, List.length_nil]; omega
theorem termL_big {s : Sm} (hb : ∀ p ∈ s.l, p.t.big ≤ 40020000) : ∀ f ∈ termL s, f.big ≤ 40020004 := by
  intro f hf
  rcases List.mem_append.1 hf with h | h
  · obtain ⟨p, hp, rfl⟩ := List.mem_map.1 h
    have := termP_big p; have := hb p hp; omega
  · split at h
    · simp at h; subst h; simp [numF, Fm.big, Fm.bigL]
    · cases h
def termE (s : Sm) : Fm × Int := if validSm s = true then (if validF (termS s) = true then (termS s, 0) else (zeroF, 2)) else (zeroF, 1)
def formE (r : Fm × Int) : AOut := .ret (.tup [r.1.av, .int .i64 r.2])
theorem Term_call (k : Int) (nl : Bool) (l : List Pt) (hl : l.length ≤ 10000000000) (hb : ∀ p ∈ l, p.t.big ≤ 1000000000000) : PCall CX 10 [Sm.av ⟨k, nl, l⟩] (· = formE (termE ⟨k, nl, l⟩)) := by
  have hlv := lvalid_call k nl l (fun p hp => by have := hb p hp; omega) (by omega)
  refine pcall_mk 1 73 [.cell 2 24, .tmp 3] Tryd.func10 rfl (by decide) rfl rfl rfl ?_
  simp only [go_sem]
  refine aw_sreg {} rfl (by simp only [allocObjs, go_sem]; rfl) fun K KP hK hP => ?_
  simp only [go_sem, ↓reduceIte]
  apply hK; clear hK hP
  refine aw_seq ?_
  refine aw_sreg {} rfl rfl fun K KP hK hP => ?_
  simp only [go_sem, ↓reduceIte]
  refine CallP.ret (by simpa only [go_sem] using hlv) (by simp only [go_sem]) ?_
  try simp only [go_sem, ↓reduceIte]
  apply hK; clear hK hP
  refine aw_if (¬ validSm ⟨k, nl, l⟩ = true) (by simp only [go_sem, ↓reduceIte]) (fun h1 => ?_) (fun h1 => ?_)
  ·
    refine aw_sreg {} rfl rfl fun K KP hK hP => ?_
    simp only [go_sem, ↓reduceIte]
    apply hK; clear hK hP
    refine aw_ret ?_
    refine athen_ret.2 ?_
    simp only [go_sem, ↓reduceIte, athen_ret] <;> (
      simp [formE, termE, h1, go_sem, zeroF, kidsA])
  ·
    have hv : validSm ⟨k, nl, l⟩ = true := Classical.not_not.1 h1
    have hgood := validSm_good hv
    have hvb : ∀ p ∈ l, p.t.big ≤ 40020000 := fun p hp => validF_big (hgood.1.ok p hp).2.2
    refine aw_skip ?_
    refine athen_normal.2 ?_
    refine aw_sreg {} rfl rfl fun K KP hK hP => ?_
    simp only [go_sem, ↓reduceIte]
    apply hK; clear hK hP
    refine aw_seq ?_
    refine aw_sreg {} rfl rfl fun K KP hK hP => ?_
    simp only [go_sem, ↓reduceIte]
    apply hK; clear hK hP
    refine aw_block ?_
    refine aw_loop' (fun dd st => ∃ (i : Nat) (v : AV) (σr : Sto), (i ≤ l.length) ∧ (held1 4 24 (((l.map termP).take i).map Fm.cells) v σr) ∧ l.length - i = dd ∧ (0, .cells 24 zeroRow) :: σr = st.σ ∧ st.env 1 = .rptr [.int .i64 k, termsA nl (l.map Pt.row)] ∧ st.env 2 = .ref 0 0 0 ∧ st.env 4 = v ∧ st.env 16 = termsA nl (l.map Pt.row) ∧ st.env 17 = .int .i64 l.length ∧ st.env 18 = .int .i64 (i : Nat)) (fun dd st hJ => ?_) ?_
    ·
      obtain ⟨env0, σ0, nx0⟩ := st
      obtain ⟨i, v, σr, hp0_0, hp0_1, hd0, hs0, e0_1, e0_2, e0_4, e0_16, e0_17, e0_18⟩ := hJ
      dsimp only at hs0  e0_1 e0_2 e0_4 e0_16 e0_17 e0_18
      subst hd0; subst hs0
      refine aw_sreg {} rfl rfl fun K KP hK hP => ?_
      simp only [go_sem, ↓reduceIte, e0_1, e0_2, e0_4, e0_16, e0_17, e0_18]
      apply hK; clear hK hP
      refine aw_seq ?_
      refine aw_if (i < l.length) (by simp only [go_sem, ↓reduceIte, e0_1, e0_2, e0_4, e0_16, e0_17, e0_18]) (fun h5 => ?_) (fun h5 => ?_)
      ·
        have hw1 : IntKind.wrap .i64 ((i : Int) + 1) = ((i + 1 : Nat) : Int) := by rw [wrap64 (by omega) (by omega)]; omega
        have hbi := hvb _ (List.getElem_mem h5)
        refine aw_skip ?_
        refine athen_normal.2 ?_
        refine aw_seq ?_
        refine aw_block ?_
        refine aw_sreg {} rfl (by simp only [allocObjs, go_sem]; rfl) fun K KP hK hP => ?_
        simp only [go_sem, ↓reduceIte, e0_1, e0_2, e0_4, e0_16, e0_17, e0_18, h5, getD_rows h5, hw1]
        apply hK; clear hK hP
        refine aw_sreg {} rfl (by simp only [allocObjs, go_sem]; rfl) fun K KP hK hP => ?_
        simp only [go_sem, ↓reduceIte, e0_1, e0_2, e0_4, e0_16, e0_17, e0_18, h5, getD_rows h5, hw1]
        refine CallP.ret (copy_call _ (by omega)) (by simp only [go_sem]) ?_
        try simp only [go_sem, ↓reduceIte, e0_1, e0_2, e0_4, e0_16, e0_17, e0_18, h5, getD_rows h5, hw1]
        apply hK; clear hK hP
        refine aw_mid (fun st => ∃ (tc : List AV), (tc = (termP l[i]).cells) ∧ (0, .cells 24 zeroRow) :: (σr ++ [(nx0, .cells 68 (.int .i64 l[i].c :: l[i].t.cells)), (nx0 + 1, .cells 24 tc)]) = st.σ ∧ st.env 1 = .rptr [.int .i64 k, termsA nl (l.map Pt.row)] ∧ st.env 2 = .ref 0 0 0 ∧ st.env 4 = v ∧ st.env 16 = termsA nl (l.map Pt.row) ∧ st.env 17 = .int .i64 l.length ∧ st.env 18 = .int .i64 (i : Nat) ∧ st.env 7 = .ref (σr.length + 1 + 1) (nx0 + 1) 0) ?_ ?_
        ·
          refine aw_sreg {} rfl rfl fun K KP hK hP => ?_
          simp only [go_sem, ↓reduceIte, e0_1, e0_2, e0_4, e0_16, e0_17, e0_18, h5, getD_rows h5, hw1]
          apply hK; clear hK hP
          refine aw_if (¬ l[i].c = 1) (by simp only [go_sem, ↓reduceIte, e0_1, e0_2, e0_4, e0_16, e0_17, e0_18, h5, getD_rows h5, hw1]) (fun h8 => ?_) (fun h8 => ?_)
          ·
            refine aw_ldraw {} [] [0, 1, 3, 0, 15, 31, 63] mixed (by kernel_rfl) rfl rfl fun K KP hK hP => ?_
            simp only [go_sem, ↓reduceIte, e0_1, e0_2, e0_4, e0_16, e0_17, e0_18, h5, getD_rows h5, hw1, List.replicate_succ]
            refine CallP.ret (num_call _) (by simp only [go_sem]) ?_
            try simp only [go_sem, ↓reduceIte, e0_1, e0_2, e0_4, e0_16, e0_17, e0_18, h5, getD_rows h5, hw1, List.replicate_succ]
            refine CallP.ret (of_call starB false [numF l[i].c, l[i].t] (by simp)) (by simp only [go_sem, List.map_cons, List.map_nil, kidsA]) ?_
            try simp only [go_sem, ↓reduceIte, e0_1, e0_2, e0_4, e0_16, e0_17, e0_18, h5, getD_rows h5, hw1, List.replicate_succ]
            apply hK; clear hK hP
            refine athen_normal.2 ?_
            refine ⟨_, ?_, rfl, ?_, ?_, ?_, ?_, ?_, ?_, ?_⟩
            · simp [termP_ne h8, cells_mk]
            · simp only [go_sem, ↓reduceIte, e0_1, e0_2, e0_4, e0_16, e0_17, e0_18, h5, getD_rows h5, hw1] <;> try rfl
            · simp only [go_sem, ↓reduceIte, e0_1, e0_2, e0_4, e0_16, e0_17, e0_18, h5, getD_rows h5, hw1] <;> try rfl
            · simp only [go_sem, ↓reduceIte, e0_1, e0_2, e0_4, e0_16, e0_17, e0_18, h5, getD_rows h5, hw1] <;> try rfl
            · simp only [go_sem, ↓reduceIte, e0_1, e0_2, e0_4, e0_16, e0_17, e0_18, h5, getD_rows h5, hw1] <;> try rfl
            · simp only [go_sem, ↓reduceIte, e0_1, e0_2, e0_4, e0_16, e0_17, e0_18, h5, getD_rows h5, hw1] <;> try rfl
            · simp only [go_sem, ↓reduceIte, e0_1, e0_2, e0_4, e0_16, e0_17, e0_18, h5, getD_rows h5, hw1] <;> try rfl
            · simp only [go_sem, ↓reduceIte, e0_1, e0_2, e0_4, e0_16, e0_17, e0_18, h5, getD_rows h5, hw1] <;> try rfl
          ·
            refine aw_skip ?_
            refine athen_normal.2 ?_
            refine ⟨_, ?_, rfl, ?_, ?_, ?_, ?_, ?_, ?_, ?_⟩
            · rw [termP_eq (Classical.not_not.1 h8)]
            · simp only [go_sem, ↓reduceIte, e0_1, e0_2, e0_4, e0_16, e0_17, e0_18, h5, getD_rows h5, hw1] <;> try rfl
            · simp only [go_sem, ↓reduceIte, e0_1, e0_2, e0_4, e0_16, e0_17, e0_18, h5, getD_rows h5, hw1] <;> try rfl
            · simp only [go_sem, ↓reduceIte, e0_1, e0_2, e0_4, e0_16, e0_17, e0_18, h5, getD_rows h5, hw1] <;> try rfl
            · simp only [go_sem, ↓reduceIte, e0_1, e0_2, e0_4, e0_16, e0_17, e0_18, h5, getD_rows h5, hw1] <;> try rfl
            · simp only [go_sem, ↓reduceIte, e0_1, e0_2, e0_4, e0_16, e0_17, e0_18, h5, getD_rows h5, hw1] <;> try rfl
            · simp only [go_sem, ↓reduceIte, e0_1, e0_2, e0_4, e0_16, e0_17, e0_18, h5, getD_rows h5, hw1] <;> try rfl
            · simp only [go_sem, ↓reduceIte, e0_1, e0_2, e0_4, e0_16, e0_17, e0_18, h5, getD_rows h5, hw1] <;> try rfl
        ·
          rintro ⟨envms8, σms8, nxms8⟩ ⟨tc, hms8_0, hmss8, ms8_1, ms8_2, ms8_4, ms8_16, ms8_17, ms8_18, ms8_7⟩
          dsimp only at hmss8  ms8_1 ms8_2 ms8_4 ms8_16 ms8_17 ms8_18 ms8_7
          subst hmss8
          subst hms8_0
          by_cases c10 : (((l.map termP).take i).map Fm.cells) = []
          ·
            have hvv := hp0_1.nil c10
            subst hvv
            have hlen : (((l.map termP).take i).map Fm.cells).length = i := by simp; omega
            have hi0 : i = 0 := by rw [c10] at hlen; exact hlen.symm
            have hlim1 : 56 ≤ limB := by decide
            have hsucc : ((l.map termP).take (i + 1)).map Fm.cells = [(termP l[i]).cells] := by rw [List.take_succ_eq_append_getElem (by simpa using h5), List.map_append, c10]; simp
            refine aw_lreg {} rfl rfl fun K KP hK hP => ?_
            simp only [go_sem, ↓reduceIte, e0_1, e0_2, e0_4, e0_16, e0_17, e0_18, h5, getD_rows h5, hw1, ms8_1, ms8_2, ms8_4, ms8_16, ms8_17, ms8_18, ms8_7, c10, List.replicate_succ, hlim1]
            apply hK; clear hK hP
            refine ablock_normal.2 ?_
            refine athen_normal.2 ?_
            refine aw_lreg {} rfl rfl fun K KP hK hP => ?_
            simp only [go_sem, ↓reduceIte, e0_1, e0_2, e0_4, e0_16, e0_17, e0_18, h5, getD_rows h5, hw1, ms8_1, ms8_2, ms8_4, ms8_16, ms8_17, ms8_18, ms8_7, c10]
            apply hK; clear hK hP
            refine athen_normal.2 ?_
            refine ⟨_, ?_, i + 1, .sref ((σr ++ [(nx0, AObj.cells 68 (.int .i64 l[i].c :: l[i].t.cells)), (nx0 + 1, .cells 24 (termP l[i]).cells)]).length + 1) nxms8 4 0 1, _, ?_, ?_, rfl, rfl, ?_, ?_, ?_, ?_, ?_, ?_⟩
            · omega
            · first | omega | trivial | assumption
            · rw [hsucc]
              have := held1.new (esz := 4) (ety := 24) (rows := [(termP l[i]).cells]) (by simp) (σr ++ [(nx0, .cells 68 (.int .i64 l[i].c :: l[i].t.cells)), (nx0 + 1, .cells 24 (termP l[i]).cells)]) nxms8
              simpa using this
            · simp only [go_sem, ↓reduceIte, e0_1, e0_2, e0_4, e0_16, e0_17, e0_18, h5, getD_rows h5, hw1, ms8_1, ms8_2, ms8_4, ms8_16, ms8_17, ms8_18, ms8_7, c10] <;> try rfl
            · simp only [go_sem, ↓reduceIte, e0_1, e0_2, e0_4, e0_16, e0_17, e0_18, h5, getD_rows h5, hw1, ms8_1, ms8_2, ms8_4, ms8_16, ms8_17, ms8_18, ms8_7, c10] <;> try rfl
            · simp only [go_sem, ↓reduceIte, e0_1, e0_2, e0_4, e0_16, e0_17, e0_18, h5, getD_rows h5, hw1, ms8_1, ms8_2, ms8_4, ms8_16, ms8_17, ms8_18, ms8_7, c10] <;> try rfl
            · simp only [go_sem, ↓reduceIte, e0_1, e0_2, e0_4, e0_16, e0_17, e0_18, h5, getD_rows h5, hw1, ms8_1, ms8_2, ms8_4, ms8_16, ms8_17, ms8_18, ms8_7, c10] <;> try rfl
            · simp only [go_sem, ↓reduceIte, e0_1, e0_2, e0_4, e0_16, e0_17, e0_18, h5, getD_rows h5, hw1, ms8_1, ms8_2, ms8_4, ms8_16, ms8_17, ms8_18, ms8_7, c10] <;> try rfl
            · simp only [go_sem, ↓reduceIte, e0_1, e0_2, e0_4, e0_16, e0_17, e0_18, h5, getD_rows h5, hw1, ms8_1, ms8_2, ms8_4, ms8_16, ms8_17, ms8_18, ms8_7, c10] <;> try rfl
          ·
            have hlen : (((l.map termP).take i).map Fm.cells).length = i := by simp; omega
            have hsucc : ((l.map termP).take (i + 1)).map Fm.cells = ((l.map termP).take i).map Fm.cells ++ [(termP l[i]).cells] := by rw [List.take_succ_eq_append_getElem (by simpa using h5)]; simp
            obtain ⟨q, nm, hvv, hS2, hS3, hset⟩ := hp0_1.some c10
            generalize ((l.map termP).take i).map Fm.cells = R at *
            rw [hlen] at hvv
            subst hvv
            have hlim : (i + 1) * 56 ≤ limB := by unfold limB; omega
            have hlim1 : 56 ≤ limB := by decide
            have hli : i + 1 ≤ 4611686018427387904 := by omega
            have htt : R.take i = R := List.take_of_length_le (by omega)
            refine aw_lreg {} rfl rfl fun K KP hK hP => ?_
            simp only [go_sem, ↓reduceIte, e0_1, e0_2, e0_4, e0_16, e0_17, e0_18, h5, getD_rows h5, hw1, ms8_1, ms8_2, ms8_4, ms8_16, ms8_17, ms8_18, ms8_7, c10, List.replicate_succ, hlim, hlim1, hli, htt, hS2, hS3, hlen]
            apply hK; clear hK hP
            refine ablock_normal.2 ?_
            refine athen_normal.2 ?_
            refine aw_lreg {} rfl rfl fun K KP hK hP => ?_
            simp only [go_sem, ↓reduceIte, e0_1, e0_2, e0_4, e0_16, e0_17, e0_18, h5, getD_rows h5, hw1, ms8_1, ms8_2, ms8_4, ms8_16, ms8_17, ms8_18, ms8_7, c10]
            apply hK; clear hK hP
            refine athen_normal.2 ?_
            refine ⟨_, ?_, i + 1, .sref (q + 1) nxms8 4 0 (i + 1), _, ?_, ?_, rfl, rfl, ?_, ?_, ?_, ?_, ?_, ?_⟩
            · omega
            · first | omega | trivial | assumption
            · rw [hsucc]
              have := hset [(nx0, .cells 68 (.int .i64 l[i].c :: l[i].t.cells)), (nx0 + 1, .cells 24 (termP l[i]).cells)] nxms8 (R ++ [(termP l[i]).cells]) (by simp)
              simpa [hlen] using this
            · simp only [go_sem, ↓reduceIte, e0_1, e0_2, e0_4, e0_16, e0_17, e0_18, h5, getD_rows h5, hw1, ms8_1, ms8_2, ms8_4, ms8_16, ms8_17, ms8_18, ms8_7, c10] <;> try rfl
            · simp only [go_sem, ↓reduceIte, e0_1, e0_2, e0_4, e0_16, e0_17, e0_18, h5, getD_rows h5, hw1, ms8_1, ms8_2, ms8_4, ms8_16, ms8_17, ms8_18, ms8_7, c10] <;> try rfl
            · simp only [go_sem, ↓reduceIte, e0_1, e0_2, e0_4, e0_16, e0_17, e0_18, h5, getD_rows h5, hw1, ms8_1, ms8_2, ms8_4, ms8_16, ms8_17, ms8_18, ms8_7, c10] <;> try rfl
            · simp only [go_sem, ↓reduceIte, e0_1, e0_2, e0_4, e0_16, e0_17, e0_18, h5, getD_rows h5, hw1, ms8_1, ms8_2, ms8_4, ms8_16, ms8_17, ms8_18, ms8_7, c10] <;> try rfl
            · simp only [go_sem, ↓reduceIte, e0_1, e0_2, e0_4, e0_16, e0_17, e0_18, h5, getD_rows h5, hw1, ms8_1, ms8_2, ms8_4, ms8_16, ms8_17, ms8_18, ms8_7, c10] <;> try rfl
            · simp only [go_sem, ↓reduceIte, e0_1, e0_2, e0_4, e0_16, e0_17, e0_18, h5, getD_rows h5, hw1, ms8_1, ms8_2, ms8_4, ms8_16, ms8_17, ms8_18, ms8_7, c10] <;> try rfl
      ·
        have hi : i = l.length := by omega
        have hfull : (l.map termP).take i = l.map termP := List.take_of_length_le (by simp; omega)
        rw [hfull] at hp0_1
        refine aw_exit ?_
        refine athen_exit.2 ?_
        refine athen_exit.2 ?_
        refine ablock_here ?_
        refine athen_normal.2 ?_
        refine aw_mid (fun st => ∃ (w : AV) (σq : Sto), (held1 4 24 ((termL ⟨k, nl, l⟩).map Fm.cells) w σq) ∧ (0, .cells 24 zeroRow) :: σq = st.σ ∧ st.env 1 = .rptr [.int .i64 k, termsA nl (l.map Pt.row)] ∧ st.env 2 = .ref 0 0 0 ∧ st.env 4 = w) ?_ ?_
        ·
          refine aw_mid (fun st => (0, .cells 24 zeroRow) :: σr = st.σ ∧ st.env 1 = .rptr [.int .i64 k, termsA nl (l.map Pt.row)] ∧ st.env 2 = .ref 0 0 0 ∧ st.env 4 = v ∧ st.env 46 = .bool (decide (k ≠ 0 ∨ l = []))) ?_ ?_
          ·
            by_cases c12 : l = []
            ·
              try (have hvv := hp0_1.nil (by simp [c12]); subst hvv)
              by_cases c12_0 : ¬ k = 0
              ·
                try (have hvv := hp0_1.nil (by simp [c12]); subst hvv)
                refine aw_lreg {} rfl rfl fun K KP hK hP => ?_
                simp only [go_sem, ↓reduceIte, e0_1, e0_2, e0_4, e0_16, e0_17, e0_18, c12, c12_0, List.length_map]
                apply hK; clear hK hP
                refine athen_normal.2 ?_
                refine ⟨rfl, ?_, ?_, ?_, ?_⟩
                · simp only [go_sem, ↓reduceIte, e0_1, e0_2, e0_4, e0_16, e0_17, e0_18, c12, c12_0] <;> try rfl
                · simp only [go_sem, ↓reduceIte, e0_1, e0_2, e0_4, e0_16, e0_17, e0_18, c12, c12_0] <;> try rfl
                · simp only [go_sem, ↓reduceIte, e0_1, e0_2, e0_4, e0_16, e0_17, e0_18, c12, c12_0] <;> try rfl
                · simp only [go_sem, ↓reduceIte, e0_1, e0_2, e0_4, e0_16, e0_17, e0_18, c12, c12_0] <;> (
                    simp [c12_0])
              ·
                replace c12_0 := Classical.not_not.1 c12_0
                try (have hvv := hp0_1.nil (by simp [c12]); subst hvv)
                refine aw_lreg {} rfl rfl fun K KP hK hP => ?_
                simp only [go_sem, ↓reduceIte, e0_1, e0_2, e0_4, e0_16, e0_17, e0_18, c12, c12_0, List.length_map]
                apply hK; clear hK hP
                refine athen_normal.2 ?_
                refine ⟨rfl, ?_, ?_, ?_, ?_⟩
                · simp only [go_sem, ↓reduceIte, e0_1, e0_2, e0_4, e0_16, e0_17, e0_18, c12, c12_0] <;> try rfl
                · simp only [go_sem, ↓reduceIte, e0_1, e0_2, e0_4, e0_16, e0_17, e0_18, c12, c12_0] <;> try rfl
                · simp only [go_sem, ↓reduceIte, e0_1, e0_2, e0_4, e0_16, e0_17, e0_18, c12, c12_0] <;> try rfl
                · simp only [go_sem, ↓reduceIte, e0_1, e0_2, e0_4, e0_16, e0_17, e0_18, c12, c12_0] <;> (
                    simp [c12_0, c12])
            ·
              try (obtain ⟨q, nm, hvv, hS2, hS3, hset⟩ := hp0_1.some (by simpa using c12); subst hvv)
              by_cases c12_0 : ¬ k = 0
              ·
                try (obtain ⟨q, nm, hvv, hS2, hS3, hset⟩ := hp0_1.some (by simpa using c12); subst hvv)
                refine aw_lreg {} rfl rfl fun K KP hK hP => ?_
                simp only [go_sem, ↓reduceIte, e0_1, e0_2, e0_4, e0_16, e0_17, e0_18, c12, c12_0, List.length_map]
                apply hK; clear hK hP
                refine athen_normal.2 ?_
                refine ⟨rfl, ?_, ?_, ?_, ?_⟩
                · simp only [go_sem, ↓reduceIte, e0_1, e0_2, e0_4, e0_16, e0_17, e0_18, c12, c12_0] <;> try rfl
                · simp only [go_sem, ↓reduceIte, e0_1, e0_2, e0_4, e0_16, e0_17, e0_18, c12, c12_0] <;> try rfl
                · simp only [go_sem, ↓reduceIte, e0_1, e0_2, e0_4, e0_16, e0_17, e0_18, c12, c12_0] <;> try rfl
                · simp only [go_sem, ↓reduceIte, e0_1, e0_2, e0_4, e0_16, e0_17, e0_18, c12, c12_0] <;> (
                    simp [c12_0])
              ·
                replace c12_0 := Classical.not_not.1 c12_0
                try (obtain ⟨q, nm, hvv, hS2, hS3, hset⟩ := hp0_1.some (by simpa using c12); subst hvv)
                refine aw_lreg {} rfl rfl fun K KP hK hP => ?_
                simp only [go_sem, ↓reduceIte, e0_1, e0_2, e0_4, e0_16, e0_17, e0_18, c12, c12_0, List.length_map]
                apply hK; clear hK hP
                refine athen_normal.2 ?_
                refine ⟨rfl, ?_, ?_, ?_, ?_⟩
                · simp only [go_sem, ↓reduceIte, e0_1, e0_2, e0_4, e0_16, e0_17, e0_18, c12, c12_0] <;> try rfl
                · simp only [go_sem, ↓reduceIte, e0_1, e0_2, e0_4, e0_16, e0_17, e0_18, c12, c12_0] <;> try rfl
                · simp only [go_sem, ↓reduceIte, e0_1, e0_2, e0_4, e0_16, e0_17, e0_18, c12, c12_0] <;> try rfl
                · simp only [go_sem, ↓reduceIte, e0_1, e0_2, e0_4, e0_16, e0_17, e0_18, c12, c12_0] <;> (
                    simp [c12_0, c12])
          ·
            rintro ⟨envm12, σm12, nxm12⟩ ⟨hms12, m12_1, m12_2, m12_4, m12_46⟩
            dsimp only at hms12  m12_1 m12_2 m12_4 m12_46
            subst hms12
            refine aw_if (k ≠ 0 ∨ l = []) (by simp only [go_sem, ↓reduceIte, e0_1, e0_2, e0_4, e0_16, e0_17, e0_18, m12_1, m12_2, m12_4, m12_46]) (fun h12 => ?_) (fun h12 => ?_)
            ·
              by_cases c13 : l = []
              ·
                have hvv := hp0_1.nil (by simp [c13])
                subst hvv
                have hlim1 : 56 ≤ limB := by decide
                refine aw_lreg {} rfl rfl fun K KP hK hP => ?_
                simp only [go_sem, ↓reduceIte, e0_1, e0_2, e0_4, e0_16, e0_17, e0_18, m12_1, m12_2, m12_4, m12_46, c13, List.replicate_succ, hlim1]
                refine CallP.ret (num_call _) (by simp only [go_sem]) ?_
                try simp only [go_sem, ↓reduceIte, e0_1, e0_2, e0_4, e0_16, e0_17, e0_18, m12_1, m12_2, m12_4, m12_46, c13, List.replicate_succ, hlim1]
                apply hK; clear hK hP
                refine athen_normal.2 ?_
                refine ⟨.sref (σr.length + 1) nxm12 4 0 1, σr ++ [(nxm12, .gvec 4 24 [(numF k).cells])], ?_, rfl, ?_, ?_, ?_⟩
                · have htl : (termL ⟨k, nl, l⟩).map Fm.cells = [(numF k).cells] := by simp [termL, c13]
                  rw [htl]; exact held1.new (by simp) _ _
                · simp only [go_sem, ↓reduceIte, e0_1, e0_2, e0_4, e0_16, e0_17, e0_18, m12_1, m12_2, m12_4, m12_46, c13] <;> try rfl
                · simp only [go_sem, ↓reduceIte, e0_1, e0_2, e0_4, e0_16, e0_17, e0_18, m12_1, m12_2, m12_4, m12_46, c13] <;> try rfl
                · simp only [go_sem, ↓reduceIte, e0_1, e0_2, e0_4, e0_16, e0_17, e0_18, m12_1, m12_2, m12_4, m12_46, c13] <;> try rfl
              ·
                have hlen : ((l.map termP).map Fm.cells).length = l.length := by simp
                have htl : (termL ⟨k, nl, l⟩).map Fm.cells = (l.map termP).map Fm.cells ++ [(numF k).cells] := by simp only [termL]; rw [if_pos h12, List.map_append]; rfl
                obtain ⟨q, nm, hvv, hS2, hS3, hset⟩ := hp0_1.some (by simpa using c13)
                rw [htl]
                generalize (l.map termP).map Fm.cells = R at *
                rw [hlen] at hvv
                subst hvv
                have hlim : (l.length + 1) * 56 ≤ limB := by unfold limB; omega
                have hlim1 : 56 ≤ limB := by decide
                have hli : l.length + 1 ≤ 4611686018427387904 := by omega
                have htt : R.take l.length = R := List.take_of_length_le (by omega)
                refine aw_lreg {} rfl rfl fun K KP hK hP => ?_
                simp only [go_sem, ↓reduceIte, e0_1, e0_2, e0_4, e0_16, e0_17, e0_18, m12_1, m12_2, m12_4, m12_46, c13, List.replicate_succ, hlim, hlim1, hli, htt, hS2, hS3, hlen]
                refine CallP.ret (num_call _) (by simp only [go_sem]) ?_
                try simp only [go_sem, ↓reduceIte, e0_1, e0_2, e0_4, e0_16, e0_17, e0_18, m12_1, m12_2, m12_4, m12_46, c13, List.replicate_succ, hlim, hlim1, hli, htt, hS2, hS3, hlen]
                apply hK; clear hK hP
                refine athen_normal.2 ?_
                refine ⟨.sref (q + 1) nxm12 4 0 (l.length + 1), σr.set q (nxm12, .gvec 4 24 (R ++ [(numF k).cells])), ?_, rfl, ?_, ?_, ?_⟩
                · have := hset [] nxm12 (R ++ [(numF k).cells]) (by simp)
                  simpa [hlen] using this
                · simp only [go_sem, ↓reduceIte, e0_1, e0_2, e0_4, e0_16, e0_17, e0_18, m12_1, m12_2, m12_4, m12_46, c13] <;> try rfl
                · simp only [go_sem, ↓reduceIte, e0_1, e0_2, e0_4, e0_16, e0_17, e0_18, m12_1, m12_2, m12_4, m12_46, c13] <;> try rfl
                · simp only [go_sem, ↓reduceIte, e0_1, e0_2, e0_4, e0_16, e0_17, e0_18, m12_1, m12_2, m12_4, m12_46, c13] <;> try rfl
            ·
              refine aw_skip ?_
              refine athen_normal.2 ?_
              refine ⟨v, σr, ?_, rfl, ?_, ?_, ?_⟩
              · have h1 : k = 0 := by rcases Classical.em (k = 0) with h | h; exact h; exact absurd (.inl h) h12
                have h2 : ¬ l = [] := fun h => h12 (.inr h)
                have htl : termL ⟨k, nl, l⟩ = l.map termP := by simp [termL, h1, h2]
                rw [htl]; exact hp0_1
              · simp only [go_sem, ↓reduceIte, e0_1, e0_2, e0_4, e0_16, e0_17, e0_18, m12_1, m12_2, m12_4, m12_46] <;> try rfl
              · simp only [go_sem, ↓reduceIte, e0_1, e0_2, e0_4, e0_16, e0_17, e0_18, m12_1, m12_2, m12_4, m12_46] <;> try rfl
              · simp only [go_sem, ↓reduceIte, e0_1, e0_2, e0_4, e0_16, e0_17, e0_18, m12_1, m12_2, m12_4, m12_46] <;> try rfl
        ·
          rintro ⟨envms12, σms12, nxms12⟩ ⟨w, σq, hms12_0, hmss12, ms12_1, ms12_2, ms12_4⟩
          dsimp only at hmss12  ms12_1 ms12_2 ms12_4
          subst hmss12
          obtain ⟨f0, r, hfr⟩ : ∃ f0 r, termL ⟨k, nl, l⟩ = f0 :: r := by
            cases h : termL ⟨k, nl, l⟩ with
            | nil => cases l with
              | nil => simp [termL] at h
              | cons p r => simp [termL] at h
            | cons f0 r => exact ⟨f0, r, rfl⟩
          have hts : termS ⟨k, nl, l⟩ = r.foldl (binF plusB) f0 := by rw [termS, hfr]; rfl
          rw [hfr] at hms12_0
          have hlr : r.length ≤ 10000000000 := by
            have h := congrArg List.length hfr
            have h2 : (termL ⟨k, nl, l⟩).length ≤ l.length + 1 := by simp only [termL, List.length_append, List.length_map]; split <;> simp
            simp only [List.length_cons] at h; omega
          obtain ⟨q, nm, hvv, hS2, hS3, -⟩ := hms12_0.some (by simp)
          have hlen : ((f0 :: r).map Fm.cells).length = r.length + 1 := by simp
          rw [hlen] at hvv
          subst hvv
          have hg1 : (1 : Int) ≤ ((r.length + 1 : Nat) : Int) := by omega
          refine aw_sreg {} rfl (by simp only [allocObjs, go_sem]; rfl) fun K KP hK hP => ?_
          simp only [go_sem, ↓reduceIte, e0_1, e0_2, e0_4, e0_16, e0_17, e0_18, ms12_1, ms12_2, ms12_4, hS2, hS3, hlen, hg1, List.map_cons, List.getD_cons_zero]
          apply hK; clear hK hP
          refine aw_seq ?_
          refine aw_mid (fun st => (0, .cells 24 zeroRow) :: (σq ++ [(nxms12, .cells 24 f0.cells)]) = st.σ ∧ st.env 2 = .ref 0 0 0 ∧ st.env 8 = .ref (σq.length + 1) nxms12 0 ∧ st.env 57 = (if r = [] then .vec 4 [] else .sref (q + 1) nm 4 1 r.length) ∧ st.env 58 = .int .i64 r.length ∧ st.env 59 = .int .i64 (0 : Int)) ?_ ?_
          ·
            by_cases c15 : r = []
            ·
              have hn1 : ¬ (1 : Int) < ((r.length + 1 : Nat) : Int) := by rw [c15]; decide
              have hr0 : r.length = 0 := by rw [c15]; rfl
              refine aw_lreg {} rfl rfl fun K KP hK hP => ?_
              simp only [go_sem, ↓reduceIte, e0_1, e0_2, e0_4, e0_16, e0_17, e0_18, ms12_1, ms12_2, ms12_4, hS2, hS3, hlen, hg1, List.map_cons, List.getD_cons_zero, c15, hn1, hr0]
              apply hK; clear hK hP
              refine athen_normal.2 ?_
              refine ⟨rfl, ?_, ?_, ?_, ?_, ?_⟩
              · simp only [go_sem, ↓reduceIte, e0_1, e0_2, e0_4, e0_16, e0_17, e0_18, ms12_1, ms12_2, ms12_4, hS2, hS3, hlen, hg1, List.map_cons, List.getD_cons_zero, c15] <;> try rfl
              · simp only [go_sem, ↓reduceIte, e0_1, e0_2, e0_4, e0_16, e0_17, e0_18, ms12_1, ms12_2, ms12_4, hS2, hS3, hlen, hg1, List.map_cons, List.getD_cons_zero, c15] <;> try rfl
              · simp only [go_sem, ↓reduceIte, e0_1, e0_2, e0_4, e0_16, e0_17, e0_18, ms12_1, ms12_2, ms12_4, hS2, hS3, hlen, hg1, List.map_cons, List.getD_cons_zero, c15] <;> try rfl
              · simp only [go_sem, ↓reduceIte, e0_1, e0_2, e0_4, e0_16, e0_17, e0_18, ms12_1, ms12_2, ms12_4, hS2, hS3, hlen, hg1, List.map_cons, List.getD_cons_zero, c15] <;> (
                  simp)
              · simp only [go_sem, ↓reduceIte, e0_1, e0_2, e0_4, e0_16, e0_17, e0_18, ms12_1, ms12_2, ms12_4, hS2, hS3, hlen, hg1, List.map_cons, List.getD_cons_zero, c15] <;> try rfl
            ·
              have hn1 : (1 : Int) < ((r.length + 1 : Nat) : Int) := by have := List.length_pos_iff.2 c15; omega
              refine aw_lreg {} rfl rfl fun K KP hK hP => ?_
              simp only [go_sem, ↓reduceIte, e0_1, e0_2, e0_4, e0_16, e0_17, e0_18, ms12_1, ms12_2, ms12_4, hS2, hS3, hlen, hg1, List.map_cons, List.getD_cons_zero, c15, hn1]
              apply hK; clear hK hP
              refine athen_normal.2 ?_
              refine ⟨rfl, ?_, ?_, ?_, ?_, ?_⟩
              · simp only [go_sem, ↓reduceIte, e0_1, e0_2, e0_4, e0_16, e0_17, e0_18, ms12_1, ms12_2, ms12_4, hS2, hS3, hlen, hg1, List.map_cons, List.getD_cons_zero, c15] <;> try rfl
              · simp only [go_sem, ↓reduceIte, e0_1, e0_2, e0_4, e0_16, e0_17, e0_18, ms12_1, ms12_2, ms12_4, hS2, hS3, hlen, hg1, List.map_cons, List.getD_cons_zero, c15] <;> try rfl
              · simp only [go_sem, ↓reduceIte, e0_1, e0_2, e0_4, e0_16, e0_17, e0_18, ms12_1, ms12_2, ms12_4, hS2, hS3, hlen, hg1, List.map_cons, List.getD_cons_zero, c15] <;> try rfl
              · simp only [go_sem, ↓reduceIte, e0_1, e0_2, e0_4, e0_16, e0_17, e0_18, ms12_1, ms12_2, ms12_4, hS2, hS3, hlen, hg1, List.map_cons, List.getD_cons_zero, c15] <;> try rfl
              · simp only [go_sem, ↓reduceIte, e0_1, e0_2, e0_4, e0_16, e0_17, e0_18, ms12_1, ms12_2, ms12_4, hS2, hS3, hlen, hg1, List.map_cons, List.getD_cons_zero, c15] <;> try rfl
          ·
            rintro ⟨envm15, σm15, nxm15⟩ ⟨hms15, m15_2, m15_8, m15_57, m15_58, m15_59⟩
            dsimp only at hms15  m15_2 m15_8 m15_57 m15_58 m15_59
            subst hms15
            refine aw_block ?_
            refine aw_loop' (fun dd st => ∃ (i : Nat) (n8 : Nat), (i ≤ r.length) ∧ r.length - i = dd ∧ (0, .cells 24 zeroRow) :: (σq ++ [(n8, .cells 24 ((r.take i).foldl (binF plusB) f0).cells)]) = st.σ ∧ st.env 2 = .ref 0 0 0 ∧ st.env 8 = .ref (σq.length + 1) n8 0 ∧ st.env 57 = (if r = [] then .vec 4 [] else .sref (q + 1) nm 4 1 r.length) ∧ st.env 58 = .int .i64 r.length ∧ st.env 59 = .int .i64 (i : Nat)) (fun dd st hJ => ?_) ?_
            ·
              obtain ⟨env2, σ2, nx2⟩ := st
              obtain ⟨i, n8, hp2_0, hd2, hs2, e2_2, e2_8, e2_57, e2_58, e2_59⟩ := hJ
              dsimp only at hs2  e2_2 e2_8 e2_57 e2_58 e2_59
              subst hd2; subst hs2
              refine aw_forget' (σq.length + 1 + 1) (by simp) ?_
              refine aw_sreg {} rfl rfl fun K KP hK hP => ?_
              simp only [go_sem, ↓reduceIte, e0_1, e0_2, e0_4, e0_16, e0_17, e0_18, ms12_1, ms12_2, ms12_4, hS2, hS3, hlen, hg1, List.map_cons, List.getD_cons_zero, m15_2, m15_8, m15_57, m15_58, m15_59, e2_2, e2_8, e2_57, e2_58, e2_59]
              apply hK; clear hK hP
              refine aw_seq ?_
              refine aw_if (i < r.length) (by simp only [go_sem, ↓reduceIte, e0_1, e0_2, e0_4, e0_16, e0_17, e0_18, ms12_1, ms12_2, ms12_4, hS2, hS3, hlen, hg1, List.map_cons, List.getD_cons_zero, m15_2, m15_8, m15_57, m15_58, m15_59, e2_2, e2_8, e2_57, e2_58, e2_59]) (fun h16 => ?_) (fun h16 => ?_)
              ·
                have hw1 : IntKind.wrap .i64 ((i : Int) + 1) = ((i + 1 : Nat) : Int) := by rw [wrap64 (by omega) (by omega)]; omega
                have hge : (f0.cells :: r.map Fm.cells)[1 + i]? = some r[i].cells := by rw [Nat.add_comm 1 i]; simp [h16]
                have hrne : ¬ r = [] := fun e => by rw [e] at h16; simp at h16
                refine aw_skip ?_
                refine athen_normal.2 ?_
                refine aw_seq ?_
                refine aw_block ?_
                refine aw_sreg {} rfl (by simp only [allocObjs, go_sem]; rfl) fun K KP hK hP => ?_
                simp only [go_sem, ↓reduceIte, e0_1, e0_2, e0_4, e0_16, e0_17, e0_18, ms12_1, ms12_2, ms12_4, hS2, hS3, hlen, hg1, List.map_cons, List.getD_cons_zero, m15_2, m15_8, m15_57, m15_58, m15_59, e2_2, e2_8, e2_57, e2_58, e2_59, h16, hw1, hge, hrne]
                apply hK; clear hK hP
                refine aw_lreg {} rfl rfl fun K KP hK hP => ?_
                simp only [go_sem, ↓reduceIte, e0_1, e0_2, e0_4, e0_16, e0_17, e0_18, ms12_1, ms12_2, ms12_4, hS2, hS3, hlen, hg1, List.map_cons, List.getD_cons_zero, m15_2, m15_8, m15_57, m15_58, m15_59, e2_2, e2_8, e2_57, e2_58, e2_59, h16, hw1, hge, hrne, List.replicate_succ]
                refine CallP.ret (of_call plusB false [(r.take i).foldl (binF plusB) f0, r[i]] (by simp)) (by simp only [go_sem, List.map_cons, List.map_nil, kidsA]) ?_
                try simp only [go_sem, ↓reduceIte, e0_1, e0_2, e0_4, e0_16, e0_17, e0_18, ms12_1, ms12_2, ms12_4, hS2, hS3, hlen, hg1, List.map_cons, List.getD_cons_zero, m15_2, m15_8, m15_57, m15_58, m15_59, e2_2, e2_8, e2_57, e2_58, e2_59, h16, hw1, hge, hrne, List.replicate_succ]
                apply hK; clear hK hP
                refine ablock_normal.2 ?_
                refine athen_normal.2 ?_
                refine aw_lreg {} rfl rfl fun K KP hK hP => ?_
                simp only [go_sem, ↓reduceIte, e0_1, e0_2, e0_4, e0_16, e0_17, e0_18, ms12_1, ms12_2, ms12_4, hS2, hS3, hlen, hg1, List.map_cons, List.getD_cons_zero, m15_2, m15_8, m15_57, m15_58, m15_59, e2_2, e2_8, e2_57, e2_58, e2_59, h16, hw1, hge, hrne]
                apply hK; clear hK hP
                refine afor_app ?_
                refine athen_normal.2 ?_
                refine ⟨_, ?_, i + 1, n8, ?_, rfl, ?_, ?_, ?_, ?_, ?_, ?_⟩
                · omega
                · first | omega | trivial | assumption
                · simp only [List.take_succ_eq_append_getElem h16, List.foldl_append, List.foldl_cons, List.foldl_nil]; simp [binF, cells_mk]
                · simp only [go_sem, ↓reduceIte, e0_1, e0_2, e0_4, e0_16, e0_17, e0_18, ms12_1, ms12_2, ms12_4, hS2, hS3, hlen, hg1, List.map_cons, List.getD_cons_zero, m15_2, m15_8, m15_57, m15_58, m15_59, e2_2, e2_8, e2_57, e2_58, e2_59, h16, hw1, hge, hrne] <;> try rfl
                · simp only [go_sem, ↓reduceIte, e0_1, e0_2, e0_4, e0_16, e0_17, e0_18, ms12_1, ms12_2, ms12_4, hS2, hS3, hlen, hg1, List.map_cons, List.getD_cons_zero, m15_2, m15_8, m15_57, m15_58, m15_59, e2_2, e2_8, e2_57, e2_58, e2_59, h16, hw1, hge, hrne] <;> try rfl
                · simp only [go_sem, ↓reduceIte, e0_1, e0_2, e0_4, e0_16, e0_17, e0_18, ms12_1, ms12_2, ms12_4, hS2, hS3, hlen, hg1, List.map_cons, List.getD_cons_zero, m15_2, m15_8, m15_57, m15_58, m15_59, e2_2, e2_8, e2_57, e2_58, e2_59, h16, hw1, hge, hrne] <;> try rfl
                · simp only [go_sem, ↓reduceIte, e0_1, e0_2, e0_4, e0_16, e0_17, e0_18, ms12_1, ms12_2, ms12_4, hS2, hS3, hlen, hg1, List.map_cons, List.getD_cons_zero, m15_2, m15_8, m15_57, m15_58, m15_59, e2_2, e2_8, e2_57, e2_58, e2_59, h16, hw1, hge, hrne] <;> try rfl
                · simp only [go_sem, ↓reduceIte, e0_1, e0_2, e0_4, e0_16, e0_17, e0_18, ms12_1, ms12_2, ms12_4, hS2, hS3, hlen, hg1, List.map_cons, List.getD_cons_zero, m15_2, m15_8, m15_57, m15_58, m15_59, e2_2, e2_8, e2_57, e2_58, e2_59, h16, hw1, hge, hrne] <;> try rfl
              ·
                refine aw_exit ?_
                refine athen_exit.2 ?_
                refine afor_app ?_
                refine athen_exit.2 ?_
                refine ablock_here ?_
                refine athen_normal.2 ?_
                refine aw_seq ?_
                have hi : i = r.length := by omega
                have hfin : (r.take i).foldl (binF plusB) f0 = termS ⟨k, nl, l⟩ := by rw [hts, hi, List.take_length]
                have hbo : (termS ⟨k, nl, l⟩).big ≤ 4611686018427387904 := by
                  have h1 := termL_big (s := ⟨k, nl, l⟩) hvb
                  rw [hfr] at h1
                  have h2 := bigL_max r 40020004 (fun f hf => h1 f (by simp [hf]))
                  have h3 := h1 f0 (by simp)
                  rw [hts, big_foldl]
                  have h4 : r.length * 40020004 ≤ 10000000000 * 40020004 := Nat.mul_le_mul_right _ hlr
                  omega
                rw [hfin]
                refine aw_sreg {} rfl rfl fun K KP hK hP => ?_
                simp only [go_sem, ↓reduceIte, e0_1, e0_2, e0_4, e0_16, e0_17, e0_18, ms12_1, ms12_2, ms12_4, hS2, hS3, hlen, hg1, List.map_cons, List.getD_cons_zero, m15_2, m15_8, m15_57, m15_58, m15_59, e2_2, e2_8, e2_57, e2_58, e2_59]
                refine CallP.ret (Valid_call _ hbo) (by simp only [go_sem]) ?_
                try simp only [go_sem, ↓reduceIte, e0_1, e0_2, e0_4, e0_16, e0_17, e0_18, ms12_1, ms12_2, ms12_4, hS2, hS3, hlen, hg1, List.map_cons, List.getD_cons_zero, m15_2, m15_8, m15_57, m15_58, m15_59, e2_2, e2_8, e2_57, e2_58, e2_59]
                apply hK; clear hK hP
                refine aw_if (¬ validF (termS ⟨k, nl, l⟩) = true) (by simp only [go_sem, ↓reduceIte, Nat.reduceEqDiff]; simp [validF]) (fun h20 => ?_) (fun h20 => ?_)
                ·
                  refine aw_sreg {} rfl rfl fun K KP hK hP => ?_
                  simp only [go_sem, ↓reduceIte, e0_1, e0_2, e0_4, e0_16, e0_17, e0_18, ms12_1, ms12_2, ms12_4, hS2, hS3, hlen, hg1, List.map_cons, List.getD_cons_zero, m15_2, m15_8, m15_57, m15_58, m15_59, e2_2, e2_8, e2_57, e2_58, e2_59]
                  apply hK; clear hK hP
                  refine aw_ret ?_
                  refine athen_ret.2 ?_
                  simp only [go_sem, ↓reduceIte, e0_1, e0_2, e0_4, e0_16, e0_17, e0_18, ms12_1, ms12_2, ms12_4, hS2, hS3, hlen, hg1, List.map_cons, List.getD_cons_zero, m15_2, m15_8, m15_57, m15_58, m15_59, e2_2, e2_8, e2_57, e2_58, e2_59, athen_ret] <;> (
                    simp [formE, termE, hv, h20, zeroF, go_sem, kidsA])
                ·
                  refine aw_skip ?_
                  refine athen_normal.2 ?_
                  refine aw_sreg {} rfl rfl fun K KP hK hP => ?_
                  simp only [go_sem, ↓reduceIte, e0_1, e0_2, e0_4, e0_16, e0_17, e0_18, ms12_1, ms12_2, ms12_4, hS2, hS3, hlen, hg1, List.map_cons, List.getD_cons_zero, m15_2, m15_8, m15_57, m15_58, m15_59, e2_2, e2_8, e2_57, e2_58, e2_59]
                  apply hK; clear hK hP
                  refine aw_ret ?_
                  simp only [go_sem, ↓reduceIte, e0_1, e0_2, e0_4, e0_16, e0_17, e0_18, ms12_1, ms12_2, ms12_4, hS2, hS3, hlen, hg1, List.map_cons, List.getD_cons_zero, m15_2, m15_8, m15_57, m15_58, m15_59, e2_2, e2_8, e2_57, e2_58, e2_59, athen_ret] <;> (
                    simp [formE, termE, hv, Classical.not_not.1 h20])
            ·
              refine ⟨_, 0, nxms12, ?_, rfl, ?_, ?_, ?_, ?_, ?_, ?_⟩
              · first | omega | trivial | assumption
              · first | rfl | (simp only [go_sem, ↓reduceIte, e0_1, e0_2, e0_4, e0_16, e0_17, e0_18, ms12_1, ms12_2, ms12_4, hS2, hS3, hlen, hg1, List.map_cons, List.getD_cons_zero, m15_2, m15_8, m15_57, m15_58, m15_59])
              · simp only [go_sem, ↓reduceIte, e0_1, e0_2, e0_4, e0_16, e0_17, e0_18, ms12_1, ms12_2, ms12_4, hS2, hS3, hlen, hg1, List.map_cons, List.getD_cons_zero, m15_2, m15_8, m15_57, m15_58, m15_59] <;> try rfl
              · simp only [go_sem, ↓reduceIte, e0_1, e0_2, e0_4, e0_16, e0_17, e0_18, ms12_1, ms12_2, ms12_4, hS2, hS3, hlen, hg1, List.map_cons, List.getD_cons_zero, m15_2, m15_8, m15_57, m15_58, m15_59] <;> try rfl
              · simp only [go_sem, ↓reduceIte, e0_1, e0_2, e0_4, e0_16, e0_17, e0_18, ms12_1, ms12_2, ms12_4, hS2, hS3, hlen, hg1, List.map_cons, List.getD_cons_zero, m15_2, m15_8, m15_57, m15_58, m15_59] <;> try rfl
              · simp only [go_sem, ↓reduceIte, e0_1, e0_2, e0_4, e0_16, e0_17, e0_18, ms12_1, ms12_2, ms12_4, hS2, hS3, hlen, hg1, List.map_cons, List.getD_cons_zero, m15_2, m15_8, m15_57, m15_58, m15_59] <;> try rfl
              · simp only [go_sem, ↓reduceIte, e0_1, e0_2, e0_4, e0_16, e0_17, e0_18, ms12_1, ms12_2, ms12_4, hS2, hS3, hlen, hg1, List.map_cons, List.getD_cons_zero, m15_2, m15_8, m15_57, m15_58, m15_59] <;> try rfl
    ·
      refine ⟨_, 0, .base (.slice none 0 0), [], ?_, ?_, rfl, ?_, ?_, ?_, ?_, ?_, ?_, ?_⟩
      · first | omega | trivial | assumption
      · exact .inl ⟨rfl, rfl⟩
      · first | rfl | (simp only [go_sem, ↓reduceIte])
      · simp only [go_sem, ↓reduceIte] <;> try rfl
      · simp only [go_sem, ↓reduceIte] <;> try rfl
      · simp only [go_sem, ↓reduceIte] <;> try rfl
      · simp only [go_sem, ↓reduceIte] <;> try rfl
      · simp only [go_sem, ↓reduceIte] <;> try rfl
      · simp only [go_sem, ↓reduceIte] <;> try rfl
end Go.Ab
