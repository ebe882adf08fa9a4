/-
  THE REFERENCE's sums added.
-/
import Derived.Test.YtmompmackgknbaaDoorF17
set_option linter.unusedVariables false
set_option linter.unusedSimpArgs false
set_option maxRecDepth 100000
namespace Go.Ab
open Go Go.RowKit Go.Proofs

/-- How the rows of a slice that grows lie, behind two objects. -/
def held2 (esz ety : Nat) (rows : List (List AV)) (v : AV) (σr : Sto) : Prop := (rows = [] ∧ v = .base (.slice none 0 0)) ∨ ∃ q nm, rows ≠ [] ∧ v = .sref (q + 1 + 1) nm esz 0 rows.length ∧ σr[q]? = some (nm, .gvec esz ety rows)
theorem held2.app {esz ety : Nat} {rows : List (List AV)} {v : AV} {σr : Sto} (h : held2 esz ety rows v σr) (l : Sto) : held2 esz ety rows v (σr ++ l) := by
  rcases h with h | ⟨q, nm, h1, h2, h3⟩
  · exact .inl h
  · exact .inr ⟨q, nm, h1, h2, by rw [List.getElem?_append_left (List.getElem?_eq_some_iff.1 h3).1]; exact h3⟩
theorem held2.nil {esz ety : Nat} {rows : List (List AV)} {v : AV} {σr : Sto} (h : held2 esz ety rows v σr) (hr : rows = []) : v = .base (.slice none 0 0) := by
  rcases h with h | ⟨q, nm, h1, h2, h3⟩
  · exact h.2
  · exact absurd hr h1
theorem held2.some {esz ety : Nat} {rows : List (List AV)} {v : AV} {σr : Sto} (h : held2 esz ety rows v σr) (hr : rows ≠ []) : ∃ q nm, v = .sref (q + 1 + 1) nm esz 0 rows.length ∧ (∀ (l : Sto), sget (σr ++ l) q nm = some (.gvec esz ety rows)) ∧ sget σr q nm = some (.gvec esz ety rows) ∧
    ∀ (l : Sto) (nm' : Nat) (rows' : List (List AV)) , rows' ≠ [] → held2 esz ety rows' (.sref (q + 1 + 1) nm' esz 0 rows'.length) ((σr ++ l).set q (nm', .gvec esz ety rows')) := by
  rcases h with h | ⟨q, nm, h1, h2, h3⟩
  · exact absurd h.1 hr
  · have hq := (List.getElem?_eq_some_iff.1 h3).1
    refine ⟨q, nm, h2, fun l => ?_, ?_, fun l nm' rows' hne => .inr ⟨q, nm', hne, rfl, ?_⟩⟩
    · unfold sget; rw [List.getElem?_append_left hq, h3]; simp
    · unfold sget; rw [h3]; simp
    · rw [List.getElem?_set, if_pos rfl, if_pos (by simp; omega)]
theorem held2.new {esz ety : Nat} {rows : List (List AV)} (hne : rows ≠ []) (σr : Sto) (nm : Nat) : held2 esz ety rows (.sref (σr.length + 1 + 1) nm esz 0 rows.length) (σr ++ [(nm, .gvec esz ety rows)]) :=
  .inr ⟨σr.length, nm, hne, rfl, by simp⟩
def takeR (l' : List Pt) (f : Int) (o : Int) (j : Nat) (c : Int) (t : Fm) (c' : Int) (t' : Fm) (j' : Nat) (ok : Bool) : Prop := (o < 0 → c' = c ∧ t' = t ∧ j' = j ∧ ok = true) ∧ (0 ≤ o → ∃ h : j < l'.length, c' = c + (timesS l'[j].c f).getD 0 ∧ t' = l'[j].t ∧ j' = j + 1 ∧ ok = ((timesS l'[j].c f).bind fun x => wholeS (c + x)).isSome)
theorem takeR_ok {l' : List Pt} {f o : Int} {j : Nat} {c : Int} {t : Fm} {c' : Int} {t' : Fm} {j' : Nat} (h : takeR l' f o j c t c' t' j' true) : takeB l' f o j c t c' t' j' := by
  refine ⟨fun ho => ⟨(h.1 ho).1, (h.1 ho).2.1, (h.1 ho).2.2.1⟩, fun ho => ?_⟩
  obtain ⟨hj, e1, e2, e3, e4⟩ := h.2 ho
  obtain ⟨y, hy⟩ := Option.isSome_iff_exists.1 e4.symm
  obtain ⟨x, h1, h2⟩ := Option.bind_eq_some_iff.1 hy
  have := wholeS_some h2
  rw [h1] at e1
  simp only [Option.getD_some] at e1
  exact ⟨hj, x, h1, by rw [h2, e1, this.1], e2, e3⟩
theorem takeR_adv {l l' : List Pt} {f : Int} {o c c' : Int} {t t' : Fm} {i j i' j' : Nat} {ok : Bool} (ha : takeA l o i c t i') (hb : takeR l' f o j c t c' t' j' ok) (hi : i ≤ l.length) (hj : j ≤ l'.length) : i ≤ i' ∧ i' ≤ l.length ∧ j ≤ j' ∧ j' ≤ l'.length ∧ (i < i' ∨ j < j') := by
  rcases Int.lt_trichotomy o 0 with h | h | h
  · obtain ⟨hi, rfl, rfl, rfl⟩ := ha.1 (by omega)
    obtain ⟨rfl, rfl, rfl, _⟩ := hb.1 h
    omega
  · obtain ⟨hi, rfl, rfl, rfl⟩ := ha.1 (by omega)
    obtain ⟨hj, e1, rfl, rfl, _⟩ := hb.2 (by omega)
    omega
  · obtain ⟨rfl, rfl, rfl⟩ := ha.2 h
    obtain ⟨hj, e1, rfl, rfl, _⟩ := hb.2 (by omega)
    omega
theorem times_getD (a b : Int) : -1152921504606846976 ≤ (timesS a b).getD 0 ∧ (timesS a b).getD 0 ≤ 1152921504606846976 := by
  cases h : timesS a b with
  | none => simp
  | some x => have := timesS_some h; simp only [Option.getD_some]; omega
theorem whole_isSome (n : Int) : (wholeS n).isSome = within n := by
  unfold wholeS within
  split
  · rename_i h; rw [Bool.eq_iff_iff]; simp; omega
  · rename_i h; rw [Bool.eq_iff_iff]; simp; omega
/-- What the reference's sum tells. -/
def sumR (a b : Sm) (f : Int) (o : AOut) : Prop := ∃ s : Sm, o = .ret (.tup [s.av, .bool (plusS a b f).isSome]) ∧ ∀ r, plusS a b f = some r → s = r
theorem refSum_call (a b : Sm) (f : Int) (ha : a.fit) (hb : b.fit) (hf : -9223372036854775808 ≤ f) (hf' : f ≤ 9223372036854775807) : PCall CX 47 [a.av, b.av, .int .i64 f] (sumR a b f) := by
  obtain ⟨k, nl, l⟩ := a
  obtain ⟨k', nl', l'⟩ := b
  obtain ⟨⟨hk1, hk2⟩, hc, ht, hn⟩ := ha
  obtain ⟨⟨hk1', hk2'⟩, hc', ht', hn'⟩ := hb
  simp only at hk1 hk2 hc ht hn hk1' hk2' hc' ht' hn'
  have htm := refTimes_call k' f (by omega) (by omega) hf hf'
  have hgd := times_getD k' f
  have hok0 : ∀ b : Bool, b = ((timesS k' f).bind fun x => wholeS (k + x)).isSome → (b = true → plusS ⟨k, nl, l⟩ ⟨k', nl', l'⟩ f = (mergeL f l l').map fun o => ⟨k + (timesS k' f).getD 0, true, o⟩) ∧ (b = false → plusS ⟨k, nl, l⟩ ⟨k', nl', l'⟩ f = none) := by
    rintro b rfl
    refine ⟨fun h => ?_, fun h => ?_⟩
    · obtain ⟨y, hy⟩ := Option.isSome_iff_exists.1 h
      obtain ⟨x, h1, h2⟩ := Option.bind_eq_some_iff.1 hy
      have := wholeS_some h2
      simp [plusS, h1, h2, this.1]
    · have h2 : ((timesS k' f).bind fun x => wholeS (k + x)) = none := by simpa using h
      cases hx : timesS k' f with
      | none => simp [plusS, hx]
      | some x => rw [hx] at h2; simp only [Option.bind_some] at h2; simp [plusS, hx, h2]
  refine pcall_mk 3 129 [.cell 6 39, .tmp 7] Tryd.func47 rfl (by decide) rfl rfl rfl ?_
  simp only [go_sem]
  refine aw_sreg {} rfl (by simp only [allocObjs, go_sem]; rfl) fun K KP hK hP => ?_
  simp only [go_sem, ↓reduceIte]
  apply hK; clear hK hP
  refine aw_sreg {} rfl rfl fun K KP hK hP => ?_
  simp only [go_sem, ↓reduceIte, timesR]
  refine CallP.ret htm (by simp only [go_sem]) ?_
  try simp only [go_sem, ↓reduceIte, timesR]
  apply hK; clear hK hP
  have hwx : IntKind.wrap .i64 (k + (timesS k' f).getD 0) = k + (timesS k' f).getD 0 := wrap64 (by omega) (by omega)
  refine aw_sreg {} rfl (by simp only [allocObjs, go_sem]; rfl) fun K KP hK hP => ?_
  simp only [go_sem, ↓reduceIte, hwx]
  apply hK; clear hK hP
  refine aw_sregB {} 29 34 9 (.bool ((timesS k' f).bind fun x => wholeS (k + x)).isSome) rfl rfl rfl (fun K KP hK hP => ?_) (fun junk3 => ?_)
  ·
    by_cases c3_0 : ¬ (timesS k' f).isSome = true
    ·
      simp only [go_sem, ↓reduceIte, c3_0, show (timesS k' f).isSome = false by simpa using c3_0]
      refine hK _ (by first | rfl | (simp only [go_sem, ↓reduceIte, c3_0, show (timesS k' f).isSome = false by simpa using c3_0])) rfl ?_
      have hnn : timesS k' f = none := by simpa using c3_0
      simp only [go_sem, ↓reduceIte, Nat.reduceEqDiff]; simp [hnn]
    ·
      replace c3_0 := Classical.not_not.1 c3_0
      simp only [go_sem, ↓reduceIte, c3_0]
      refine CallP.ret (small34_call _) (by simp only [go_sem]) ?_
      try simp only [go_sem, ↓reduceIte, c3_0]
      refine hK _ (by first | rfl | (simp only [go_sem, ↓reduceIte, c3_0])) rfl ?_
      obtain ⟨x, hx⟩ := Option.isSome_iff_exists.1 c3_0
      simp only [go_sem, ↓reduceIte, Nat.reduceEqDiff]; simp [hx, whole_isSome]
  ·
    refine aw_sreg {} rfl rfl fun K KP hK hP => ?_
    simp only [go_sem, ↓reduceIte]
    apply hK; clear hK hP
    refine aw_seq ?_
    refine aw_block ?_
    refine aw_loop' (fun dd st => ∃ (i j : Nat) (out : List Pt) (tv : AV) (σr : Sto) (okb : Bool), (i ≤ l.length) ∧ (j ≤ l'.length) ∧ (okb = true → plusS ⟨k, nl, l⟩ ⟨k', nl', l'⟩ f = (mergeL f (l.drop i) (l'.drop j)).map (fun o => ⟨k + (timesS k' f).getD 0, true, out ++ o⟩)) ∧ (okb = false → plusS ⟨k, nl, l⟩ ⟨k', nl', l'⟩ f = none) ∧ (held2 5 71 (out.map Pt.row) tv σr) ∧ (out.length ≤ i + j) ∧ (l.length - i) + (l'.length - j) = dd ∧ (0, .cells 39 [.int .i64 0, .base (.slice none 0 0)]) :: (1, .cells 39 [.int .i64 (k + (timesS k' f).getD 0), tv]) :: σr = st.σ ∧ st.env 2 = .int .i64 f ∧ st.env 3 = .rptr [.int .i64 k, termsA nl (l.map Pt.row)] ∧ st.env 4 = .rptr [.int .i64 k', termsA nl' (l'.map Pt.row)] ∧ st.env 6 = .ref 0 0 0 ∧ st.env 10 = .ref 1 1 0 ∧ st.env 9 = .bool okb ∧ st.env 11 = .int .i64 (i : Nat) ∧ st.env 12 = .int .i64 (j : Nat)) (fun dd st hJ => ?_) ?_
    ·
      obtain ⟨env0, σ0, nx0⟩ := st
      obtain ⟨i, j, out, tv, σr, okb, hp0_0, hp0_1, hp0_2, hp0_3, hp0_4, hp0_5, hd0, hs0, e0_2, e0_3, e0_4, e0_6, e0_10, e0_9, e0_11, e0_12⟩ := hJ
      dsimp only at hs0  e0_2 e0_3 e0_4 e0_6 e0_10 e0_9 e0_11 e0_12
      subst hd0; subst hs0
      refine aw_seq ?_
      refine aw_sregB {} 35 48 49 (.bool (decide (okb = true ∧ (i < l.length ∨ j < l'.length)))) rfl rfl rfl (fun K KP hK hP => ?_) (fun junk5 => ?_)
      ·
        simp only [go_sem, ↓reduceIte, e0_2, e0_3, e0_4, e0_6, e0_10, e0_9, e0_11, e0_12]
        repeat' (first | (refine hK _ (by first | rfl | (simp only [go_sem, ↓reduceIte, e0_2, e0_3, e0_4, e0_6, e0_10, e0_9, e0_11, e0_12]; done) | (simp only [go_sem, ↓reduceIte, e0_2, e0_3, e0_4, e0_6, e0_10, e0_9, e0_11, e0_12, *]; done)) rfl ?_) | ((refine gsel_cases (fun h => ?_) (fun h => ?_) <;> (try simp only [Bool.not_eq_true', Bool.not_eq_false', Bool.not_not, decide_eq_true_eq, decide_eq_false_iff_not, ite_eq_left_iff, ite_eq_right_iff] at h)) <;> simp only [go_sem, ↓reduceIte, e0_2, e0_3, e0_4, e0_6, e0_10, e0_9, e0_11, e0_12, *]) | (simp only [go_sem, ↓reduceIte, e0_2, e0_3, e0_4, e0_6, e0_10, e0_9, e0_11, e0_12]))
        all_goals (
            try simp only [go_sem, ↓reduceIte, e0_2, e0_3, e0_4, e0_6, e0_10, e0_9, e0_11, e0_12]
            all_goals first | (simp_all [List.length_pos_iff]; done) | (simp_all; omega))
      ·
        refine aw_if (okb = true ∧ (i < l.length ∨ j < l'.length)) (by simp only [go_sem, ↓reduceIte, e0_2, e0_3, e0_4, e0_6, e0_10, e0_9, e0_11, e0_12]) (fun h5 => ?_) (fun h5 => ?_)
        ·
          obtain ⟨hokt, h3⟩ := h5
          subst hokt
          refine aw_skip ?_
          refine athen_normal.2 ?_
          refine aw_block ?_
          refine aw_sreg {} rfl rfl fun K KP hK hP => ?_
          simp only [go_sem, ↓reduceIte, e0_2, e0_3, e0_4, e0_6, e0_10, e0_9, e0_11, e0_12]
          apply hK; clear hK hP
          refine aw_mid (fun st => (0, .cells 39 [.int .i64 0, .base (.slice none 0 0)]) :: (1, .cells 39 [.int .i64 (k + (timesS k' f).getD 0), tv]) :: σr = st.σ ∧ st.env 2 = .int .i64 f ∧ st.env 3 = .rptr [.int .i64 k, termsA nl (l.map Pt.row)] ∧ st.env 4 = .rptr [.int .i64 k', termsA nl' (l'.map Pt.row)] ∧ st.env 6 = .ref 0 0 0 ∧ st.env 10 = .ref 1 1 0 ∧ st.env 9 = .bool true ∧ st.env 11 = .int .i64 (i : Nat) ∧ st.env 12 = .int .i64 (j : Nat) ∧ st.env 13 = .int .i64 (ordI l l' i j)) ?_ ?_
          ·
            refine aw_block ?_
            refine aw_sreg {} rfl rfl fun K KP hK hP => ?_
            simp only [go_sem, ↓reduceIte, e0_2, e0_3, e0_4, e0_6, e0_10, e0_9, e0_11, e0_12]
            apply hK; clear hK hP
            refine aw_if (i = l.length) (by simp only [go_sem, ↓reduceIte, e0_2, e0_3, e0_4, e0_6, e0_10, e0_9, e0_11, e0_12]) (fun h8 => ?_) (fun h8 => ?_)
            ·
              refine aw_lreg {} rfl rfl fun K KP hK hP => ?_
              simp only [go_sem, ↓reduceIte, e0_2, e0_3, e0_4, e0_6, e0_10, e0_9, e0_11, e0_12]
              apply hK; clear hK hP
              refine ablock_normal.2 ?_
              refine athen_normal.2 ?_
              refine ⟨rfl, ?_, ?_, ?_, ?_, ?_, ?_, ?_, ?_, ?_⟩
              · simp only [go_sem, ↓reduceIte, e0_2, e0_3, e0_4, e0_6, e0_10, e0_9, e0_11, e0_12] <;> try rfl
              · simp only [go_sem, ↓reduceIte, e0_2, e0_3, e0_4, e0_6, e0_10, e0_9, e0_11, e0_12] <;> try rfl
              · simp only [go_sem, ↓reduceIte, e0_2, e0_3, e0_4, e0_6, e0_10, e0_9, e0_11, e0_12] <;> try rfl
              · simp only [go_sem, ↓reduceIte, e0_2, e0_3, e0_4, e0_6, e0_10, e0_9, e0_11, e0_12] <;> try rfl
              · simp only [go_sem, ↓reduceIte, e0_2, e0_3, e0_4, e0_6, e0_10, e0_9, e0_11, e0_12] <;> try rfl
              · simp only [go_sem, ↓reduceIte, e0_2, e0_3, e0_4, e0_6, e0_10, e0_9, e0_11, e0_12] <;> try rfl
              · simp only [go_sem, ↓reduceIte, e0_2, e0_3, e0_4, e0_6, e0_10, e0_9, e0_11, e0_12] <;> try rfl
              · simp only [go_sem, ↓reduceIte, e0_2, e0_3, e0_4, e0_6, e0_10, e0_9, e0_11, e0_12] <;> try rfl
              · simp only [go_sem, ↓reduceIte, e0_2, e0_3, e0_4, e0_6, e0_10, e0_9, e0_11, e0_12] <;> (
                  rw [ord_end h8])
            ·
              refine aw_sreg {} rfl rfl fun K KP hK hP => ?_
              simp only [go_sem, ↓reduceIte, e0_2, e0_3, e0_4, e0_6, e0_10, e0_9, e0_11, e0_12]
              apply hK; clear hK hP
              refine aw_if (j = l'.length) (by simp only [go_sem, ↓reduceIte, e0_2, e0_3, e0_4, e0_6, e0_10, e0_9, e0_11, e0_12]) (fun h10 => ?_) (fun h10 => ?_)
              ·
                refine aw_lreg {} rfl rfl fun K KP hK hP => ?_
                simp only [go_sem, ↓reduceIte, e0_2, e0_3, e0_4, e0_6, e0_10, e0_9, e0_11, e0_12]
                apply hK; clear hK hP
                refine ablock_normal.2 ?_
                refine athen_normal.2 ?_
                refine ⟨rfl, ?_, ?_, ?_, ?_, ?_, ?_, ?_, ?_, ?_⟩
                · simp only [go_sem, ↓reduceIte, e0_2, e0_3, e0_4, e0_6, e0_10, e0_9, e0_11, e0_12] <;> try rfl
                · simp only [go_sem, ↓reduceIte, e0_2, e0_3, e0_4, e0_6, e0_10, e0_9, e0_11, e0_12] <;> try rfl
                · simp only [go_sem, ↓reduceIte, e0_2, e0_3, e0_4, e0_6, e0_10, e0_9, e0_11, e0_12] <;> try rfl
                · simp only [go_sem, ↓reduceIte, e0_2, e0_3, e0_4, e0_6, e0_10, e0_9, e0_11, e0_12] <;> try rfl
                · simp only [go_sem, ↓reduceIte, e0_2, e0_3, e0_4, e0_6, e0_10, e0_9, e0_11, e0_12] <;> try rfl
                · simp only [go_sem, ↓reduceIte, e0_2, e0_3, e0_4, e0_6, e0_10, e0_9, e0_11, e0_12] <;> try rfl
                · simp only [go_sem, ↓reduceIte, e0_2, e0_3, e0_4, e0_6, e0_10, e0_9, e0_11, e0_12] <;> try rfl
                · simp only [go_sem, ↓reduceIte, e0_2, e0_3, e0_4, e0_6, e0_10, e0_9, e0_11, e0_12] <;> try rfl
                · simp only [go_sem, ↓reduceIte, e0_2, e0_3, e0_4, e0_6, e0_10, e0_9, e0_11, e0_12] <;> (
                    rw [ord_end' (by omega) h10])
              ·
                have hi : i < l.length := by omega
                have hj : j < l'.length := by omega
                have hbi := ht _ (List.getElem_mem hi)
                refine aw_ldraw {} [] [0, 1, 0, 7, 15, 31, 0, 64, 0, 448, 960, 1984, 4095, 8191] mixed (by kernel_rfl) rfl rfl fun K KP hK hP => ?_
                simp only [go_sem, ↓reduceIte, e0_2, e0_3, e0_4, e0_6, e0_10, e0_9, e0_11, e0_12, hi, hj, getD_rows hi, getD_rows hj]
                refine CallP.ret (refCompare_call _ (by omega) _) (by simp only [go_sem]) ?_
                try simp only [go_sem, ↓reduceIte, e0_2, e0_3, e0_4, e0_6, e0_10, e0_9, e0_11, e0_12, hi, hj, getD_rows hi, getD_rows hj]
                apply hK; clear hK hP
                refine ablock_normal.2 ?_
                refine athen_normal.2 ?_
                refine ⟨rfl, ?_, ?_, ?_, ?_, ?_, ?_, ?_, ?_, ?_⟩
                · simp only [go_sem, ↓reduceIte, e0_2, e0_3, e0_4, e0_6, e0_10, e0_9, e0_11, e0_12, hi, hj, getD_rows hi, getD_rows hj] <;> try rfl
                · simp only [go_sem, ↓reduceIte, e0_2, e0_3, e0_4, e0_6, e0_10, e0_9, e0_11, e0_12, hi, hj, getD_rows hi, getD_rows hj] <;> try rfl
                · simp only [go_sem, ↓reduceIte, e0_2, e0_3, e0_4, e0_6, e0_10, e0_9, e0_11, e0_12, hi, hj, getD_rows hi, getD_rows hj] <;> try rfl
                · simp only [go_sem, ↓reduceIte, e0_2, e0_3, e0_4, e0_6, e0_10, e0_9, e0_11, e0_12, hi, hj, getD_rows hi, getD_rows hj] <;> try rfl
                · simp only [go_sem, ↓reduceIte, e0_2, e0_3, e0_4, e0_6, e0_10, e0_9, e0_11, e0_12, hi, hj, getD_rows hi, getD_rows hj] <;> try rfl
                · simp only [go_sem, ↓reduceIte, e0_2, e0_3, e0_4, e0_6, e0_10, e0_9, e0_11, e0_12, hi, hj, getD_rows hi, getD_rows hj] <;> try rfl
                · simp only [go_sem, ↓reduceIte, e0_2, e0_3, e0_4, e0_6, e0_10, e0_9, e0_11, e0_12, hi, hj, getD_rows hi, getD_rows hj] <;> try rfl
                · simp only [go_sem, ↓reduceIte, e0_2, e0_3, e0_4, e0_6, e0_10, e0_9, e0_11, e0_12, hi, hj, getD_rows hi, getD_rows hj] <;> try rfl
                · simp only [go_sem, ↓reduceIte, e0_2, e0_3, e0_4, e0_6, e0_10, e0_9, e0_11, e0_12, hi, hj, getD_rows hi, getD_rows hj] <;> (
                    rw [ord_in hi hj])
          ·
            rintro ⟨envmb2, σmb2, nxmb2⟩ ⟨hmsb2, mb2_2, mb2_3, mb2_4, mb2_6, mb2_10, mb2_9, mb2_11, mb2_12, mb2_13⟩
            dsimp only at hmsb2  mb2_2 mb2_3 mb2_4 mb2_6 mb2_10 mb2_9 mb2_11 mb2_12 mb2_13
            subst hmsb2
            refine aw_sreg {} rfl (by simp only [allocObjs, go_sem]; rfl) fun K KP hK hP => ?_
            simp only [go_sem, ↓reduceIte, e0_2, e0_3, e0_4, e0_6, e0_10, e0_9, e0_11, e0_12, mb2_2, mb2_3, mb2_4, mb2_6, mb2_10, mb2_9, mb2_11, mb2_12, mb2_13]
            apply hK; clear hK hP
            refine aw_mid (fun st => ∃ (c : Int) (tf : Fm) (iq : Nat) (n14 : Nat), (takeA l (ordI l l' i j) i c tf iq) ∧ (0, .cells 39 [.int .i64 0, .base (.slice none 0 0)]) :: (1, .cells 39 [.int .i64 (k + (timesS k' f).getD 0), tv]) :: (σr ++ [(n14, .cells 71 (.int .i64 c :: tf.cells))]) = st.σ ∧ st.env 2 = .int .i64 f ∧ st.env 3 = .rptr [.int .i64 k, termsA nl (l.map Pt.row)] ∧ st.env 4 = .rptr [.int .i64 k', termsA nl' (l'.map Pt.row)] ∧ st.env 6 = .ref 0 0 0 ∧ st.env 10 = .ref 1 1 0 ∧ st.env 9 = .bool true ∧ st.env 11 = .int .i64 (iq : Nat) ∧ st.env 12 = .int .i64 (j : Nat) ∧ st.env 13 = .int .i64 (ordI l l' i j) ∧ st.env 14 = .ref (σr.length + 1 + 1) n14 0) ?_ ?_
            ·
              refine aw_sreg {} rfl rfl fun K KP hK hP => ?_
              simp only [go_sem, ↓reduceIte, e0_2, e0_3, e0_4, e0_6, e0_10, e0_9, e0_11, e0_12, mb2_2, mb2_3, mb2_4, mb2_6, mb2_10, mb2_9, mb2_11, mb2_12, mb2_13]
              apply hK; clear hK hP
              refine aw_if (ordI l l' i j ≤ 0) (by simp only [go_sem, ↓reduceIte, e0_2, e0_3, e0_4, e0_6, e0_10, e0_9, e0_11, e0_12, mb2_2, mb2_3, mb2_4, mb2_6, mb2_10, mb2_9, mb2_11, mb2_12, mb2_13]) (fun h13 => ?_) (fun h13 => ?_)
              ·
                have hi := ord_le_lt h13 hp0_0
                have hw1 : IntKind.wrap .i64 ((i : Int) + 1) = ((i + 1 : Nat) : Int) := by rw [wrap64 (by omega) (by omega)]; omega
                refine aw_sreg {} rfl rfl fun K KP hK hP => ?_
                simp only [go_sem, ↓reduceIte, e0_2, e0_3, e0_4, e0_6, e0_10, e0_9, e0_11, e0_12, mb2_2, mb2_3, mb2_4, mb2_6, mb2_10, mb2_9, mb2_11, mb2_12, mb2_13, hi, getD_rows hi, hw1]
                apply hK; clear hK hP
                refine aw_lreg {} rfl rfl fun K KP hK hP => ?_
                simp only [go_sem, ↓reduceIte, e0_2, e0_3, e0_4, e0_6, e0_10, e0_9, e0_11, e0_12, mb2_2, mb2_3, mb2_4, mb2_6, mb2_10, mb2_9, mb2_11, mb2_12, mb2_13, hi, getD_rows hi, hw1]
                apply hK; clear hK hP
                refine athen_normal.2 ?_
                refine ⟨l[i].c, l[i].t, i + 1, nxmb2, ?_, rfl, ?_, ?_, ?_, ?_, ?_, ?_, ?_, ?_, ?_, ?_⟩
                · exact ⟨fun _ => ⟨hi, rfl, rfl, rfl⟩, fun h => absurd h (by omega)⟩
                · simp only [go_sem, ↓reduceIte, e0_2, e0_3, e0_4, e0_6, e0_10, e0_9, e0_11, e0_12, mb2_2, mb2_3, mb2_4, mb2_6, mb2_10, mb2_9, mb2_11, mb2_12, mb2_13, hi, getD_rows hi, hw1] <;> try rfl
                · simp only [go_sem, ↓reduceIte, e0_2, e0_3, e0_4, e0_6, e0_10, e0_9, e0_11, e0_12, mb2_2, mb2_3, mb2_4, mb2_6, mb2_10, mb2_9, mb2_11, mb2_12, mb2_13, hi, getD_rows hi, hw1] <;> try rfl
                · simp only [go_sem, ↓reduceIte, e0_2, e0_3, e0_4, e0_6, e0_10, e0_9, e0_11, e0_12, mb2_2, mb2_3, mb2_4, mb2_6, mb2_10, mb2_9, mb2_11, mb2_12, mb2_13, hi, getD_rows hi, hw1] <;> try rfl
                · simp only [go_sem, ↓reduceIte, e0_2, e0_3, e0_4, e0_6, e0_10, e0_9, e0_11, e0_12, mb2_2, mb2_3, mb2_4, mb2_6, mb2_10, mb2_9, mb2_11, mb2_12, mb2_13, hi, getD_rows hi, hw1] <;> try rfl
                · simp only [go_sem, ↓reduceIte, e0_2, e0_3, e0_4, e0_6, e0_10, e0_9, e0_11, e0_12, mb2_2, mb2_3, mb2_4, mb2_6, mb2_10, mb2_9, mb2_11, mb2_12, mb2_13, hi, getD_rows hi, hw1] <;> try rfl
                · simp only [go_sem, ↓reduceIte, e0_2, e0_3, e0_4, e0_6, e0_10, e0_9, e0_11, e0_12, mb2_2, mb2_3, mb2_4, mb2_6, mb2_10, mb2_9, mb2_11, mb2_12, mb2_13, hi, getD_rows hi, hw1] <;> try rfl
                · simp only [go_sem, ↓reduceIte, e0_2, e0_3, e0_4, e0_6, e0_10, e0_9, e0_11, e0_12, mb2_2, mb2_3, mb2_4, mb2_6, mb2_10, mb2_9, mb2_11, mb2_12, mb2_13, hi, getD_rows hi, hw1] <;> try rfl
                · simp only [go_sem, ↓reduceIte, e0_2, e0_3, e0_4, e0_6, e0_10, e0_9, e0_11, e0_12, mb2_2, mb2_3, mb2_4, mb2_6, mb2_10, mb2_9, mb2_11, mb2_12, mb2_13, hi, getD_rows hi, hw1] <;> try rfl
                · simp only [go_sem, ↓reduceIte, e0_2, e0_3, e0_4, e0_6, e0_10, e0_9, e0_11, e0_12, mb2_2, mb2_3, mb2_4, mb2_6, mb2_10, mb2_9, mb2_11, mb2_12, mb2_13, hi, getD_rows hi, hw1] <;> try rfl
                · simp only [go_sem, ↓reduceIte, e0_2, e0_3, e0_4, e0_6, e0_10, e0_9, e0_11, e0_12, mb2_2, mb2_3, mb2_4, mb2_6, mb2_10, mb2_9, mb2_11, mb2_12, mb2_13, hi, getD_rows hi, hw1] <;> try rfl
              ·
                refine aw_skip ?_
                refine athen_normal.2 ?_
                refine ⟨0, zeroF, i, nxmb2, ?_, rfl, ?_, ?_, ?_, ?_, ?_, ?_, ?_, ?_, ?_, ?_⟩
                · exact ⟨fun h => absurd h (by omega), fun _ => ⟨rfl, rfl, rfl⟩⟩
                · simp only [go_sem, ↓reduceIte, e0_2, e0_3, e0_4, e0_6, e0_10, e0_9, e0_11, e0_12, mb2_2, mb2_3, mb2_4, mb2_6, mb2_10, mb2_9, mb2_11, mb2_12, mb2_13] <;> try rfl
                · simp only [go_sem, ↓reduceIte, e0_2, e0_3, e0_4, e0_6, e0_10, e0_9, e0_11, e0_12, mb2_2, mb2_3, mb2_4, mb2_6, mb2_10, mb2_9, mb2_11, mb2_12, mb2_13] <;> try rfl
                · simp only [go_sem, ↓reduceIte, e0_2, e0_3, e0_4, e0_6, e0_10, e0_9, e0_11, e0_12, mb2_2, mb2_3, mb2_4, mb2_6, mb2_10, mb2_9, mb2_11, mb2_12, mb2_13] <;> try rfl
                · simp only [go_sem, ↓reduceIte, e0_2, e0_3, e0_4, e0_6, e0_10, e0_9, e0_11, e0_12, mb2_2, mb2_3, mb2_4, mb2_6, mb2_10, mb2_9, mb2_11, mb2_12, mb2_13] <;> try rfl
                · simp only [go_sem, ↓reduceIte, e0_2, e0_3, e0_4, e0_6, e0_10, e0_9, e0_11, e0_12, mb2_2, mb2_3, mb2_4, mb2_6, mb2_10, mb2_9, mb2_11, mb2_12, mb2_13] <;> try rfl
                · simp only [go_sem, ↓reduceIte, e0_2, e0_3, e0_4, e0_6, e0_10, e0_9, e0_11, e0_12, mb2_2, mb2_3, mb2_4, mb2_6, mb2_10, mb2_9, mb2_11, mb2_12, mb2_13] <;> try rfl
                · simp only [go_sem, ↓reduceIte, e0_2, e0_3, e0_4, e0_6, e0_10, e0_9, e0_11, e0_12, mb2_2, mb2_3, mb2_4, mb2_6, mb2_10, mb2_9, mb2_11, mb2_12, mb2_13] <;> try rfl
                · simp only [go_sem, ↓reduceIte, e0_2, e0_3, e0_4, e0_6, e0_10, e0_9, e0_11, e0_12, mb2_2, mb2_3, mb2_4, mb2_6, mb2_10, mb2_9, mb2_11, mb2_12, mb2_13] <;> try rfl
                · simp only [go_sem, ↓reduceIte, e0_2, e0_3, e0_4, e0_6, e0_10, e0_9, e0_11, e0_12, mb2_2, mb2_3, mb2_4, mb2_6, mb2_10, mb2_9, mb2_11, mb2_12, mb2_13] <;> try rfl
                · simp only [go_sem, ↓reduceIte, e0_2, e0_3, e0_4, e0_6, e0_10, e0_9, e0_11, e0_12, mb2_2, mb2_3, mb2_4, mb2_6, mb2_10, mb2_9, mb2_11, mb2_12, mb2_13] <;> try rfl
            ·
              rintro ⟨envms13, σms13, nxms13⟩ ⟨c, tf, iq, n14, hms13_0, hmss13, ms13_2, ms13_3, ms13_4, ms13_6, ms13_10, ms13_9, ms13_11, ms13_12, ms13_13, ms13_14⟩
              dsimp only at hmss13  ms13_2 ms13_3 ms13_4 ms13_6 ms13_10 ms13_9 ms13_11 ms13_12 ms13_13 ms13_14
              subst hmss13
              refine aw_mid (fun st => ∃ (cq : Int) (tq : Fm) (jq : Nat) (okq : Bool), (takeR l' f (ordI l l' i j) j c tf cq tq jq okq) ∧ (0, .cells 39 [.int .i64 0, .base (.slice none 0 0)]) :: (1, .cells 39 [.int .i64 (k + (timesS k' f).getD 0), tv]) :: (σr ++ [(n14, .cells 71 (.int .i64 cq :: tq.cells))]) = st.σ ∧ st.env 2 = .int .i64 f ∧ st.env 3 = .rptr [.int .i64 k, termsA nl (l.map Pt.row)] ∧ st.env 4 = .rptr [.int .i64 k', termsA nl' (l'.map Pt.row)] ∧ st.env 6 = .ref 0 0 0 ∧ st.env 10 = .ref 1 1 0 ∧ st.env 9 = .bool okq ∧ st.env 11 = .int .i64 (iq : Nat) ∧ st.env 12 = .int .i64 (jq : Nat) ∧ st.env 14 = .ref (σr.length + 1 + 1) n14 0) ?_ ?_
              ·
                refine aw_sreg {} rfl rfl fun K KP hK hP => ?_
                simp only [go_sem, ↓reduceIte, e0_2, e0_3, e0_4, e0_6, e0_10, e0_9, e0_11, e0_12, mb2_2, mb2_3, mb2_4, mb2_6, mb2_10, mb2_9, mb2_11, mb2_12, mb2_13, ms13_2, ms13_3, ms13_4, ms13_6, ms13_10, ms13_9, ms13_11, ms13_12, ms13_13, ms13_14]
                apply hK; clear hK hP
                refine aw_if (0 ≤ ordI l l' i j) (by simp only [go_sem, ↓reduceIte, e0_2, e0_3, e0_4, e0_6, e0_10, e0_9, e0_11, e0_12, mb2_2, mb2_3, mb2_4, mb2_6, mb2_10, mb2_9, mb2_11, mb2_12, mb2_13, ms13_2, ms13_3, ms13_4, ms13_6, ms13_10, ms13_9, ms13_11, ms13_12, ms13_13, ms13_14]) (fun h16 => ?_) (fun h16 => ?_)
                ·
                  have hj := ord_ge_lt h16 h3 hp0_1
                  have hwj : IntKind.wrap .i64 ((j : Int) + 1) = ((j + 1 : Nat) : Int) := by rw [wrap64 (by omega) (by omega)]; omega
                  have hcj := hc' _ (List.getElem_mem hj)
                  have htj := refTimes_call l'[j].c f (by omega) (by omega) hf hf'
                  have hgj := times_getD l'[j].c f
                  have hcb : -1152921504606846976 ≤ c ∧ c ≤ 1152921504606846976 := by
                    by_cases ho : ordI l l' i j ≤ 0
                    · obtain ⟨hi, e, _⟩ := hms13_0.1 ho; rw [e]; exact hc _ (List.getElem_mem hi)
                    · rw [(hms13_0.2 (by omega)).1]; omega
                  have hwy : IntKind.wrap .i64 (c + (timesS l'[j].c f).getD 0) = c + (timesS l'[j].c f).getD 0 := wrap64 (by omega) (by omega)
                  refine aw_sreg {} rfl rfl fun K KP hK hP => ?_
                  simp only [go_sem, ↓reduceIte, e0_2, e0_3, e0_4, e0_6, e0_10, e0_9, e0_11, e0_12, mb2_2, mb2_3, mb2_4, mb2_6, mb2_10, mb2_9, mb2_11, mb2_12, mb2_13, ms13_2, ms13_3, ms13_4, ms13_6, ms13_10, ms13_9, ms13_11, ms13_12, ms13_13, ms13_14, hj, getD_rows hj, hwj, hwy, timesR]
                  refine CallP.ret htj (by simp only [go_sem]) ?_
                  try simp only [go_sem, ↓reduceIte, e0_2, e0_3, e0_4, e0_6, e0_10, e0_9, e0_11, e0_12, mb2_2, mb2_3, mb2_4, mb2_6, mb2_10, mb2_9, mb2_11, mb2_12, mb2_13, ms13_2, ms13_3, ms13_4, ms13_6, ms13_10, ms13_9, ms13_11, ms13_12, ms13_13, ms13_14, hj, getD_rows hj, hwj, hwy, timesR]
                  apply hK; clear hK hP
                  refine aw_sregB {} 97 104 9 (.bool ((timesS l'[j].c f).bind fun x => wholeS (c + x)).isSome) rfl rfl rfl (fun K KP hK hP => ?_) (fun junk18 => ?_)
                  ·
                    by_cases c18_0 : ¬ (timesS l'[j].c f).isSome = true
                    ·
                      simp only [go_sem, ↓reduceIte, e0_2, e0_3, e0_4, e0_6, e0_10, e0_9, e0_11, e0_12, mb2_2, mb2_3, mb2_4, mb2_6, mb2_10, mb2_9, mb2_11, mb2_12, mb2_13, ms13_2, ms13_3, ms13_4, ms13_6, ms13_10, ms13_9, ms13_11, ms13_12, ms13_13, ms13_14, hj, getD_rows hj, hwj, hwy, c18_0, show (timesS l'[j].c f).isSome = false by simpa using c18_0]
                      refine hK _ (by first | rfl | (simp only [go_sem, ↓reduceIte, e0_2, e0_3, e0_4, e0_6, e0_10, e0_9, e0_11, e0_12, mb2_2, mb2_3, mb2_4, mb2_6, mb2_10, mb2_9, mb2_11, mb2_12, mb2_13, ms13_2, ms13_3, ms13_4, ms13_6, ms13_10, ms13_9, ms13_11, ms13_12, ms13_13, ms13_14, hj, getD_rows hj, hwj, hwy, c18_0, show (timesS l'[j].c f).isSome = false by simpa using c18_0])) rfl ?_
                      have hnn : timesS l'[j].c f = none := by simpa using c18_0
                      simp only [go_sem, ↓reduceIte, Nat.reduceEqDiff]; simp [hnn]
                    ·
                      replace c18_0 := Classical.not_not.1 c18_0
                      simp only [go_sem, ↓reduceIte, e0_2, e0_3, e0_4, e0_6, e0_10, e0_9, e0_11, e0_12, mb2_2, mb2_3, mb2_4, mb2_6, mb2_10, mb2_9, mb2_11, mb2_12, mb2_13, ms13_2, ms13_3, ms13_4, ms13_6, ms13_10, ms13_9, ms13_11, ms13_12, ms13_13, ms13_14, hj, getD_rows hj, hwj, hwy, c18_0]
                      refine CallP.ret (small34_call _) (by simp only [go_sem]) ?_
                      try simp only [go_sem, ↓reduceIte, e0_2, e0_3, e0_4, e0_6, e0_10, e0_9, e0_11, e0_12, mb2_2, mb2_3, mb2_4, mb2_6, mb2_10, mb2_9, mb2_11, mb2_12, mb2_13, ms13_2, ms13_3, ms13_4, ms13_6, ms13_10, ms13_9, ms13_11, ms13_12, ms13_13, ms13_14, hj, getD_rows hj, hwj, hwy, c18_0]
                      refine hK _ (by first | rfl | (simp only [go_sem, ↓reduceIte, e0_2, e0_3, e0_4, e0_6, e0_10, e0_9, e0_11, e0_12, mb2_2, mb2_3, mb2_4, mb2_6, mb2_10, mb2_9, mb2_11, mb2_12, mb2_13, ms13_2, ms13_3, ms13_4, ms13_6, ms13_10, ms13_9, ms13_11, ms13_12, ms13_13, ms13_14, hj, getD_rows hj, hwj, hwy, c18_0])) rfl ?_
                      obtain ⟨x, hx⟩ := Option.isSome_iff_exists.1 c18_0
                      simp only [go_sem, ↓reduceIte, Nat.reduceEqDiff]; simp [hx, whole_isSome]
                  ·
                    refine aw_sdraw {} [] [0, 1, 0, 7, 0, 16, 0, 112, 240, 496, 1023, 2047] mixed (by kernel_rfl) rfl rfl fun K KP hK hP => ?_
                    simp only [go_sem, ↓reduceIte, e0_2, e0_3, e0_4, e0_6, e0_10, e0_9, e0_11, e0_12, mb2_2, mb2_3, mb2_4, mb2_6, mb2_10, mb2_9, mb2_11, mb2_12, mb2_13, ms13_2, ms13_3, ms13_4, ms13_6, ms13_10, ms13_9, ms13_11, ms13_12, ms13_13, ms13_14, hj, getD_rows hj, hwj, hwy]
                    apply hK; clear hK hP
                    refine aw_lreg {} rfl rfl fun K KP hK hP => ?_
                    simp only [go_sem, ↓reduceIte, e0_2, e0_3, e0_4, e0_6, e0_10, e0_9, e0_11, e0_12, mb2_2, mb2_3, mb2_4, mb2_6, mb2_10, mb2_9, mb2_11, mb2_12, mb2_13, ms13_2, ms13_3, ms13_4, ms13_6, ms13_10, ms13_9, ms13_11, ms13_12, ms13_13, ms13_14, hj, getD_rows hj, hwj, hwy]
                    apply hK; clear hK hP
                    refine athen_normal.2 ?_
                    refine ⟨c + (timesS l'[j].c f).getD 0, l'[j].t, j + 1, ((timesS l'[j].c f).bind fun x => wholeS (c + x)).isSome, ?_, rfl, ?_, ?_, ?_, ?_, ?_, ?_, ?_, ?_, ?_⟩
                    · exact ⟨fun h => absurd h (by omega), fun _ => ⟨hj, rfl, rfl, rfl, rfl⟩⟩
                    · simp only [go_sem, ↓reduceIte, e0_2, e0_3, e0_4, e0_6, e0_10, e0_9, e0_11, e0_12, mb2_2, mb2_3, mb2_4, mb2_6, mb2_10, mb2_9, mb2_11, mb2_12, mb2_13, ms13_2, ms13_3, ms13_4, ms13_6, ms13_10, ms13_9, ms13_11, ms13_12, ms13_13, ms13_14, hj, getD_rows hj, hwj, hwy] <;> try rfl
                    · simp only [go_sem, ↓reduceIte, e0_2, e0_3, e0_4, e0_6, e0_10, e0_9, e0_11, e0_12, mb2_2, mb2_3, mb2_4, mb2_6, mb2_10, mb2_9, mb2_11, mb2_12, mb2_13, ms13_2, ms13_3, ms13_4, ms13_6, ms13_10, ms13_9, ms13_11, ms13_12, ms13_13, ms13_14, hj, getD_rows hj, hwj, hwy] <;> try rfl
                    · simp only [go_sem, ↓reduceIte, e0_2, e0_3, e0_4, e0_6, e0_10, e0_9, e0_11, e0_12, mb2_2, mb2_3, mb2_4, mb2_6, mb2_10, mb2_9, mb2_11, mb2_12, mb2_13, ms13_2, ms13_3, ms13_4, ms13_6, ms13_10, ms13_9, ms13_11, ms13_12, ms13_13, ms13_14, hj, getD_rows hj, hwj, hwy] <;> try rfl
                    · simp only [go_sem, ↓reduceIte, e0_2, e0_3, e0_4, e0_6, e0_10, e0_9, e0_11, e0_12, mb2_2, mb2_3, mb2_4, mb2_6, mb2_10, mb2_9, mb2_11, mb2_12, mb2_13, ms13_2, ms13_3, ms13_4, ms13_6, ms13_10, ms13_9, ms13_11, ms13_12, ms13_13, ms13_14, hj, getD_rows hj, hwj, hwy] <;> try rfl
                    · simp only [go_sem, ↓reduceIte, e0_2, e0_3, e0_4, e0_6, e0_10, e0_9, e0_11, e0_12, mb2_2, mb2_3, mb2_4, mb2_6, mb2_10, mb2_9, mb2_11, mb2_12, mb2_13, ms13_2, ms13_3, ms13_4, ms13_6, ms13_10, ms13_9, ms13_11, ms13_12, ms13_13, ms13_14, hj, getD_rows hj, hwj, hwy] <;> try rfl
                    · simp only [go_sem, ↓reduceIte, e0_2, e0_3, e0_4, e0_6, e0_10, e0_9, e0_11, e0_12, mb2_2, mb2_3, mb2_4, mb2_6, mb2_10, mb2_9, mb2_11, mb2_12, mb2_13, ms13_2, ms13_3, ms13_4, ms13_6, ms13_10, ms13_9, ms13_11, ms13_12, ms13_13, ms13_14, hj, getD_rows hj, hwj, hwy] <;> try rfl
                    · simp only [go_sem, ↓reduceIte, e0_2, e0_3, e0_4, e0_6, e0_10, e0_9, e0_11, e0_12, mb2_2, mb2_3, mb2_4, mb2_6, mb2_10, mb2_9, mb2_11, mb2_12, mb2_13, ms13_2, ms13_3, ms13_4, ms13_6, ms13_10, ms13_9, ms13_11, ms13_12, ms13_13, ms13_14, hj, getD_rows hj, hwj, hwy] <;> try rfl
                    · simp only [go_sem, ↓reduceIte, e0_2, e0_3, e0_4, e0_6, e0_10, e0_9, e0_11, e0_12, mb2_2, mb2_3, mb2_4, mb2_6, mb2_10, mb2_9, mb2_11, mb2_12, mb2_13, ms13_2, ms13_3, ms13_4, ms13_6, ms13_10, ms13_9, ms13_11, ms13_12, ms13_13, ms13_14, hj, getD_rows hj, hwj, hwy] <;> try rfl
                    · simp only [go_sem, ↓reduceIte, e0_2, e0_3, e0_4, e0_6, e0_10, e0_9, e0_11, e0_12, mb2_2, mb2_3, mb2_4, mb2_6, mb2_10, mb2_9, mb2_11, mb2_12, mb2_13, ms13_2, ms13_3, ms13_4, ms13_6, ms13_10, ms13_9, ms13_11, ms13_12, ms13_13, ms13_14, hj, getD_rows hj, hwj, hwy] <;> try rfl
                ·
                  refine aw_skip ?_
                  refine athen_normal.2 ?_
                  refine ⟨c, tf, j, true, ?_, rfl, ?_, ?_, ?_, ?_, ?_, ?_, ?_, ?_, ?_⟩
                  · exact ⟨fun _ => ⟨rfl, rfl, rfl, rfl⟩, fun h => absurd h (by omega)⟩
                  · simp only [go_sem, ↓reduceIte, e0_2, e0_3, e0_4, e0_6, e0_10, e0_9, e0_11, e0_12, mb2_2, mb2_3, mb2_4, mb2_6, mb2_10, mb2_9, mb2_11, mb2_12, mb2_13, ms13_2, ms13_3, ms13_4, ms13_6, ms13_10, ms13_9, ms13_11, ms13_12, ms13_13, ms13_14] <;> try rfl
                  · simp only [go_sem, ↓reduceIte, e0_2, e0_3, e0_4, e0_6, e0_10, e0_9, e0_11, e0_12, mb2_2, mb2_3, mb2_4, mb2_6, mb2_10, mb2_9, mb2_11, mb2_12, mb2_13, ms13_2, ms13_3, ms13_4, ms13_6, ms13_10, ms13_9, ms13_11, ms13_12, ms13_13, ms13_14] <;> try rfl
                  · simp only [go_sem, ↓reduceIte, e0_2, e0_3, e0_4, e0_6, e0_10, e0_9, e0_11, e0_12, mb2_2, mb2_3, mb2_4, mb2_6, mb2_10, mb2_9, mb2_11, mb2_12, mb2_13, ms13_2, ms13_3, ms13_4, ms13_6, ms13_10, ms13_9, ms13_11, ms13_12, ms13_13, ms13_14] <;> try rfl
                  · simp only [go_sem, ↓reduceIte, e0_2, e0_3, e0_4, e0_6, e0_10, e0_9, e0_11, e0_12, mb2_2, mb2_3, mb2_4, mb2_6, mb2_10, mb2_9, mb2_11, mb2_12, mb2_13, ms13_2, ms13_3, ms13_4, ms13_6, ms13_10, ms13_9, ms13_11, ms13_12, ms13_13, ms13_14] <;> try rfl
                  · simp only [go_sem, ↓reduceIte, e0_2, e0_3, e0_4, e0_6, e0_10, e0_9, e0_11, e0_12, mb2_2, mb2_3, mb2_4, mb2_6, mb2_10, mb2_9, mb2_11, mb2_12, mb2_13, ms13_2, ms13_3, ms13_4, ms13_6, ms13_10, ms13_9, ms13_11, ms13_12, ms13_13, ms13_14] <;> try rfl
                  · simp only [go_sem, ↓reduceIte, e0_2, e0_3, e0_4, e0_6, e0_10, e0_9, e0_11, e0_12, mb2_2, mb2_3, mb2_4, mb2_6, mb2_10, mb2_9, mb2_11, mb2_12, mb2_13, ms13_2, ms13_3, ms13_4, ms13_6, ms13_10, ms13_9, ms13_11, ms13_12, ms13_13, ms13_14] <;> try rfl
                  · simp only [go_sem, ↓reduceIte, e0_2, e0_3, e0_4, e0_6, e0_10, e0_9, e0_11, e0_12, mb2_2, mb2_3, mb2_4, mb2_6, mb2_10, mb2_9, mb2_11, mb2_12, mb2_13, ms13_2, ms13_3, ms13_4, ms13_6, ms13_10, ms13_9, ms13_11, ms13_12, ms13_13, ms13_14] <;> try rfl
                  · simp only [go_sem, ↓reduceIte, e0_2, e0_3, e0_4, e0_6, e0_10, e0_9, e0_11, e0_12, mb2_2, mb2_3, mb2_4, mb2_6, mb2_10, mb2_9, mb2_11, mb2_12, mb2_13, ms13_2, ms13_3, ms13_4, ms13_6, ms13_10, ms13_9, ms13_11, ms13_12, ms13_13, ms13_14] <;> try rfl
                  · simp only [go_sem, ↓reduceIte, e0_2, e0_3, e0_4, e0_6, e0_10, e0_9, e0_11, e0_12, mb2_2, mb2_3, mb2_4, mb2_6, mb2_10, mb2_9, mb2_11, mb2_12, mb2_13, ms13_2, ms13_3, ms13_4, ms13_6, ms13_10, ms13_9, ms13_11, ms13_12, ms13_13, ms13_14] <;> try rfl
              ·
                rintro ⟨envms16, σms16, nxms16⟩ ⟨cq, tq, jq, okq, hms16_0, hmss16, ms16_2, ms16_3, ms16_4, ms16_6, ms16_10, ms16_9, ms16_11, ms16_12, ms16_14⟩
                dsimp only at hmss16  ms16_2 ms16_3 ms16_4 ms16_6 ms16_10 ms16_9 ms16_11 ms16_12 ms16_14
                subst hmss16
                have hadv := takeR_adv hms13_0 hms16_0 hp0_0 hp0_1
                have hst : okq = true → mergeL f (l.drop i) (l'.drop j) = (mergeL f (l.drop iq) (l'.drop jq)).map (consP cq tq) := by
                  rintro rfl; exact merge_step f rfl hms13_0 (takeR_ok hms16_0)
                have hsn : okq = false → plusS ⟨k, nl, l⟩ ⟨k', nl', l'⟩ f = none := by
                  rintro rfl
                  have hge : 0 ≤ ordI l l' i j := by
                    rcases Int.lt_or_le (ordI l l' i j) 0 with h | h
                    · have := (hms16_0.1 h).2.2.2; cases this
                    · exact h
                  obtain ⟨hj, _, _, _, e⟩ := hms16_0.2 hge
                  have hno := merge_none f rfl hms13_0 hge hj (by simpa using e.symm)
                  rw [hp0_2 rfl, hno]; rfl
                have hlim : (out.length + 1) * 64 ≤ limB := by unfold limB; omega
                have hlim1 : 64 ≤ limB := by decide
                have hli : out.length + 1 ≤ 4611686018427387904 := by omega
                refine aw_sreg {} rfl rfl fun K KP hK hP => ?_
                simp only [go_sem, ↓reduceIte, e0_2, e0_3, e0_4, e0_6, e0_10, e0_9, e0_11, e0_12, mb2_2, mb2_3, mb2_4, mb2_6, mb2_10, mb2_9, mb2_11, mb2_12, mb2_13, ms13_2, ms13_3, ms13_4, ms13_6, ms13_10, ms13_9, ms13_11, ms13_12, ms13_13, ms13_14, ms16_2, ms16_3, ms16_4, ms16_6, ms16_10, ms16_9, ms16_11, ms16_12, ms16_14, hlim, hlim1, hli]
                apply hK; clear hK hP
                refine aw_if (¬ cq = 0) (by simp only [go_sem, ↓reduceIte, e0_2, e0_3, e0_4, e0_6, e0_10, e0_9, e0_11, e0_12, mb2_2, mb2_3, mb2_4, mb2_6, mb2_10, mb2_9, mb2_11, mb2_12, mb2_13, ms13_2, ms13_3, ms13_4, ms13_6, ms13_10, ms13_9, ms13_11, ms13_12, ms13_13, ms13_14, ms16_2, ms16_3, ms16_4, ms16_6, ms16_10, ms16_9, ms16_11, ms16_12, ms16_14, hlim, hlim1, hli]) (fun h21 => ?_) (fun h21 => ?_)
                ·
                  by_cases c22 : out = []
                  ·
                    have htv := hp0_4.nil (by simp [c22])
                    subst htv
                    refine aw_lreg {} rfl rfl fun K KP hK hP => ?_
                    simp only [go_sem, ↓reduceIte, e0_2, e0_3, e0_4, e0_6, e0_10, e0_9, e0_11, e0_12, mb2_2, mb2_3, mb2_4, mb2_6, mb2_10, mb2_9, mb2_11, mb2_12, mb2_13, ms13_2, ms13_3, ms13_4, ms13_6, ms13_10, ms13_9, ms13_11, ms13_12, ms13_13, ms13_14, ms16_2, ms16_3, ms16_4, ms16_6, ms16_10, ms16_9, ms16_11, ms16_12, ms16_14, hlim, hlim1, hli, c22, List.replicate_succ]
                    apply hK; clear hK hP
                    refine ablock_normal.2 ?_
                    refine athen_normal.2 ?_
                    refine ⟨_, ?_, iq, jq, out ++ [⟨cq, tq⟩], .sref ((σr ++ [(n14, AObj.cells 71 (.int .i64 cq :: tq.cells))]).length + 1 + 1) nxms16 5 0 1, (σr ++ [(n14, .cells 71 (.int .i64 cq :: tq.cells))]) ++ [(nxms16, .gvec 5 71 [Pt.row ⟨cq, tq⟩])], okq, ?_, ?_, ?_, ?_, ?_, ?_, rfl, ?_, ?_, ?_, ?_, ?_, ?_, ?_, ?_, ?_⟩
                    · omega
                    · first | omega | trivial | assumption
                    · first | omega | trivial | assumption
                    · intro hq; rw [hp0_2 rfl, hst hq, Option.map_map]; congr 1; funext r; simp [consP, h21]
                    · exact hsn
                    · have := held2.new (esz := 5) (ety := 71) (rows := [Pt.row ⟨cq, tq⟩]) (by simp) (σr ++ [(n14, .cells 71 (.int .i64 cq :: tq.cells))]) nxms16
                      simpa [c22] using this
                    · simp; omega
                    · simp [Pt.row]
                    · simp only [go_sem, ↓reduceIte, e0_2, e0_3, e0_4, e0_6, e0_10, e0_9, e0_11, e0_12, mb2_2, mb2_3, mb2_4, mb2_6, mb2_10, mb2_9, mb2_11, mb2_12, mb2_13, ms13_2, ms13_3, ms13_4, ms13_6, ms13_10, ms13_9, ms13_11, ms13_12, ms13_13, ms13_14, ms16_2, ms16_3, ms16_4, ms16_6, ms16_10, ms16_9, ms16_11, ms16_12, ms16_14, hlim, hlim1, hli, c22] <;> try rfl
                    · simp only [go_sem, ↓reduceIte, e0_2, e0_3, e0_4, e0_6, e0_10, e0_9, e0_11, e0_12, mb2_2, mb2_3, mb2_4, mb2_6, mb2_10, mb2_9, mb2_11, mb2_12, mb2_13, ms13_2, ms13_3, ms13_4, ms13_6, ms13_10, ms13_9, ms13_11, ms13_12, ms13_13, ms13_14, ms16_2, ms16_3, ms16_4, ms16_6, ms16_10, ms16_9, ms16_11, ms16_12, ms16_14, hlim, hlim1, hli, c22] <;> try rfl
                    · simp only [go_sem, ↓reduceIte, e0_2, e0_3, e0_4, e0_6, e0_10, e0_9, e0_11, e0_12, mb2_2, mb2_3, mb2_4, mb2_6, mb2_10, mb2_9, mb2_11, mb2_12, mb2_13, ms13_2, ms13_3, ms13_4, ms13_6, ms13_10, ms13_9, ms13_11, ms13_12, ms13_13, ms13_14, ms16_2, ms16_3, ms16_4, ms16_6, ms16_10, ms16_9, ms16_11, ms16_12, ms16_14, hlim, hlim1, hli, c22] <;> try rfl
                    · simp only [go_sem, ↓reduceIte, e0_2, e0_3, e0_4, e0_6, e0_10, e0_9, e0_11, e0_12, mb2_2, mb2_3, mb2_4, mb2_6, mb2_10, mb2_9, mb2_11, mb2_12, mb2_13, ms13_2, ms13_3, ms13_4, ms13_6, ms13_10, ms13_9, ms13_11, ms13_12, ms13_13, ms13_14, ms16_2, ms16_3, ms16_4, ms16_6, ms16_10, ms16_9, ms16_11, ms16_12, ms16_14, hlim, hlim1, hli, c22] <;> try rfl
                    · simp only [go_sem, ↓reduceIte, e0_2, e0_3, e0_4, e0_6, e0_10, e0_9, e0_11, e0_12, mb2_2, mb2_3, mb2_4, mb2_6, mb2_10, mb2_9, mb2_11, mb2_12, mb2_13, ms13_2, ms13_3, ms13_4, ms13_6, ms13_10, ms13_9, ms13_11, ms13_12, ms13_13, ms13_14, ms16_2, ms16_3, ms16_4, ms16_6, ms16_10, ms16_9, ms16_11, ms16_12, ms16_14, hlim, hlim1, hli, c22] <;> try rfl
                    · simp only [go_sem, ↓reduceIte, e0_2, e0_3, e0_4, e0_6, e0_10, e0_9, e0_11, e0_12, mb2_2, mb2_3, mb2_4, mb2_6, mb2_10, mb2_9, mb2_11, mb2_12, mb2_13, ms13_2, ms13_3, ms13_4, ms13_6, ms13_10, ms13_9, ms13_11, ms13_12, ms13_13, ms13_14, ms16_2, ms16_3, ms16_4, ms16_6, ms16_10, ms16_9, ms16_11, ms16_12, ms16_14, hlim, hlim1, hli, c22] <;> try rfl
                    · simp only [go_sem, ↓reduceIte, e0_2, e0_3, e0_4, e0_6, e0_10, e0_9, e0_11, e0_12, mb2_2, mb2_3, mb2_4, mb2_6, mb2_10, mb2_9, mb2_11, mb2_12, mb2_13, ms13_2, ms13_3, ms13_4, ms13_6, ms13_10, ms13_9, ms13_11, ms13_12, ms13_13, ms13_14, ms16_2, ms16_3, ms16_4, ms16_6, ms16_10, ms16_9, ms16_11, ms16_12, ms16_14, hlim, hlim1, hli, c22] <;> try rfl
                    · simp only [go_sem, ↓reduceIte, e0_2, e0_3, e0_4, e0_6, e0_10, e0_9, e0_11, e0_12, mb2_2, mb2_3, mb2_4, mb2_6, mb2_10, mb2_9, mb2_11, mb2_12, mb2_13, ms13_2, ms13_3, ms13_4, ms13_6, ms13_10, ms13_9, ms13_11, ms13_12, ms13_13, ms13_14, ms16_2, ms16_3, ms16_4, ms16_6, ms16_10, ms16_9, ms16_11, ms16_12, ms16_14, hlim, hlim1, hli, c22] <;> try rfl
                  ·
                    obtain ⟨q, nm, htv, hS2, hS3, hset⟩ := hp0_4.some (by simpa using c22)
                    rw [List.length_map] at htv
                    subst htv
                    refine aw_lreg {} rfl rfl fun K KP hK hP => ?_
                    simp only [go_sem, ↓reduceIte, e0_2, e0_3, e0_4, e0_6, e0_10, e0_9, e0_11, e0_12, mb2_2, mb2_3, mb2_4, mb2_6, mb2_10, mb2_9, mb2_11, mb2_12, mb2_13, ms13_2, ms13_3, ms13_4, ms13_6, ms13_10, ms13_9, ms13_11, ms13_12, ms13_13, ms13_14, ms16_2, ms16_3, ms16_4, ms16_6, ms16_10, ms16_9, ms16_11, ms16_12, ms16_14, hlim, hlim1, hli, c22, List.replicate_succ, hS2, hS3, List.length_map]
                    apply hK; clear hK hP
                    refine ablock_normal.2 ?_
                    refine athen_normal.2 ?_
                    refine ⟨_, ?_, iq, jq, out ++ [⟨cq, tq⟩], .sref (q + 1 + 1) nxms16 5 0 (out.length + 1), (σr ++ [(n14, AObj.cells 71 (.int .i64 cq :: tq.cells))]).set q (nxms16, .gvec 5 71 (out.map Pt.row ++ [Pt.row ⟨cq, tq⟩])), okq, ?_, ?_, ?_, ?_, ?_, ?_, rfl, ?_, ?_, ?_, ?_, ?_, ?_, ?_, ?_, ?_⟩
                    · omega
                    · first | omega | trivial | assumption
                    · first | omega | trivial | assumption
                    · intro hq; rw [hp0_2 rfl, hst hq, Option.map_map]; congr 1; funext r; simp [consP, h21]
                    · exact hsn
                    · have := hset [(n14, .cells 71 (.int .i64 cq :: tq.cells))] nxms16 (out.map Pt.row ++ [Pt.row ⟨cq, tq⟩]) (by simp)
                      simpa using this
                    · simp; omega
                    · simp [Pt.row, take_pts]
                    · simp only [go_sem, ↓reduceIte, e0_2, e0_3, e0_4, e0_6, e0_10, e0_9, e0_11, e0_12, mb2_2, mb2_3, mb2_4, mb2_6, mb2_10, mb2_9, mb2_11, mb2_12, mb2_13, ms13_2, ms13_3, ms13_4, ms13_6, ms13_10, ms13_9, ms13_11, ms13_12, ms13_13, ms13_14, ms16_2, ms16_3, ms16_4, ms16_6, ms16_10, ms16_9, ms16_11, ms16_12, ms16_14, hlim, hlim1, hli, c22] <;> try rfl
                    · simp only [go_sem, ↓reduceIte, e0_2, e0_3, e0_4, e0_6, e0_10, e0_9, e0_11, e0_12, mb2_2, mb2_3, mb2_4, mb2_6, mb2_10, mb2_9, mb2_11, mb2_12, mb2_13, ms13_2, ms13_3, ms13_4, ms13_6, ms13_10, ms13_9, ms13_11, ms13_12, ms13_13, ms13_14, ms16_2, ms16_3, ms16_4, ms16_6, ms16_10, ms16_9, ms16_11, ms16_12, ms16_14, hlim, hlim1, hli, c22] <;> try rfl
                    · simp only [go_sem, ↓reduceIte, e0_2, e0_3, e0_4, e0_6, e0_10, e0_9, e0_11, e0_12, mb2_2, mb2_3, mb2_4, mb2_6, mb2_10, mb2_9, mb2_11, mb2_12, mb2_13, ms13_2, ms13_3, ms13_4, ms13_6, ms13_10, ms13_9, ms13_11, ms13_12, ms13_13, ms13_14, ms16_2, ms16_3, ms16_4, ms16_6, ms16_10, ms16_9, ms16_11, ms16_12, ms16_14, hlim, hlim1, hli, c22] <;> try rfl
                    · simp only [go_sem, ↓reduceIte, e0_2, e0_3, e0_4, e0_6, e0_10, e0_9, e0_11, e0_12, mb2_2, mb2_3, mb2_4, mb2_6, mb2_10, mb2_9, mb2_11, mb2_12, mb2_13, ms13_2, ms13_3, ms13_4, ms13_6, ms13_10, ms13_9, ms13_11, ms13_12, ms13_13, ms13_14, ms16_2, ms16_3, ms16_4, ms16_6, ms16_10, ms16_9, ms16_11, ms16_12, ms16_14, hlim, hlim1, hli, c22] <;> try rfl
                    · simp only [go_sem, ↓reduceIte, e0_2, e0_3, e0_4, e0_6, e0_10, e0_9, e0_11, e0_12, mb2_2, mb2_3, mb2_4, mb2_6, mb2_10, mb2_9, mb2_11, mb2_12, mb2_13, ms13_2, ms13_3, ms13_4, ms13_6, ms13_10, ms13_9, ms13_11, ms13_12, ms13_13, ms13_14, ms16_2, ms16_3, ms16_4, ms16_6, ms16_10, ms16_9, ms16_11, ms16_12, ms16_14, hlim, hlim1, hli, c22] <;> try rfl
                    · simp only [go_sem, ↓reduceIte, e0_2, e0_3, e0_4, e0_6, e0_10, e0_9, e0_11, e0_12, mb2_2, mb2_3, mb2_4, mb2_6, mb2_10, mb2_9, mb2_11, mb2_12, mb2_13, ms13_2, ms13_3, ms13_4, ms13_6, ms13_10, ms13_9, ms13_11, ms13_12, ms13_13, ms13_14, ms16_2, ms16_3, ms16_4, ms16_6, ms16_10, ms16_9, ms16_11, ms16_12, ms16_14, hlim, hlim1, hli, c22] <;> try rfl
                    · simp only [go_sem, ↓reduceIte, e0_2, e0_3, e0_4, e0_6, e0_10, e0_9, e0_11, e0_12, mb2_2, mb2_3, mb2_4, mb2_6, mb2_10, mb2_9, mb2_11, mb2_12, mb2_13, ms13_2, ms13_3, ms13_4, ms13_6, ms13_10, ms13_9, ms13_11, ms13_12, ms13_13, ms13_14, ms16_2, ms16_3, ms16_4, ms16_6, ms16_10, ms16_9, ms16_11, ms16_12, ms16_14, hlim, hlim1, hli, c22] <;> try rfl
                    · simp only [go_sem, ↓reduceIte, e0_2, e0_3, e0_4, e0_6, e0_10, e0_9, e0_11, e0_12, mb2_2, mb2_3, mb2_4, mb2_6, mb2_10, mb2_9, mb2_11, mb2_12, mb2_13, ms13_2, ms13_3, ms13_4, ms13_6, ms13_10, ms13_9, ms13_11, ms13_12, ms13_13, ms13_14, ms16_2, ms16_3, ms16_4, ms16_6, ms16_10, ms16_9, ms16_11, ms16_12, ms16_14, hlim, hlim1, hli, c22] <;> try rfl
                ·
                  refine aw_skip ?_
                  refine ablock_normal.2 ?_
                  refine athen_normal.2 ?_
                  refine ⟨_, ?_, iq, jq, out, tv, σr ++ [(n14, .cells 71 (.int .i64 cq :: tq.cells))], okq, ?_, ?_, ?_, ?_, ?_, ?_, rfl, rfl, ?_, ?_, ?_, ?_, ?_, ?_, ?_, ?_⟩
                  · omega
                  · first | omega | trivial | assumption
                  · first | omega | trivial | assumption
                  · intro hq
                    rw [hp0_2 rfl, hst hq, Option.map_map]; congr 1; funext r; simp [consP, Classical.not_not.1 h21]
                  · exact hsn
                  · exact hp0_4.app _
                  · first | omega | trivial | assumption
                  · simp only [go_sem, ↓reduceIte, e0_2, e0_3, e0_4, e0_6, e0_10, e0_9, e0_11, e0_12, mb2_2, mb2_3, mb2_4, mb2_6, mb2_10, mb2_9, mb2_11, mb2_12, mb2_13, ms13_2, ms13_3, ms13_4, ms13_6, ms13_10, ms13_9, ms13_11, ms13_12, ms13_13, ms13_14, ms16_2, ms16_3, ms16_4, ms16_6, ms16_10, ms16_9, ms16_11, ms16_12, ms16_14, hlim, hlim1, hli] <;> try rfl
                  · simp only [go_sem, ↓reduceIte, e0_2, e0_3, e0_4, e0_6, e0_10, e0_9, e0_11, e0_12, mb2_2, mb2_3, mb2_4, mb2_6, mb2_10, mb2_9, mb2_11, mb2_12, mb2_13, ms13_2, ms13_3, ms13_4, ms13_6, ms13_10, ms13_9, ms13_11, ms13_12, ms13_13, ms13_14, ms16_2, ms16_3, ms16_4, ms16_6, ms16_10, ms16_9, ms16_11, ms16_12, ms16_14, hlim, hlim1, hli] <;> try rfl
                  · simp only [go_sem, ↓reduceIte, e0_2, e0_3, e0_4, e0_6, e0_10, e0_9, e0_11, e0_12, mb2_2, mb2_3, mb2_4, mb2_6, mb2_10, mb2_9, mb2_11, mb2_12, mb2_13, ms13_2, ms13_3, ms13_4, ms13_6, ms13_10, ms13_9, ms13_11, ms13_12, ms13_13, ms13_14, ms16_2, ms16_3, ms16_4, ms16_6, ms16_10, ms16_9, ms16_11, ms16_12, ms16_14, hlim, hlim1, hli] <;> try rfl
                  · simp only [go_sem, ↓reduceIte, e0_2, e0_3, e0_4, e0_6, e0_10, e0_9, e0_11, e0_12, mb2_2, mb2_3, mb2_4, mb2_6, mb2_10, mb2_9, mb2_11, mb2_12, mb2_13, ms13_2, ms13_3, ms13_4, ms13_6, ms13_10, ms13_9, ms13_11, ms13_12, ms13_13, ms13_14, ms16_2, ms16_3, ms16_4, ms16_6, ms16_10, ms16_9, ms16_11, ms16_12, ms16_14, hlim, hlim1, hli] <;> try rfl
                  · simp only [go_sem, ↓reduceIte, e0_2, e0_3, e0_4, e0_6, e0_10, e0_9, e0_11, e0_12, mb2_2, mb2_3, mb2_4, mb2_6, mb2_10, mb2_9, mb2_11, mb2_12, mb2_13, ms13_2, ms13_3, ms13_4, ms13_6, ms13_10, ms13_9, ms13_11, ms13_12, ms13_13, ms13_14, ms16_2, ms16_3, ms16_4, ms16_6, ms16_10, ms16_9, ms16_11, ms16_12, ms16_14, hlim, hlim1, hli] <;> try rfl
                  · simp only [go_sem, ↓reduceIte, e0_2, e0_3, e0_4, e0_6, e0_10, e0_9, e0_11, e0_12, mb2_2, mb2_3, mb2_4, mb2_6, mb2_10, mb2_9, mb2_11, mb2_12, mb2_13, ms13_2, ms13_3, ms13_4, ms13_6, ms13_10, ms13_9, ms13_11, ms13_12, ms13_13, ms13_14, ms16_2, ms16_3, ms16_4, ms16_6, ms16_10, ms16_9, ms16_11, ms16_12, ms16_14, hlim, hlim1, hli] <;> try rfl
                  · simp only [go_sem, ↓reduceIte, e0_2, e0_3, e0_4, e0_6, e0_10, e0_9, e0_11, e0_12, mb2_2, mb2_3, mb2_4, mb2_6, mb2_10, mb2_9, mb2_11, mb2_12, mb2_13, ms13_2, ms13_3, ms13_4, ms13_6, ms13_10, ms13_9, ms13_11, ms13_12, ms13_13, ms13_14, ms16_2, ms16_3, ms16_4, ms16_6, ms16_10, ms16_9, ms16_11, ms16_12, ms16_14, hlim, hlim1, hli] <;> try rfl
                  · simp only [go_sem, ↓reduceIte, e0_2, e0_3, e0_4, e0_6, e0_10, e0_9, e0_11, e0_12, mb2_2, mb2_3, mb2_4, mb2_6, mb2_10, mb2_9, mb2_11, mb2_12, mb2_13, ms13_2, ms13_3, ms13_4, ms13_6, ms13_10, ms13_9, ms13_11, ms13_12, ms13_13, ms13_14, ms16_2, ms16_3, ms16_4, ms16_6, ms16_10, ms16_9, ms16_11, ms16_12, ms16_14, hlim, hlim1, hli] <;> try rfl
        ·
          refine aw_exit ?_
          refine athen_exit.2 ?_
          refine athen_exit.2 ?_
          refine ablock_here ?_
          refine athen_normal.2 ?_
          by_cases c23 : out = []
          ·
            have htv := hp0_4.nil (by simp [c23])
            subst htv
            refine aw_sreg {} rfl rfl fun K KP hK hP => ?_
            simp only [go_sem, ↓reduceIte, e0_2, e0_3, e0_4, e0_6, e0_10, e0_9, e0_11, e0_12, c23]
            apply hK; clear hK hP
            refine aw_ret ?_
            have hend : okb = (plusS ⟨k, nl, l⟩ ⟨k', nl', l'⟩ f).isSome ∧ ∀ r, plusS ⟨k, nl, l⟩ ⟨k', nl', l'⟩ f = some r → (⟨k + (timesS k' f).getD 0, true, out⟩ : Sm) = r := by
              cases okb with
              | false => rw [hp0_3 rfl]; exact ⟨rfl, fun r h => by cases h⟩
              | true =>
                have hl1 : l.drop i = [] := List.drop_of_length_le (by
                  rcases Nat.lt_or_ge i l.length with h | h
                  · exact absurd ⟨rfl, .inl h⟩ h5
                  · exact h)
                have hl2 : l'.drop j = [] := List.drop_of_length_le (by
                  rcases Nat.lt_or_ge j l'.length with h | h
                  · exact absurd ⟨rfl, .inr h⟩ h5
                  · exact h)
                have h2 := hp0_2 rfl
                rw [hl1, hl2, mergeL_nn] at h2
                rw [h2]
                exact ⟨rfl, fun r h => by simpa using h⟩
            simp only [go_sem, ↓reduceIte, e0_2, e0_3, e0_4, e0_6, e0_10, e0_9, e0_11, e0_12, c23, athen_ret] <;> (
              refine ⟨⟨k + (timesS k' f).getD 0, true, out⟩, ?_, hend.2⟩
              rw [← hend.1]
              simp [c23, termsA, go_sem])
          ·
            obtain ⟨q, nm, htv, hS2, hS3, hset⟩ := hp0_4.some (by simpa using c23)
            rw [List.length_map] at htv
            subst htv
            refine aw_sreg {} rfl rfl fun K KP hK hP => ?_
            simp only [go_sem, ↓reduceIte, e0_2, e0_3, e0_4, e0_6, e0_10, e0_9, e0_11, e0_12, c23]
            apply hK; clear hK hP
            refine aw_ret ?_
            have hend : okb = (plusS ⟨k, nl, l⟩ ⟨k', nl', l'⟩ f).isSome ∧ ∀ r, plusS ⟨k, nl, l⟩ ⟨k', nl', l'⟩ f = some r → (⟨k + (timesS k' f).getD 0, true, out⟩ : Sm) = r := by
              cases okb with
              | false => rw [hp0_3 rfl]; exact ⟨rfl, fun r h => by cases h⟩
              | true =>
                have hl1 : l.drop i = [] := List.drop_of_length_le (by
                  rcases Nat.lt_or_ge i l.length with h | h
                  · exact absurd ⟨rfl, .inl h⟩ h5
                  · exact h)
                have hl2 : l'.drop j = [] := List.drop_of_length_le (by
                  rcases Nat.lt_or_ge j l'.length with h | h
                  · exact absurd ⟨rfl, .inr h⟩ h5
                  · exact h)
                have h2 := hp0_2 rfl
                rw [hl1, hl2, mergeL_nn] at h2
                rw [h2]
                exact ⟨rfl, fun r h => by simpa using h⟩
            simp only [go_sem, ↓reduceIte, e0_2, e0_3, e0_4, e0_6, e0_10, e0_9, e0_11, e0_12, c23, athen_ret, hS2, hS3, List.length_map] <;> (
              refine ⟨by simp only [List.map_id', go_sem], ⟨k + (timesS k' f).getD 0, true, out⟩, ?_, hend.2⟩
              rw [← hend.1]
              have htt : termsA true (out.map Pt.row) = .vec 5 (out.map Pt.row) := by cases out with | nil => exact absurd rfl c23 | cons => rfl
              simp [htt, go_sem])
    ·
      refine ⟨_, 0, 0, [], .base (.slice none 0 0), [], ((timesS k' f).bind fun x => wholeS (k + x)).isSome, ?_, ?_, ?_, ?_, ?_, ?_, rfl, ?_, ?_, ?_, ?_, ?_, ?_, ?_, ?_, ?_⟩
      · first | omega | trivial | assumption
      · first | omega | trivial | assumption
      · exact (hok0 _ rfl).1
      · exact (hok0 _ rfl).2
      · exact .inl ⟨rfl, rfl⟩
      · simp
      · first | rfl | (simp only [go_sem, ↓reduceIte])
      · simp only [go_sem, ↓reduceIte] <;> try rfl
      · simp only [go_sem, ↓reduceIte] <;> try rfl
      · simp only [go_sem, ↓reduceIte] <;> try rfl
      · simp only [go_sem, ↓reduceIte] <;> try rfl
      · simp only [go_sem, ↓reduceIte] <;> try rfl
      · simp only [go_sem, ↓reduceIte] <;> try rfl
      · simp only [go_sem, ↓reduceIte] <;> try rfl
      · simp only [go_sem, ↓reduceIte] <;> try rfl
end Go.Ab
