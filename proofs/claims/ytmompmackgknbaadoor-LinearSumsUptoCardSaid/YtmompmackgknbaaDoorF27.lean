/-
  WHAT LINEAR SUMS STATES: its contract.
-/
import Derived.Test.YtmompmackgknbaaDoorF26
import Derived.Test.YtmompmackgknbaaDoorF23
set_option linter.unusedVariables false
set_option linter.unusedSimpArgs false
set_option maxRecDepth 100000
namespace Go.Ab
open Go Go.RowKit Go.Proofs

def okSm (s : Sm) : Prop := (∀ p ∈ s.l, p.t.big ≤ 4611686018427387904) ∧ s.l.length ≤ 4611686018427387904
theorem okSm_nil : okSm nilS := ⟨fun p hp => (by cases hp), by decide⟩
theorem okSm_good {s : Sm} (h : GoodS (fun f => validF f = true) s) (hl : s.l.length ≤ 4611686018427387904) : okSm s :=
  ⟨fun p hp => by have := validF_big (h.1.ok p hp).2.2; omega, hl⟩
theorem ofE_ok (f : Fm) : okSm (ofE f).1 := by
  unfold ofE
  split
  · rename_i hv
    have hb := validF_big hv
    split
    · rename_i s hs
      have hg := ofS_good f hv s hs
      exact okSm_good (hg.1.mono fun f h => h.1) (by simp only; omega)
    · exact okSm_nil
  · exact okSm_nil
theorem rowsO_ok {P : Fm → Prop} {h : List UInt8} {nt : Bool} {a b : Option Sm} {rs : List Sm} (hr : rowsO h nt a b = some rs) (ha : ∀ s, a = some s → GoodS P s ∧ s.l.length ≤ 40020000) (hb : ∀ s, b = some s → GoodS P s ∧ s.l.length ≤ 40020000) : ∀ s ∈ rs, GoodS P s ∧ s.l.length ≤ 80040000 := by
  unfold rowsO at hr
  obtain ⟨x, hx, hr⟩ := Option.bind_eq_some_iff.1 hr
  obtain ⟨y, hy, hr⟩ := Option.bind_eq_some_iff.1 hr
  obtain ⟨lo, hlo, hr⟩ := Option.bind_eq_some_iff.1 hr
  obtain ⟨hi, hhi, hr⟩ := Option.bind_eq_some_iff.1 hr
  have gx := ha x hx
  have gy := hb y hy
  have glo := plusS_good hlo gx.1 gy.1
  have ghi := plusS_good hhi gy.1 gx.1
  have g1 : GoodS P oneS := ⟨Good.nil P, by decide⟩
  have l1 : oneS.l.length = 0 := rfl
  have bump : ∀ s t, bumpS s = some t → GoodS P s → s.l.length ≤ 80040000 → GoodS P t ∧ t.l.length ≤ 80040000 := by
    intro s t ht hg hl
    have := plusS_good ht hg g1
    exact ⟨this.1, by omega⟩
  have one : ∀ s (o : Option Sm), o.map (fun x => [x]) = some rs → s ∈ rs → o = some s := by
    intro s o h hs
    obtain ⟨t, ht, rfl⟩ := Option.map_eq_some_iff.1 h
    rw [List.mem_singleton.1 hs]; exact ht
  have klo : GoodS P lo ∧ lo.l.length ≤ 80040000 := ⟨glo.1, by omega⟩
  have khi : GoodS P hi ∧ hi.l.length ≤ 80040000 := ⟨ghi.1, by omega⟩
  intro s hs
  split at hr
  · cases hr
    rcases List.mem_cons.1 hs with h | h
    · rw [h]; exact klo
    · rw [List.mem_singleton.1 h]; exact khi
  · split at hr
    · split at hr
      · cases hr; rw [List.mem_singleton.1 hs]; exact klo
      · exact bump _ _ (one s _ hr hs) khi.1 khi.2
    · split at hr
      · exact bump _ _ (one s _ hr hs) klo.1 klo.2
      · cases hr; rw [List.mem_singleton.1 hs]; exact khi
theorem rowsE_ok' (f : Fm) : ∀ s ∈ (rowsE f).1, okSm s := by
  unfold rowsE
  split
  · rename_i hv
    have hlv := litIn_valid hv
    split
    · rename_i hok
      obtain ⟨x0, x1, x2, hl⟩ := len_three hok.1
      rw [hl] at hlv ⊢
      simp only [List.getD_cons_succ, List.getD_cons_zero]
      have side : ∀ x, validF x = true → ∀ s, ofS x = some s → GoodS (fun f => validF f = true) s ∧ s.l.length ≤ 40020000 := by
        intro x hx s hs
        have hb := validF_big hx
        have hg := ofS_good x hx s hs
        exact ⟨hg.1.mono fun f h => h.1, by omega⟩
      split
      · rename_i rs hrs
        intro s hs
        have := rowsO_ok hrs (side x1 (hlv x1 (by simp))) (side x2 (hlv x2 (by simp))) s hs
        exact okSm_good this.1 (by omega)
      · intro s hs; cases hs
    · intro s hs; cases hs
  · intro s hs; cases hs
theorem rowsE_len (f : Fm) : (rowsE f).1.length ≤ 2 := by
  have one : ∀ (o : Option Sm) rs, o.map (fun x => [x]) = some rs → rs.length ≤ 2 := by
    intro o rs h
    obtain ⟨t, ht, rfl⟩ := Option.map_eq_some_iff.1 h
    simp
  unfold rowsE
  split
  · split
    · split
      · rename_i rs hr
        unfold rowsO at hr
        obtain ⟨x, hx, hr⟩ := Option.bind_eq_some_iff.1 hr
        obtain ⟨y, hy, hr⟩ := Option.bind_eq_some_iff.1 hr
        obtain ⟨lo, hlo, hr⟩ := Option.bind_eq_some_iff.1 hr
        obtain ⟨hi, hhi, hr⟩ := Option.bind_eq_some_iff.1 hr
        split at hr
        · cases hr; simp
        · split at hr
          · split at hr
            · cases hr; simp
            · exact one _ _ hr
          · split at hr
            · exact one _ _ hr
            · cases hr; simp
      · simp
    · simp
  · simp
theorem addE_ok (a b : Sm) (f : Int) (ha : a.l.length ≤ 1000000000000) (hb : b.l.length ≤ 1000000000000) : okSm (addE a b f).1 := by
  unfold addE
  split
  · rename_i h
    split
    · rename_i s hs
      have := plusS_good hs (validSm_good h.1) (validSm_good h.2)
      exact okSm_good this.1 (by simp only; omega)
    · exact okSm_nil
  · exact okSm_nil
theorem tightE_ok (s : Sm) (h : okSm s) : okSm (tightE s).1 := by
  unfold tightE
  split
  · refine ⟨fun p hp => ?_, ?_⟩
    · obtain ⟨q, hq, rfl⟩ := List.mem_map.1 hp
      exact h.1 q hq
    · simp only [tightS, tightL, List.length_map]; exact h.2
  · exact okSm_nil
theorem sameS_self (s : Sm) : sameS s s = true := by simp [sameS, sameL_self]
theorem same_ok (a b : Sm) (h : okSm a) (hs : sameS a b = true) : PCall CX 11 [a.av, b.av] (· = .ret (.bool true)) := by
  have := same_call a b h.1 h.2
  rw [hs] at this; exact this
theorem rows_get {l : List Sm} {i : Nat} (h : i < l.length) : (l.map Sm.cells).getD i [] = [.int .i64 l[i].k, termsA l[i].nl (l[i].l.map Pt.row)] := by simp [List.getD, h, Sm.cells]
theorem linSums_call (t lit : Fm) (a b : Sm) (f : Int) (ht : t.big ≤ 1048576) (hlit : lit.big ≤ 1048576) (ha : ∀ p ∈ a.l, p.t.big ≤ 1048576) (hb : ∀ p ∈ b.l, p.t.big ≤ 1048576) (hla : a.l.length ≤ 1048576) (hlb : b.l.length ≤ 1048576) (hf : -9223372036854775808 ≤ f) (hf' : f ≤ 9223372036854775807) :
    PCall CX 4 [t.av, lit.av, a.av, b.av, .int .i64 f] (· = .ret (.bool true)) := by
  have hszt := size_le_big t
  have hszl := size_le_big lit
  obtain ⟨ka, na, la⟩ := a
  obtain ⟨kb, nb, lb⟩ := b
  simp only at ha hb hla hlb
  have hOf := Of_call t (by omega)
  have hOf2 := refOfE_call t (by omega)
  have hok0 := ofE_ok t
  rcases hE0 : ofE t with ⟨⟨k0, n0, l0⟩, e0⟩
  rw [hE0] at hOf hOf2 hok0
  have hR := Rows_call lit (by omega)
  have hR2 := refRows_call lit (by omega)
  have hok1 := rowsE_ok' lit
  have hlen1 := rowsE_len lit
  rcases hE1 : rowsE lit with ⟨rs, e1⟩
  rw [hE1] at hR hR2 hok1 hlen1
  simp only at hok1 hlen1
  have hA := Add_call ⟨ka, true, la⟩ ⟨kb, true, lb⟩ f (fun p hp => by have := ha p hp; omega) (by simp only; omega) (fun p hp => by have := hb p hp; omega) (by simp only; omega) hf hf'
  have hA2 := refAdd_call ⟨ka, na, la⟩ ⟨kb, nb, lb⟩ f (fun p hp => by have := ha p hp; omega) (by simp only; omega) (fun p hp => by have := hb p hp; omega) (by simp only; omega) hf hf'
  have hok2 := addE_ok ⟨ka, na, la⟩ ⟨kb, nb, lb⟩ f (by simp only; omega) (by simp only; omega)
  rw [show addE ⟨ka, true, la⟩ ⟨kb, true, lb⟩ f = addE ⟨ka, na, la⟩ ⟨kb, nb, lb⟩ f from rfl] at hA
  rcases hE2 : addE ⟨ka, na, la⟩ ⟨kb, nb, lb⟩ f with ⟨⟨k2, n2, l2⟩, e2⟩
  rw [hE2] at hA hA2 hok2
  have hT := Tight_call ka true la (by omega) (fun p hp => by have := ha p hp; omega)
  have hT2 := refTight_call ka na la (by omega) (fun p hp => by have := ha p hp; omega)
  rw [show tightE ⟨ka, true, la⟩ = tightE ⟨ka, na, la⟩ from rfl] at hT
  have hok3 := tightE_ok ⟨ka, na, la⟩ ⟨fun p hp => by have := ha p hp; omega, by simp only; omega⟩
  obtain ⟨hsm, hse⟩ := tight_same ⟨ka, na, la⟩
  rcases hE3 : tightE ⟨ka, na, la⟩ with ⟨⟨k3, n3, l3⟩, e3⟩
  rcases hE4 : refTightE ⟨ka, na, la⟩ with ⟨⟨k4, n4, l4⟩, e4⟩
  rw [hE3] at hT hok3 hsm hse
  rw [hE4] at hT2 hsm hse
  simp only at hse
  subst hse
  have hTm := Term_call ka true la (by omega) (fun p hp => by have := ha p hp; omega)
  have hTm2 := refTerm_call ka na la (by omega) (fun p hp => by have := ha p hp; omega)
  rw [show termE ⟨ka, true, la⟩ = termE ⟨ka, na, la⟩ from rfl] at hTm
  have hok5 : (termE ⟨ka, na, la⟩).1.big ≤ 4611686018427387904 := by
    unfold termE
    split
    · rename_i hv
      split
      · exact termS_bound hv (by omega)
      · simp [zeroF, Fm.big, Fm.bigL]
    · simp [zeroF, Fm.big, Fm.bigL]
  rcases hE5 : termE ⟨ka, na, la⟩ with ⟨F5, e5⟩
  rw [hE5] at hTm hTm2 hok5
  have hEq := refEqual_call F5 F5 hok5
  rw [show decide (cmpF F5 F5 = 0) = true from by simp [cmpF_self]] at hEq
  have hS0 := same_ok _ _ hok0 (sameS_self _)
  have hS2 := same_ok _ _ hok2 (sameS_self _)
  have hS3 := same_ok _ _ hok3 hsm
  have hM := mine_call ka na la (by omega)
  have hM2 := mine_call kb nb lb (by omega)
  clear hE0 hE1 hE2 hE3 hE4 hE5 hok0 hok2 hok3 hok5 hsm
  simp only [sumE, formE] at hOf hOf2 hA hA2 hT hT2 hTm hTm2
  refine pcall_mk 1 166 [.tmp 10] Tryd.func4 rfl (by decide) rfl rfl rfl ?_
  simp only [go_sem]
  refine aw_sreg {} rfl rfl fun K KP hK hP => ?_
  simp only [go_sem, ↓reduceIte]
  apply hK; clear hK hP
  refine aw_seq ?_
  refine aw_sregB {} 22 40 41 (.bool (decide (300 < t.size ∨ 300 < lit.size ∨ 50 < la.length ∨ 50 < lb.length))) rfl rfl rfl (fun K KP hK hP => ?_) (fun junk1 => ?_)
  ·
    by_cases c1_0 : (300 : Int) < (t.size : Nat)
    ·
      simp only [go_sem, ↓reduceIte, c1_0, List.length_map]
      refine CallP.ret (refSize_call t (by omega)) (by simp only [go_sem]) ?_
      try simp only [go_sem, ↓reduceIte, c1_0, List.length_map]
      refine hK _ (by first | rfl | (simp only [go_sem, ↓reduceIte, c1_0, List.length_map])) rfl ?_
      simp only [go_sem, ↓reduceIte, Nat.reduceEqDiff, List.length_map]
      congr 1; first | (symm; apply decide_eq_true; omega) | (apply decide_eq_decide.2; omega)
    ·
      by_cases c1_1 : (300 : Int) < (lit.size : Nat)
      ·
        simp only [go_sem, ↓reduceIte, c1_0, c1_1, List.length_map]
        refine CallP.ret (refSize_call t (by omega)) (by simp only [go_sem]) ?_
        try simp only [go_sem, ↓reduceIte, c1_0, c1_1, List.length_map]
        refine CallP.ret (refSize_call lit (by omega)) (by simp only [go_sem]) ?_
        try simp only [go_sem, ↓reduceIte, c1_0, c1_1, List.length_map]
        refine hK _ (by first | rfl | (simp only [go_sem, ↓reduceIte, c1_0, c1_1, List.length_map])) rfl ?_
        simp only [go_sem, ↓reduceIte, Nat.reduceEqDiff, List.length_map]
        congr 1; first | (symm; apply decide_eq_true; omega) | (apply decide_eq_decide.2; omega)
      ·
        by_cases c1_2 : (50 : Int) < (la.length : Nat)
        ·
          simp only [go_sem, ↓reduceIte, c1_0, c1_1, c1_2, List.length_map]
          refine CallP.ret (refSize_call t (by omega)) (by simp only [go_sem]) ?_
          try simp only [go_sem, ↓reduceIte, c1_0, c1_1, c1_2, List.length_map]
          refine CallP.ret (refSize_call lit (by omega)) (by simp only [go_sem]) ?_
          try simp only [go_sem, ↓reduceIte, c1_0, c1_1, c1_2, List.length_map]
          refine hK _ (by first | rfl | (simp only [go_sem, ↓reduceIte, c1_0, c1_1, c1_2, List.length_map])) rfl ?_
          simp only [go_sem, ↓reduceIte, Nat.reduceEqDiff, List.length_map]
          congr 1; first | (symm; apply decide_eq_true; omega) | (apply decide_eq_decide.2; omega)
        ·
          simp only [go_sem, ↓reduceIte, c1_0, c1_1, c1_2, List.length_map]
          refine CallP.ret (refSize_call t (by omega)) (by simp only [go_sem]) ?_
          try simp only [go_sem, ↓reduceIte, c1_0, c1_1, c1_2, List.length_map]
          refine CallP.ret (refSize_call lit (by omega)) (by simp only [go_sem]) ?_
          try simp only [go_sem, ↓reduceIte, c1_0, c1_1, c1_2, List.length_map]
          refine hK _ (by first | rfl | (simp only [go_sem, ↓reduceIte, c1_0, c1_1, c1_2, List.length_map])) rfl ?_
          simp only [go_sem, ↓reduceIte, Nat.reduceEqDiff, List.length_map]
          congr 1; first | (symm; apply decide_eq_true; omega) | (apply decide_eq_decide.2; omega)
  ·
    refine aw_if (300 < t.size ∨ 300 < lit.size ∨ 50 < la.length ∨ 50 < lb.length) (by simp only [go_sem, ↓reduceIte]) (fun h1 => ?_) (fun h1 => ?_)
    ·
      refine aw_sreg {} rfl rfl fun K KP hK hP => ?_
      simp only [go_sem, ↓reduceIte]
      refine CallP.ret linSane_call (by simp only [go_sem]) ?_
      try simp only [go_sem, ↓reduceIte]
      apply hK; clear hK hP
      refine aw_ret ?_
      refine athen_ret.2 ?_
      simp only [go_sem, ↓reduceIte, athen_ret]
    ·
      refine aw_skip ?_
      refine athen_normal.2 ?_
      refine aw_sreg {} rfl (by simp only [allocObjs, go_sem]; rfl) fun K KP hK hP => ?_
      simp only [go_sem, ↓reduceIte]
      refine CallP.ret hOf (by simp only [go_sem]) ?_
      try simp only [go_sem, ↓reduceIte]
      apply hK; clear hK hP
      refine aw_sreg {} rfl (by simp only [allocObjs, go_sem]; rfl) fun K KP hK hP => ?_
      simp only [go_sem, ↓reduceIte]
      refine CallP.ret hOf2 (by simp only [go_sem]) ?_
      try simp only [go_sem, ↓reduceIte]
      apply hK; clear hK hP
      refine aw_seq ?_
      refine aw_sreg {} rfl rfl fun K KP hK hP => ?_
      simp only [go_sem, ↓reduceIte]
      refine CallP.ret hS0 (by simp only [go_sem]) ?_
      try simp only [go_sem, ↓reduceIte]
      apply hK; clear hK hP
      refine aw_if (False) (by simp only [go_sem, ↓reduceIte]) (fun h5 => ?_) (fun h5 => ?_)
      ·
        exact h5.elim
      ·
        refine aw_skip ?_
        refine athen_normal.2 ?_
        by_cases c7 : e1 = 0
        ·
          simp only [outRows, c7, if_true] at hR hR2
          refine aw_sreg {} rfl rfl fun K KP hK hP => ?_
          simp only [go_sem, ↓reduceIte, c7]
          refine CallP.ret hR (by simp only [go_sem]) ?_
          try simp only [go_sem, ↓reduceIte, c7]
          apply hK; clear hK hP
          refine aw_sreg {} rfl rfl fun K KP hK hP => ?_
          simp only [go_sem, ↓reduceIte, c7]
          refine CallP.ret hR2 (by simp only [go_sem]) ?_
          try simp only [go_sem, ↓reduceIte, c7]
          apply hK; clear hK hP
          refine aw_seq ?_
          refine aw_sreg {} rfl rfl fun K KP hK hP => ?_
          simp only [go_sem, ↓reduceIte, c7]
          apply hK; clear hK hP
          refine aw_if (False) (by simp only [go_sem, ↓reduceIte, c7]) (fun h9 => ?_) (fun h9 => ?_)
          ·
            exact h9.elim
          ·
            refine aw_skip ?_
            refine athen_normal.2 ?_
            refine aw_seq ?_
            refine aw_sreg {} rfl rfl fun K KP hK hP => ?_
            simp only [go_sem, ↓reduceIte, c7]
            apply hK; clear hK hP
            refine aw_block ?_
            refine aw_loop' (fun dd st => ∃ (i : Nat), (i ≤ rs.length) ∧ rs.length - i = dd ∧ [(0, .cells 29 [.int .i64 k0, termsA n0 (l0.map Pt.row)]), (1, .cells 39 [.int .i64 k0, termsA n0 (l0.map Pt.row)])] = st.σ ∧ st.env 4 = .int .i64 f ∧ st.env 7 = .rptr [.int .i64 ka, termsA na (la.map Pt.row)] ∧ st.env 8 = .rptr [.int .i64 kb, termsA nb (lb.map Pt.row)] ∧ st.env 11 = .ref 0 0 0 ∧ st.env 13 = .ref 1 1 0 ∧ st.env 15 = .vec 2 (rs.map Sm.cells) ∧ st.env 16 = .vec 2 (rs.map Sm.cells) ∧ st.env 17 = .int .i64 (i : Nat)) (fun dd st hJ => ?_) ?_
            ·
              obtain ⟨env0, σ0, nx0⟩ := st
              obtain ⟨i, hp0_0, hd0, hs0, e0_4, e0_7, e0_8, e0_11, e0_13, e0_15, e0_16, e0_17⟩ := hJ
              dsimp only at hs0  e0_4 e0_7 e0_8 e0_11 e0_13 e0_15 e0_16 e0_17
              subst hd0; subst hs0
              refine aw_forget' 2 rfl ?_
              refine aw_seq ?_
              refine aw_sreg {} rfl rfl fun K KP hK hP => ?_
              simp only [go_sem, ↓reduceIte, c7, e0_4, e0_7, e0_8, e0_11, e0_13, e0_15, e0_16, e0_17]
              apply hK; clear hK hP
              refine aw_if (i < rs.length) (by simp only [go_sem, ↓reduceIte, c7, e0_4, e0_7, e0_8, e0_11, e0_13, e0_15, e0_16, e0_17]) (fun h12 => ?_) (fun h12 => ?_)
              ·
                have hw1 : IntKind.wrap .i64 ((i : Int) + 1) = ((i + 1 : Nat) : Int) := by rw [wrap64 (by omega) (by omega)]; omega
                refine aw_skip ?_
                refine athen_normal.2 ?_
                refine aw_seq ?_
                refine aw_block ?_
                refine aw_sdraw {} [] [0, 0, 3, 7, 0, 0, 48, 112, 255, 511] mixed (by kernel_rfl) rfl rfl fun K KP hK hP => ?_
                simp only [go_sem, ↓reduceIte, c7, e0_4, e0_7, e0_8, e0_11, e0_13, e0_15, e0_16, e0_17, h12, rows_get h12]
                refine CallP.ret (same_ok rs[i] rs[i] (hok1 _ (List.getElem_mem h12)) (sameS_self _)) (by simp only [go_sem]) ?_
                try simp only [go_sem, ↓reduceIte, c7, e0_4, e0_7, e0_8, e0_11, e0_13, e0_15, e0_16, e0_17, h12, rows_get h12]
                apply hK; clear hK hP
                refine aw_if (False) (by simp only [go_sem, ↓reduceIte, c7, e0_4, e0_7, e0_8, e0_11, e0_13, e0_15, e0_16, e0_17, h12, rows_get h12]) (fun h14 => ?_) (fun h14 => ?_)
                ·
                  exact h14.elim
                ·
                  refine aw_skip ?_
                  refine ablock_normal.2 ?_
                  refine athen_normal.2 ?_
                  refine aw_lreg {} rfl rfl fun K KP hK hP => ?_
                  simp only [go_sem, ↓reduceIte, c7, e0_4, e0_7, e0_8, e0_11, e0_13, e0_15, e0_16, e0_17, h12, rows_get h12, hw1]
                  apply hK; clear hK hP
                  refine afor_two ?_
                  refine athen_normal.2 ?_
                  refine ⟨_, ?_, i + 1, ?_, rfl, rfl, ?_, ?_, ?_, ?_, ?_, ?_, ?_, ?_⟩
                  · omega
                  · first | omega | trivial | assumption
                  · simp only [go_sem, ↓reduceIte, c7, e0_4, e0_7, e0_8, e0_11, e0_13, e0_15, e0_16, e0_17, h12, rows_get h12] <;> try rfl
                  · simp only [go_sem, ↓reduceIte, c7, e0_4, e0_7, e0_8, e0_11, e0_13, e0_15, e0_16, e0_17, h12, rows_get h12] <;> try rfl
                  · simp only [go_sem, ↓reduceIte, c7, e0_4, e0_7, e0_8, e0_11, e0_13, e0_15, e0_16, e0_17, h12, rows_get h12] <;> try rfl
                  · simp only [go_sem, ↓reduceIte, c7, e0_4, e0_7, e0_8, e0_11, e0_13, e0_15, e0_16, e0_17, h12, rows_get h12] <;> try rfl
                  · simp only [go_sem, ↓reduceIte, c7, e0_4, e0_7, e0_8, e0_11, e0_13, e0_15, e0_16, e0_17, h12, rows_get h12] <;> try rfl
                  · simp only [go_sem, ↓reduceIte, c7, e0_4, e0_7, e0_8, e0_11, e0_13, e0_15, e0_16, e0_17, h12, rows_get h12] <;> try rfl
                  · simp only [go_sem, ↓reduceIte, c7, e0_4, e0_7, e0_8, e0_11, e0_13, e0_15, e0_16, e0_17, h12, rows_get h12] <;> try rfl
                  · simp only [go_sem, ↓reduceIte, c7, e0_4, e0_7, e0_8, e0_11, e0_13, e0_15, e0_16, e0_17, h12, rows_get h12] <;> try rfl
              ·
                refine aw_exit ?_
                refine athen_exit.2 ?_
                refine afor_two ?_
                refine athen_exit.2 ?_
                refine ablock_here ?_
                refine athen_normal.2 ?_
                refine aw_sdraw {} [] [0, 1, 0, 7, 0, 31, 63, 127, 127, 255, 1023] mixed (by kernel_rfl) rfl rfl fun K KP hK hP => ?_
                simp only [go_sem, ↓reduceIte, c7, e0_4, e0_7, e0_8, e0_11, e0_13, e0_15, e0_16, e0_17]
                refine CallP.ret hM (by simp only [go_sem]) ?_
                try simp only [go_sem, ↓reduceIte, c7, e0_4, e0_7, e0_8, e0_11, e0_13, e0_15, e0_16, e0_17]
                refine CallP.ret hM2 (by simp only [go_sem]) ?_
                try simp only [go_sem, ↓reduceIte, c7, e0_4, e0_7, e0_8, e0_11, e0_13, e0_15, e0_16, e0_17]
                refine CallP.ret hA (by simp only [go_sem]) ?_
                try simp only [go_sem, ↓reduceIte, c7, e0_4, e0_7, e0_8, e0_11, e0_13, e0_15, e0_16, e0_17]
                apply hK; clear hK hP
                refine aw_sreg {} rfl rfl fun K KP hK hP => ?_
                simp only [go_sem, ↓reduceIte, c7, e0_4, e0_7, e0_8, e0_11, e0_13, e0_15, e0_16, e0_17]
                refine CallP.ret hA2 (by simp only [go_sem]) ?_
                try simp only [go_sem, ↓reduceIte, c7, e0_4, e0_7, e0_8, e0_11, e0_13, e0_15, e0_16, e0_17]
                apply hK; clear hK hP
                refine aw_seq ?_
                refine aw_sreg {} rfl rfl fun K KP hK hP => ?_
                simp only [go_sem, ↓reduceIte, c7, e0_4, e0_7, e0_8, e0_11, e0_13, e0_15, e0_16, e0_17]
                refine CallP.ret hS2 (by simp only [go_sem]) ?_
                try simp only [go_sem, ↓reduceIte, c7, e0_4, e0_7, e0_8, e0_11, e0_13, e0_15, e0_16, e0_17]
                apply hK; clear hK hP
                refine aw_if (False) (by simp only [go_sem, ↓reduceIte, c7, e0_4, e0_7, e0_8, e0_11, e0_13, e0_15, e0_16, e0_17]) (fun h18 => ?_) (fun h18 => ?_)
                ·
                  exact h18.elim
                ·
                  refine aw_skip ?_
                  refine athen_normal.2 ?_
                  refine aw_sreg {} rfl rfl fun K KP hK hP => ?_
                  simp only [go_sem, ↓reduceIte, c7, e0_4, e0_7, e0_8, e0_11, e0_13, e0_15, e0_16, e0_17]
                  refine CallP.ret hM (by simp only [go_sem]) ?_
                  try simp only [go_sem, ↓reduceIte, c7, e0_4, e0_7, e0_8, e0_11, e0_13, e0_15, e0_16, e0_17]
                  refine CallP.ret hT (by simp only [go_sem]) ?_
                  try simp only [go_sem, ↓reduceIte, c7, e0_4, e0_7, e0_8, e0_11, e0_13, e0_15, e0_16, e0_17]
                  apply hK; clear hK hP
                  refine aw_sreg {} rfl rfl fun K KP hK hP => ?_
                  simp only [go_sem, ↓reduceIte, c7, e0_4, e0_7, e0_8, e0_11, e0_13, e0_15, e0_16, e0_17]
                  refine CallP.ret hT2 (by simp only [go_sem]) ?_
                  try simp only [go_sem, ↓reduceIte, c7, e0_4, e0_7, e0_8, e0_11, e0_13, e0_15, e0_16, e0_17]
                  apply hK; clear hK hP
                  refine aw_sreg {} rfl (by simp only [allocObjs, go_sem]; rfl) fun K KP hK hP => ?_
                  simp only [go_sem, ↓reduceIte, c7, e0_4, e0_7, e0_8, e0_11, e0_13, e0_15, e0_16, e0_17]
                  refine CallP.ret hM (by simp only [go_sem]) ?_
                  try simp only [go_sem, ↓reduceIte, c7, e0_4, e0_7, e0_8, e0_11, e0_13, e0_15, e0_16, e0_17]
                  refine CallP.ret hTm (by simp only [go_sem]) ?_
                  try simp only [go_sem, ↓reduceIte, c7, e0_4, e0_7, e0_8, e0_11, e0_13, e0_15, e0_16, e0_17]
                  apply hK; clear hK hP
                  refine aw_sreg {} rfl (by simp only [allocObjs, go_sem]; rfl) fun K KP hK hP => ?_
                  simp only [go_sem, ↓reduceIte, c7, e0_4, e0_7, e0_8, e0_11, e0_13, e0_15, e0_16, e0_17]
                  refine CallP.ret hTm2 (by simp only [go_sem]) ?_
                  try simp only [go_sem, ↓reduceIte, c7, e0_4, e0_7, e0_8, e0_11, e0_13, e0_15, e0_16, e0_17]
                  apply hK; clear hK hP
                  refine aw_sreg {} rfl rfl fun K KP hK hP => ?_
                  simp only [go_sem, ↓reduceIte, c7, e0_4, e0_7, e0_8, e0_11, e0_13, e0_15, e0_16, e0_17]
                  refine CallP.ret hS3 (by simp only [go_sem]) ?_
                  try simp only [go_sem, ↓reduceIte, c7, e0_4, e0_7, e0_8, e0_11, e0_13, e0_15, e0_16, e0_17]
                  refine CallP.ret hEq (by simp only [go_sem]) ?_
                  try simp only [go_sem, ↓reduceIte, c7, e0_4, e0_7, e0_8, e0_11, e0_13, e0_15, e0_16, e0_17]
                  refine CallP.ret linSane_call (by simp only [go_sem]) ?_
                  try simp only [go_sem, ↓reduceIte, c7, e0_4, e0_7, e0_8, e0_11, e0_13, e0_15, e0_16, e0_17]
                  apply hK; clear hK hP
                  refine aw_ret ?_
                  simp only [go_sem, ↓reduceIte, c7, e0_4, e0_7, e0_8, e0_11, e0_13, e0_15, e0_16, e0_17, athen_ret]
            ·
              refine ⟨_, 0, ?_, rfl, ?_, ?_, ?_, ?_, ?_, ?_, ?_, ?_, ?_⟩
              · first | omega | trivial | assumption
              · first | rfl | (simp only [go_sem, ↓reduceIte, c7])
              · simp only [go_sem, ↓reduceIte, c7] <;> try rfl
              · simp only [go_sem, ↓reduceIte, c7] <;> try rfl
              · simp only [go_sem, ↓reduceIte, c7] <;> try rfl
              · simp only [go_sem, ↓reduceIte, c7] <;> try rfl
              · simp only [go_sem, ↓reduceIte, c7] <;> try rfl
              · simp only [go_sem, ↓reduceIte, c7] <;> try rfl
              · simp only [go_sem, ↓reduceIte, c7] <;> try rfl
              · simp only [go_sem, ↓reduceIte, c7] <;> try rfl
        ·
          simp only [outRows, c7, if_false] at hR hR2
          refine aw_sreg {} rfl rfl fun K KP hK hP => ?_
          simp only [go_sem, ↓reduceIte, c7]
          refine CallP.ret hR (by simp only [go_sem]) ?_
          try simp only [go_sem, ↓reduceIte, c7]
          apply hK; clear hK hP
          refine aw_sreg {} rfl rfl fun K KP hK hP => ?_
          simp only [go_sem, ↓reduceIte, c7]
          refine CallP.ret hR2 (by simp only [go_sem]) ?_
          try simp only [go_sem, ↓reduceIte, c7]
          apply hK; clear hK hP
          refine aw_seq ?_
          refine aw_sreg {} rfl rfl fun K KP hK hP => ?_
          simp only [go_sem, ↓reduceIte, c7]
          apply hK; clear hK hP
          refine aw_if (False) (by simp only [go_sem, ↓reduceIte, c7]) (fun h9 => ?_) (fun h9 => ?_)
          ·
            exact h9.elim
          ·
            refine aw_skip ?_
            refine athen_normal.2 ?_
            refine aw_seq ?_
            refine aw_sreg {} rfl rfl fun K KP hK hP => ?_
            simp only [go_sem, ↓reduceIte, c7]
            apply hK; clear hK hP
            refine aw_block ?_
            refine aw_loop' (fun dd st => ∃ (i : Nat), rs.length - i = dd ∧ [(0, .cells 29 [.int .i64 k0, termsA n0 (l0.map Pt.row)]), (1, .cells 39 [.int .i64 k0, termsA n0 (l0.map Pt.row)])] = st.σ ∧ st.env 4 = .int .i64 f ∧ st.env 7 = .rptr [.int .i64 ka, termsA na (la.map Pt.row)] ∧ st.env 8 = .rptr [.int .i64 kb, termsA nb (lb.map Pt.row)] ∧ st.env 11 = .ref 0 0 0 ∧ st.env 13 = .ref 1 1 0 ∧ st.env 15 = .base (.slice none 0 0) ∧ st.env 16 = .base (.slice none 0 0) ∧ st.env 17 = .int .i64 (i : Nat)) (fun dd st hJ => ?_) ?_
            ·
              obtain ⟨env0, σ0, nx0⟩ := st
              obtain ⟨i, hd0, hs0, e0_4, e0_7, e0_8, e0_11, e0_13, e0_15, e0_16, e0_17⟩ := hJ
              dsimp only at hs0  e0_4 e0_7 e0_8 e0_11 e0_13 e0_15 e0_16 e0_17
              subst hd0; subst hs0
              refine aw_forget' 2 rfl ?_
              refine aw_seq ?_
              refine aw_sreg {} rfl rfl fun K KP hK hP => ?_
              simp only [go_sem, ↓reduceIte, c7, e0_4, e0_7, e0_8, e0_11, e0_13, e0_15, e0_16, e0_17]
              apply hK; clear hK hP
              refine aw_if (False) (by simp only [go_sem, ↓reduceIte, Nat.reduceEqDiff]; congr 1; try (apply decide_eq_false; omega)) (fun h12 => ?_) (fun h12 => ?_)
              ·
                exact h12.elim
              ·
                refine aw_exit ?_
                refine athen_exit.2 ?_
                refine afor_two ?_
                refine athen_exit.2 ?_
                refine ablock_here ?_
                refine athen_normal.2 ?_
                refine aw_sdraw {} [] [0, 1, 0, 7, 0, 31, 63, 127, 127, 255, 1023] mixed (by kernel_rfl) rfl rfl fun K KP hK hP => ?_
                simp only [go_sem, ↓reduceIte, c7, e0_4, e0_7, e0_8, e0_11, e0_13, e0_15, e0_16, e0_17]
                refine CallP.ret hM (by simp only [go_sem]) ?_
                try simp only [go_sem, ↓reduceIte, c7, e0_4, e0_7, e0_8, e0_11, e0_13, e0_15, e0_16, e0_17]
                refine CallP.ret hM2 (by simp only [go_sem]) ?_
                try simp only [go_sem, ↓reduceIte, c7, e0_4, e0_7, e0_8, e0_11, e0_13, e0_15, e0_16, e0_17]
                refine CallP.ret hA (by simp only [go_sem]) ?_
                try simp only [go_sem, ↓reduceIte, c7, e0_4, e0_7, e0_8, e0_11, e0_13, e0_15, e0_16, e0_17]
                apply hK; clear hK hP
                refine aw_sreg {} rfl rfl fun K KP hK hP => ?_
                simp only [go_sem, ↓reduceIte, c7, e0_4, e0_7, e0_8, e0_11, e0_13, e0_15, e0_16, e0_17]
                refine CallP.ret hA2 (by simp only [go_sem]) ?_
                try simp only [go_sem, ↓reduceIte, c7, e0_4, e0_7, e0_8, e0_11, e0_13, e0_15, e0_16, e0_17]
                apply hK; clear hK hP
                refine aw_seq ?_
                refine aw_sreg {} rfl rfl fun K KP hK hP => ?_
                simp only [go_sem, ↓reduceIte, c7, e0_4, e0_7, e0_8, e0_11, e0_13, e0_15, e0_16, e0_17]
                refine CallP.ret hS2 (by simp only [go_sem]) ?_
                try simp only [go_sem, ↓reduceIte, c7, e0_4, e0_7, e0_8, e0_11, e0_13, e0_15, e0_16, e0_17]
                apply hK; clear hK hP
                refine aw_if (False) (by simp only [go_sem, ↓reduceIte, c7, e0_4, e0_7, e0_8, e0_11, e0_13, e0_15, e0_16, e0_17]) (fun h18 => ?_) (fun h18 => ?_)
                ·
                  exact h18.elim
                ·
                  refine aw_skip ?_
                  refine athen_normal.2 ?_
                  refine aw_sreg {} rfl rfl fun K KP hK hP => ?_
                  simp only [go_sem, ↓reduceIte, c7, e0_4, e0_7, e0_8, e0_11, e0_13, e0_15, e0_16, e0_17]
                  refine CallP.ret hM (by simp only [go_sem]) ?_
                  try simp only [go_sem, ↓reduceIte, c7, e0_4, e0_7, e0_8, e0_11, e0_13, e0_15, e0_16, e0_17]
                  refine CallP.ret hT (by simp only [go_sem]) ?_
                  try simp only [go_sem, ↓reduceIte, c7, e0_4, e0_7, e0_8, e0_11, e0_13, e0_15, e0_16, e0_17]
                  apply hK; clear hK hP
                  refine aw_sreg {} rfl rfl fun K KP hK hP => ?_
                  simp only [go_sem, ↓reduceIte, c7, e0_4, e0_7, e0_8, e0_11, e0_13, e0_15, e0_16, e0_17]
                  refine CallP.ret hT2 (by simp only [go_sem]) ?_
                  try simp only [go_sem, ↓reduceIte, c7, e0_4, e0_7, e0_8, e0_11, e0_13, e0_15, e0_16, e0_17]
                  apply hK; clear hK hP
                  refine aw_sreg {} rfl (by simp only [allocObjs, go_sem]; rfl) fun K KP hK hP => ?_
                  simp only [go_sem, ↓reduceIte, c7, e0_4, e0_7, e0_8, e0_11, e0_13, e0_15, e0_16, e0_17]
                  refine CallP.ret hM (by simp only [go_sem]) ?_
                  try simp only [go_sem, ↓reduceIte, c7, e0_4, e0_7, e0_8, e0_11, e0_13, e0_15, e0_16, e0_17]
                  refine CallP.ret hTm (by simp only [go_sem]) ?_
                  try simp only [go_sem, ↓reduceIte, c7, e0_4, e0_7, e0_8, e0_11, e0_13, e0_15, e0_16, e0_17]
                  apply hK; clear hK hP
                  refine aw_sreg {} rfl (by simp only [allocObjs, go_sem]; rfl) fun K KP hK hP => ?_
                  simp only [go_sem, ↓reduceIte, c7, e0_4, e0_7, e0_8, e0_11, e0_13, e0_15, e0_16, e0_17]
                  refine CallP.ret hTm2 (by simp only [go_sem]) ?_
                  try simp only [go_sem, ↓reduceIte, c7, e0_4, e0_7, e0_8, e0_11, e0_13, e0_15, e0_16, e0_17]
                  apply hK; clear hK hP
                  refine aw_sreg {} rfl rfl fun K KP hK hP => ?_
                  simp only [go_sem, ↓reduceIte, c7, e0_4, e0_7, e0_8, e0_11, e0_13, e0_15, e0_16, e0_17]
                  refine CallP.ret hS3 (by simp only [go_sem]) ?_
                  try simp only [go_sem, ↓reduceIte, c7, e0_4, e0_7, e0_8, e0_11, e0_13, e0_15, e0_16, e0_17]
                  refine CallP.ret hEq (by simp only [go_sem]) ?_
                  try simp only [go_sem, ↓reduceIte, c7, e0_4, e0_7, e0_8, e0_11, e0_13, e0_15, e0_16, e0_17]
                  refine CallP.ret linSane_call (by simp only [go_sem]) ?_
                  try simp only [go_sem, ↓reduceIte, c7, e0_4, e0_7, e0_8, e0_11, e0_13, e0_15, e0_16, e0_17]
                  apply hK; clear hK hP
                  refine aw_ret ?_
                  simp only [go_sem, ↓reduceIte, c7, e0_4, e0_7, e0_8, e0_11, e0_13, e0_15, e0_16, e0_17, athen_ret]
            ·
              refine ⟨_, 0, rfl, ?_, ?_, ?_, ?_, ?_, ?_, ?_, ?_, ?_⟩
              · first | rfl | (simp only [go_sem, ↓reduceIte, c7])
              · simp only [go_sem, ↓reduceIte, c7] <;> try rfl
              · simp only [go_sem, ↓reduceIte, c7] <;> try rfl
              · simp only [go_sem, ↓reduceIte, c7] <;> try rfl
              · simp only [go_sem, ↓reduceIte, c7] <;> try rfl
              · simp only [go_sem, ↓reduceIte, c7] <;> try rfl
              · simp only [go_sem, ↓reduceIte, c7] <;> try rfl
              · simp only [go_sem, ↓reduceIte, c7] <;> try rfl
              · simp only [go_sem, ↓reduceIte, c7] <;> try rfl
end Go.Ab
