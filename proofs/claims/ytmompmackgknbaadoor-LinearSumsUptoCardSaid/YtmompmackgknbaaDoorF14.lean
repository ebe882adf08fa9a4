/-
  THE SUM OF THE TERM OF A SUM: the statement's contract.
-/
import Derived.Test.YtmompmackgknbaaDoorF13
set_option linter.unusedVariables false
set_option linter.unusedSimpArgs false
set_option maxRecDepth 100000
namespace Go.Ab
open Go Go.RowKit Go.Proofs

theorem valid_num (n : Int) (h : -1152921504606846976 ≤ n) (h' : n ≤ 1152921504606846976) : validF (numF n) = true := by
  simp [validF, numF, validS, validLS, leafS, h, h']
theorem ofE_num (n : Int) (h : -1152921504606846976 ≤ n) (h' : n ≤ 1152921504606846976) : ofE (numF n) = (⟨n, true, []⟩, 0) := by
  simp [ofE, valid_num n h h', ofS_num]
theorem linSane_call : PCall CX 8 [] (· = .ret (.bool true)) := by
  have hO : PCall CX 9 [(numF 3).av] (· = .ret (.tup [Sm.av ⟨3, true, []⟩, .int .i64 0])) := by
    have h := Of_call (numF 3) (by decide)
    rw [ofE_num 3 (by decide) (by decide)] at h; exact h
  refine pcall_mk 1 21 [.tmp 0] Tryd.func8 rfl (by decide) rfl rfl rfl ?_
  refine aw_sreg {} rfl rfl fun K KP hK hP => ?_
  simp only [go_sem, ↓reduceIte]
  apply hK; clear hK hP
  refine aw_sreg {} rfl (by simp only [allocObjs, go_sem]; rfl) fun K KP hK hP => ?_
  simp only [go_sem, ↓reduceIte]
  refine CallP.ret (refNum_call 3) (by simp only [go_sem]) ?_
  try simp only [go_sem, ↓reduceIte]
  refine CallP.ret hO (by simp only [go_sem]) ?_
  try simp only [go_sem, ↓reduceIte]
  apply hK; clear hK hP
  refine aw_sreg {} rfl rfl fun K KP hK hP => ?_
  simp only [go_sem, ↓reduceIte, List.map_nil, Int.natCast_zero]
  apply hK; clear hK hP
  refine aw_ret ?_
  simp only [go_sem, ↓reduceIte, athen_ret]
theorem Term_call' (s : Sm) (hl : s.l.length ≤ 10000000000) (hb : ∀ p ∈ s.l, p.t.big ≤ 1000000000000) : PCall CX 10 [s.av] (· = formE (termE s)) := Term_call s.k s.nl s.l hl hb
theorem sameL_self : ∀ l : List Pt, sameL l l = true
  | [] => rfl
  | p :: r => by simp [sameL, cmpF_self, sameL_self r]
theorem linTerm_call (x : Fm) (hb : x.big ≤ 1048576) : PCall CX 3 [x.av] (· = .ret (.bool true)) := by
  have hsz := size_le_big x
  have hOx := Of_call x (by omega)
  refine pcall_mk 1 50 [.tmp 2] Tryd.func3 rfl (by decide) rfl rfl rfl ?_
  refine aw_sreg {} rfl rfl fun K KP hK hP => ?_
  simp only [go_sem, ↓reduceIte]
  apply hK; clear hK hP
  refine aw_seq ?_
  refine aw_sreg {} rfl rfl fun K KP hK hP => ?_
  simp only [go_sem, ↓reduceIte]
  refine CallP.ret (refSize_call x (by omega)) (by simp only [go_sem]) ?_
  try simp only [go_sem, ↓reduceIte]
  apply hK; clear hK hP
  refine aw_if (200 < x.size) (by simp only [go_sem, ↓reduceIte, Nat.reduceEqDiff]; congr 1; apply decide_eq_decide.2; omega) (fun h1 => ?_) (fun h1 => ?_)
  ·
    refine aw_sreg {} rfl rfl fun K KP hK hP => ?_
    simp only [go_sem, ↓reduceIte]
    refine CallP.ret linSane_call (by simp only [go_sem]) ?_
    try simp only [go_sem, ↓reduceIte]
    apply hK; clear hK hP
    refine aw_ret ?_
    refine athen_ret.2 ?_
    simp only [go_sem, ↓reduceIte, athen_ret]
  ·
    refine aw_skip ?_
    refine athen_normal.2 ?_
    by_cases c3_0 : ¬ validF x = true
    ·
      have hE : ofE x = (nilS, 1) := by simp [ofE, c3_0]
      rw [hE] at hOx
      refine aw_sreg {} rfl (by simp only [allocObjs, go_sem]; rfl) fun K KP hK hP => ?_
      simp only [go_sem, ↓reduceIte, c3_0, nilS, List.map_nil, termsA]
      refine CallP.ret hOx (by simp only [go_sem]) ?_
      try simp only [go_sem, ↓reduceIte, c3_0, nilS, List.map_nil, termsA]
      apply hK; clear hK hP
      refine aw_seq ?_
      refine aw_sreg {} rfl rfl fun K KP hK hP => ?_
      simp only [go_sem, ↓reduceIte, c3_0]
      apply hK; clear hK hP
      refine aw_if (True) (by simp only [go_sem, ↓reduceIte, c3_0]) (fun h4 => ?_) (fun h4 => ?_)
      ·
        refine aw_sreg {} rfl rfl fun K KP hK hP => ?_
        simp only [go_sem, ↓reduceIte, c3_0]
        refine CallP.ret linSane_call (by simp only [go_sem]) ?_
        try simp only [go_sem, ↓reduceIte, c3_0]
        apply hK; clear hK hP
        refine aw_ret ?_
        refine athen_ret.2 ?_
        simp only [go_sem, ↓reduceIte, c3_0, athen_ret]
      ·
        exact absurd trivial h4
    ·
      replace c3_0 := Classical.not_not.1 c3_0
      by_cases c3_1 : ofS x = none
      ·
        have hE : ofE x = (nilS, 5) := by simp [ofE, c3_0, c3_1]
        rw [hE] at hOx
        refine aw_sreg {} rfl (by simp only [allocObjs, go_sem]; rfl) fun K KP hK hP => ?_
        simp only [go_sem, ↓reduceIte, c3_0, c3_1, nilS, List.map_nil, termsA]
        refine CallP.ret hOx (by simp only [go_sem]) ?_
        try simp only [go_sem, ↓reduceIte, c3_0, c3_1, nilS, List.map_nil, termsA]
        apply hK; clear hK hP
        refine aw_seq ?_
        refine aw_sreg {} rfl rfl fun K KP hK hP => ?_
        simp only [go_sem, ↓reduceIte, c3_0, c3_1]
        apply hK; clear hK hP
        refine aw_if (True) (by simp only [go_sem, ↓reduceIte, c3_0, c3_1]) (fun h4 => ?_) (fun h4 => ?_)
        ·
          refine aw_sreg {} rfl rfl fun K KP hK hP => ?_
          simp only [go_sem, ↓reduceIte, c3_0, c3_1]
          refine CallP.ret linSane_call (by simp only [go_sem]) ?_
          try simp only [go_sem, ↓reduceIte, c3_0, c3_1]
          apply hK; clear hK hP
          refine aw_ret ?_
          refine athen_ret.2 ?_
          simp only [go_sem, ↓reduceIte, c3_0, c3_1, athen_ret]
        ·
          exact absurd trivial h4
      ·
        obtain ⟨⟨k, nl, l⟩, hs⟩ := Option.ne_none_iff_exists'.1 c3_1
        have hE : ofE x = (⟨k, nl, l⟩, 0) := by simp [ofE, c3_0, hs]
        rw [hE] at hOx
        have hg := ofS_good x c3_0 _ hs
        have hxb := validF_big c3_0
        have hpb : ∀ p ∈ l, p.t.big ≤ 40020000 := fun p hp => validF_big (hg.1.1.ok p hp).2.2.1
        have hvs : validSm ⟨k, nl, l⟩ = true := validSm_of (hg.1.mono fun f h => h.1)
        have hll := hg.2
        simp only at hll
        have hT := Term_call k nl l (by omega) (fun p hp => by have := hpb p hp; omega)
        obtain ⟨nl2, hts⟩ := ofS_term hg.1
        simp only at hts
        refine aw_sreg {} rfl (by simp only [allocObjs, go_sem]; rfl) fun K KP hK hP => ?_
        simp only [go_sem, ↓reduceIte, c3_0, c3_1]
        refine CallP.ret hOx (by simp only [go_sem]) ?_
        try simp only [go_sem, ↓reduceIte, c3_0, c3_1]
        apply hK; clear hK hP
        refine aw_seq ?_
        refine aw_sreg {} rfl rfl fun K KP hK hP => ?_
        simp only [go_sem, ↓reduceIte, c3_0, c3_1]
        apply hK; clear hK hP
        refine aw_if (False) (by simp only [go_sem, ↓reduceIte, c3_0, c3_1]) (fun h4 => ?_) (fun h4 => ?_)
        ·
          exact h4.elim
        ·
          refine aw_skip ?_
          refine athen_normal.2 ?_
          by_cases c6 : validF (termS ⟨k, nl, l⟩) = true
          ·
            have hTE : termE ⟨k, nl, l⟩ = (termS ⟨k, nl, l⟩, 0) := by simp [termE, hvs, c6]
            rw [hTE] at hT
            have hub := validF_big c6
            have hOu := Of_call (termS ⟨k, nl, l⟩) (by omega)
            have hE2 : ofE (termS ⟨k, nl, l⟩) = (⟨k, nl2, l⟩, 0) := by simp [ofE, c6, hts]
            rw [hE2] at hOu
            have hsame := same_call ⟨k, nl2, l⟩ ⟨k, true, l⟩ (fun p hp => by have := hpb p hp; omega) (by simp only; omega)
            have hss : sameS ⟨k, nl2, l⟩ ⟨k, true, l⟩ = true := by simp [sameS, sameL_self]
            rw [hss] at hsame
            have hth := theirs_call k nl l (by omega)
            refine aw_sreg {} rfl (by simp only [allocObjs, go_sem]; rfl) fun K KP hK hP => ?_
            simp only [go_sem, ↓reduceIte, c3_0, c3_1, c6]
            refine CallP.ret hT (by simp only [go_sem]) ?_
            try simp only [go_sem, ↓reduceIte, c3_0, c3_1, c6]
            apply hK; clear hK hP
            refine aw_seq ?_
            refine aw_sreg {} rfl rfl fun K KP hK hP => ?_
            simp only [go_sem, ↓reduceIte, c3_0, c3_1, c6]
            apply hK; clear hK hP
            refine aw_if (False) (by simp only [go_sem, ↓reduceIte, c3_0, c3_1, c6]) (fun h7 => ?_) (fun h7 => ?_)
            ·
              exact h7.elim
            ·
              refine aw_skip ?_
              refine athen_normal.2 ?_
              refine aw_sreg {} rfl (by simp only [allocObjs, go_sem]; rfl) fun K KP hK hP => ?_
              simp only [go_sem, ↓reduceIte, c3_0, c3_1, c6]
              refine CallP.ret hOu (by simp only [go_sem]) ?_
              try simp only [go_sem, ↓reduceIte, c3_0, c3_1, c6]
              apply hK; clear hK hP
              refine aw_sdraw {} [] [0, 1, 3, 7, 7, 23, 7, 71, 247, 511, 1023, 2047, 4095, 8191, 16383] mixed (by kernel_rfl) rfl rfl fun K KP hK hP => ?_
              simp only [go_sem, ↓reduceIte, c3_0, c3_1, c6]
              refine CallP.ret hth (by simp only [go_sem]) ?_
              try simp only [go_sem, ↓reduceIte, c3_0, c3_1, c6]
              refine CallP.ret hsame (by simp only [go_sem]) ?_
              try simp only [go_sem, ↓reduceIte, c3_0, c3_1, c6]
              refine CallP.ret linSane_call (by simp only [go_sem]) ?_
              try simp only [go_sem, ↓reduceIte, c3_0, c3_1, c6]
              apply hK; clear hK hP
              refine aw_ret ?_
              simp only [go_sem, ↓reduceIte, c3_0, c3_1, c6, athen_ret]
          ·
            have hTE : termE ⟨k, nl, l⟩ = (zeroF, 2) := by simp [termE, hvs, c6]
            rw [hTE] at hT
            refine aw_sreg {} rfl (by simp only [allocObjs, go_sem]; rfl) fun K KP hK hP => ?_
            simp only [go_sem, ↓reduceIte, c3_0, c3_1, c6, zeroF, List.map_nil]
            refine CallP.ret hT (by simp only [go_sem]) ?_
            try simp only [go_sem, ↓reduceIte, c3_0, c3_1, c6, zeroF, List.map_nil]
            apply hK; clear hK hP
            refine aw_seq ?_
            refine aw_sreg {} rfl rfl fun K KP hK hP => ?_
            simp only [go_sem, ↓reduceIte, c3_0, c3_1, c6]
            apply hK; clear hK hP
            refine aw_if (True) (by simp only [go_sem, ↓reduceIte, c3_0, c3_1, c6]) (fun h7 => ?_) (fun h7 => ?_)
            ·
              refine aw_sreg {} rfl rfl fun K KP hK hP => ?_
              simp only [go_sem, ↓reduceIte, c3_0, c3_1, c6]
              refine CallP.ret linSane_call (by simp only [go_sem]) ?_
              try simp only [go_sem, ↓reduceIte, c3_0, c3_1, c6]
              apply hK; clear hK hP
              refine aw_ret ?_
              refine athen_ret.2 ?_
              simp only [go_sem, ↓reduceIte, c3_0, c3_1, c6, athen_ret]
            ·
              exact absurd trivial h7
end Go.Ab
