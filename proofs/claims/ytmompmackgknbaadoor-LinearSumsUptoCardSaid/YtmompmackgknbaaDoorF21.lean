/-
  SUMS ADDED as they are exported; the greatest common divisor; the reference's sums as the program has them.
-/
import Derived.Test.YtmompmackgknbaaDoorF20
set_option linter.unusedVariables false
set_option linter.unusedSimpArgs false
set_option maxRecDepth 100000
namespace Go.Ab
open Go Go.RowKit Go.Proofs

theorem lvalid_call' (s : Sm) (hb : ∀ p ∈ s.l, p.t.big ≤ 4611686018427387904) (hl : s.l.length ≤ 4611686018427387904) : PCall CX 36 [s.av] (· = .ret (.bool (validSm s))) := lvalid_call s.k s.nl s.l hb hl
theorem rvalid_call' (s : Sm) (hb : ∀ p ∈ s.l, p.t.big ≤ 4611686018427387904) (hl : s.l.length ≤ 4611686018427387904) : PCall CX 50 [s.av] (· = .ret (.bool (validSm s))) := rvalid_call s.k s.nl s.l hb hl
theorem fit_valid {s : Sm} (h : validSm s = true) (hl : s.l.length ≤ 400000000000) : s.fit := by
  obtain ⟨hg, hw⟩ := validSm_good h
  refine ⟨(within_iff _).1 hw, fun p hp => (within_iff _).1 (hg.ok p hp).2.1, fun p hp => ?_, hl⟩
  have := validF_big (hg.ok p hp).2.2
  omega
theorem add1_some {a b : Sm} (ha : a.fit) (hb : b.fit) {f : Int} (hf : -9223372036854775808 ≤ f) (hf' : f ≤ 9223372036854775807) {s : Sm} (hs : plusS a b f = some s) (u x : Nat × AObj) (nm nx : Nat) (c0 c1 : AV) : ACall CX 49 [.rptr a.cells, .rptr b.cells, .rptr [.int .i64 f], .ref 1 nm 0] [u, (nm, .cells 29 [c0, c1]), x] nx (fun o σ' _ => (∃ v, o = .ret v) ∧ σ' = [u, (nm, .cells 29 s.cells), x]) := by
  have h := plus_call a b f ha hb hf hf'
  rw [hs] at h
  refine acall_mk 8 [] Tryd.func49 rfl (by decide) rfl rfl rfl ?_
  refine aw_lreg {} rfl rfl fun K KP hK hP => ?_
  simp only [go_sem, ↓reduceIte]
  refine CallP.ret h (by simp only [go_sem]) ?_
  try simp only [go_sem, ↓reduceIte]
  apply hK; clear hK hP
  simp only [go_sem, ↓reduceIte, athen_ret] <;> (
    exact ⟨_, rfl⟩)
theorem add1_none {a b : Sm} (ha : a.fit) (hb : b.fit) {f : Int} (hf : -9223372036854775808 ≤ f) (hf' : f ≤ 9223372036854775807) (hs : plusS a b f = none) (u x : Nat × AObj) (nm nx : Nat) (c0 c1 : AV) : ACall CX 49 [.rptr a.cells, .rptr b.cells, .rptr [.int .i64 f], .ref 1 nm 0] [u, (nm, .cells 29 [c0, c1]), x] nx (fun o σ' _ => o = .pan beyondA ∧ σ' = [u, (nm, .cells 29 [c0, c1]), x]) := by
  have h := plus_call a b f ha hb hf hf'
  rw [hs] at h
  refine acall_mk 8 [] Tryd.func49 rfl (by decide) rfl rfl rfl ?_
  refine aw_lreg {} rfl rfl fun K KP hK hP => ?_
  simp only [go_sem, ↓reduceIte]
  refine CallP.pan h (by simp only [go_sem]) ?_
  try simp only [go_sem, ↓reduceIte]
  refine hP _ _ _ fun env => ?_
  simp only [go_sem, and_self]
def addE (a b : Sm) (f : Int) : Sm × Int := if validSm a = true ∧ validSm b = true then (match plusS a b f with | some s => (s, 0) | none => (nilS, 5)) else (nilS, 1)
theorem Add_call (a b : Sm) (f : Int) (hba : ∀ p ∈ a.l, p.t.big ≤ 4611686018427387904) (hla : a.l.length ≤ 400000000000) (hbb : ∀ p ∈ b.l, p.t.big ≤ 4611686018427387904) (hlb : b.l.length ≤ 400000000000) (hf : -9223372036854775808 ≤ f) (hf' : f ≤ 9223372036854775807) : PCall CX 16 [a.av, b.av, .int .i64 f] (· = sumE (addE a b f)) := by
  refine pcall_mk 1 22 [.cell 6 29, .tmp 7] Tryd.func16 rfl (by decide) rfl rfl rfl ?_
  refine aw_sreg {} rfl (by simp only [allocObjs, go_sem]; rfl) fun K KP hK hP => ?_
  simp only [go_sem, ↓reduceIte]
  apply hK; clear hK hP
  refine aw_seq ?_
  refine aw_sregB {} 9 15 16 (.bool (decide (¬ (validSm a = true ∧ validSm b = true)))) rfl rfl rfl (fun K KP hK hP => ?_) (fun junk1 => ?_)
  ·
    by_cases c1_0 : ¬ validSm a = true
    ·
      simp only [go_sem, ↓reduceIte, c1_0, show validSm a = false by simpa using c1_0]
      refine CallP.ret (lvalid_call' a hba (by omega)) (by simp only [go_sem]) ?_
      try simp only [go_sem, ↓reduceIte, c1_0, show validSm a = false by simpa using c1_0]
      refine hK _ (by first | rfl | (simp only [go_sem, ↓reduceIte, c1_0, show validSm a = false by simpa using c1_0])) rfl ?_
      simp only [go_sem, ↓reduceIte, Nat.reduceEqDiff]; simp [c1_0]
    ·
      replace c1_0 := Classical.not_not.1 c1_0
      simp only [go_sem, ↓reduceIte, c1_0]
      refine CallP.ret (lvalid_call' a hba (by omega)) (by simp only [go_sem]) ?_
      try simp only [go_sem, ↓reduceIte, c1_0]
      refine CallP.ret (lvalid_call' b hbb (by omega)) (by simp only [go_sem]) ?_
      try simp only [go_sem, ↓reduceIte, c1_0]
      refine hK _ (by first | rfl | (simp only [go_sem, ↓reduceIte, c1_0])) rfl ?_
      simp only [go_sem, ↓reduceIte, Nat.reduceEqDiff]; simp [c1_0]
  ·
    refine aw_if (¬ (validSm a = true ∧ validSm b = true)) (by simp only [go_sem, ↓reduceIte]) (fun h1 => ?_) (fun h1 => ?_)
    ·
      refine aw_sreg {} rfl rfl fun K KP hK hP => ?_
      simp only [go_sem, ↓reduceIte]
      apply hK; clear hK hP
      refine aw_ret ?_
      refine athen_ret.2 ?_
      simp only [go_sem, ↓reduceIte, athen_ret] <;> (
        simp [sumE, addE, h1, nilS, go_sem, termsA])
    ·
      have hv := Classical.not_not.1 h1
      have fa := fit_valid hv.1 hla
      have fb := fit_valid hv.2 hlb
      refine aw_skip ?_
      refine athen_normal.2 ?_
      refine aw_sreg {} rfl (by simp only [allocObjs, go_sem]; rfl) fun K KP hK hP => ?_
      simp only [go_sem, ↓reduceIte]
      apply hK; clear hK hP
      refine aw_seq ?_
      by_cases c4_0 : plusS a b f = none
      ·
        refine aw_sreg { ac := [19] } rfl rfl fun K KP hK hP => ?_
        simp only [go_sem, ↓reduceIte, c4_0]
        refine CallP.acallN (caught_pan (σ2 := [(0, .cells 29 [.int .i64 0, .base (.slice none 0 0)]), (1, .cells 29 [.int .i64 0, .base (.slice none 0 0)])]) rfl fun x nx1 => add1_none fa fb hf hf' c4_0 _ x 1 nx1 _ _) (fun nx1 => ?_)
        try simp only [go_sem, ↓reduceIte, c4_0]
        apply hK; clear hK hP
        refine aw_if (True) (by simp only [go_sem, ↓reduceIte, c4_0]) (fun h4 => ?_) (fun h4 => ?_)
        ·
          refine aw_sreg {} rfl rfl fun K KP hK hP => ?_
          simp only [go_sem, ↓reduceIte, c4_0]
          apply hK; clear hK hP
          refine aw_ret ?_
          refine athen_ret.2 ?_
          simp only [go_sem, ↓reduceIte, c4_0, athen_ret] <;> (
            simp [sumE, addE, hv, c4_0, nilS, go_sem, termsA])
        ·
          exact absurd trivial h4
      ·
        obtain ⟨s, hs⟩ := Option.ne_none_iff_exists'.1 c4_0
        refine aw_sreg { ac := [19] } rfl rfl fun K KP hK hP => ?_
        simp only [go_sem, ↓reduceIte, c4_0]
        refine CallP.acallN (caught_ret (σ2 := [(0, .cells 29 [.int .i64 0, .base (.slice none 0 0)]), (1, .cells 29 s.cells)]) rfl fun x nx1 => add1_some fa fb hf hf' hs _ x 1 nx1 _ _) (fun nx1 => ?_)
        try simp only [go_sem, ↓reduceIte, c4_0]
        apply hK; clear hK hP
        refine aw_if (False) (by simp only [go_sem, ↓reduceIte, c4_0]) (fun h4 => ?_) (fun h4 => ?_)
        ·
          exact h4.elim
        ·
          refine aw_skip ?_
          refine athen_normal.2 ?_
          refine aw_sreg {} rfl rfl fun K KP hK hP => ?_
          simp only [go_sem, ↓reduceIte, c4_0]
          apply hK; clear hK hP
          refine aw_ret ?_
          simp only [go_sem, ↓reduceIte, c4_0, athen_ret] <;> (
            simp [sumE, addE, hv, hs, go_sem])
theorem refAdd_call (a b : Sm) (f : Int) (hba : ∀ p ∈ a.l, p.t.big ≤ 4611686018427387904) (hla : a.l.length ≤ 400000000000) (hbb : ∀ p ∈ b.l, p.t.big ≤ 4611686018427387904) (hlb : b.l.length ≤ 400000000000) (hf : -9223372036854775808 ≤ f) (hf' : f ≤ 9223372036854775807) : PCall CX 18 [a.av, b.av, .int .i64 f] (· = sumE (addE a b f)) := by
  refine pcall_mk 1 30 [.cell 6 39, .tmp 7] Tryd.func18 rfl (by decide) rfl rfl rfl ?_
  refine aw_sreg {} rfl (by simp only [allocObjs, go_sem]; rfl) fun K KP hK hP => ?_
  simp only [go_sem, ↓reduceIte]
  apply hK; clear hK hP
  refine aw_seq ?_
  refine aw_sregB {} 10 16 17 (.bool (decide (¬ (validSm a = true ∧ validSm b = true)))) rfl rfl rfl (fun K KP hK hP => ?_) (fun junk1 => ?_)
  ·
    by_cases c1_0 : ¬ validSm a = true
    ·
      simp only [go_sem, ↓reduceIte, c1_0, show validSm a = false by simpa using c1_0]
      refine CallP.ret (rvalid_call' a hba (by omega)) (by simp only [go_sem]) ?_
      try simp only [go_sem, ↓reduceIte, c1_0, show validSm a = false by simpa using c1_0]
      refine hK _ (by first | rfl | (simp only [go_sem, ↓reduceIte, c1_0, show validSm a = false by simpa using c1_0])) rfl ?_
      simp only [go_sem, ↓reduceIte, Nat.reduceEqDiff]; simp [c1_0]
    ·
      replace c1_0 := Classical.not_not.1 c1_0
      simp only [go_sem, ↓reduceIte, c1_0]
      refine CallP.ret (rvalid_call' a hba (by omega)) (by simp only [go_sem]) ?_
      try simp only [go_sem, ↓reduceIte, c1_0]
      refine CallP.ret (rvalid_call' b hbb (by omega)) (by simp only [go_sem]) ?_
      try simp only [go_sem, ↓reduceIte, c1_0]
      refine hK _ (by first | rfl | (simp only [go_sem, ↓reduceIte, c1_0])) rfl ?_
      simp only [go_sem, ↓reduceIte, Nat.reduceEqDiff]; simp [c1_0]
  ·
    refine aw_if (¬ (validSm a = true ∧ validSm b = true)) (by simp only [go_sem, ↓reduceIte]) (fun h1 => ?_) (fun h1 => ?_)
    ·
      refine aw_sreg {} rfl rfl fun K KP hK hP => ?_
      simp only [go_sem, ↓reduceIte]
      apply hK; clear hK hP
      refine aw_ret ?_
      refine athen_ret.2 ?_
      simp only [go_sem, ↓reduceIte, athen_ret] <;> (
        simp [sumE, addE, h1, nilS, go_sem, termsA])
    ·
      have hv := Classical.not_not.1 h1
      have fa := fit_valid hv.1 hla
      have fb := fit_valid hv.2 hlb
      refine aw_skip ?_
      refine athen_normal.2 ?_
      refine aw_sreg {} rfl (by simp only [allocObjs, go_sem]; rfl) fun K KP hK hP => ?_
      simp only [go_sem, ↓reduceIte]
      refine CallP.ofR (x := plusS a b f) (refSum_call a b f fa fb hf hf') (by simp only [go_sem]) fun s hs => ?_
      try simp only [go_sem, ↓reduceIte]
      apply hK; clear hK hP
      refine aw_seq ?_
      refine aw_sreg {} rfl rfl fun K KP hK hP => ?_
      simp only [go_sem, ↓reduceIte]
      apply hK; clear hK hP
      refine aw_if (plusS a b f = none) (by simp only [go_sem, ↓reduceIte, Nat.reduceEqDiff]; cases plusS a b f <;> simp) (fun h4 => ?_) (fun h4 => ?_)
      ·
        refine aw_sreg {} rfl rfl fun K KP hK hP => ?_
        simp only [go_sem, ↓reduceIte]
        apply hK; clear hK hP
        refine aw_ret ?_
        refine athen_ret.2 ?_
        simp only [go_sem, ↓reduceIte, athen_ret] <;> (
          simp [sumE, addE, hv, h4, nilS, go_sem, termsA])
      ·
        obtain ⟨r, hr⟩ := Option.ne_none_iff_exists'.1 h4
        have hsa := hs r hr
        subst hsa
        refine aw_skip ?_
        refine athen_normal.2 ?_
        refine aw_sreg {} rfl rfl fun K KP hK hP => ?_
        simp only [go_sem, ↓reduceIte]
        apply hK; clear hK hP
        refine aw_ret ?_
        simp only [go_sem, ↓reduceIte, athen_ret] <;> (
          simp [sumE, addE, hv, hr, go_sem])

/-! ### The greatest common divisor -/
theorem divisor_call (a b : Int) (ha : -1152921504606846976 ≤ a) (ha' : a ≤ 1152921504606846976) (hb : -1152921504606846976 ≤ b) (hb' : b ≤ 1152921504606846976) : PCall CX 51 [.int .i64 a, .int .i64 b] (· = .ret (.int .i64 ((Nat.gcd a.natAbs b.natAbs : Nat) : Int))) := by
  have hwa : IntKind.wrap .i64 (0 - a) = 0 - a := wrap64 (by omega) (by omega)
  have hwb : IntKind.wrap .i64 (0 - b) = 0 - b := wrap64 (by omega) (by omega)
  have hma : (if 0 - a > a then 0 - a else a) = ((a.natAbs : Nat) : Int) := by split <;> omega
  have hmb : (if 0 - b > b then 0 - b else b) = ((b.natAbs : Nat) : Int) := by split <;> omega
  refine pcall_mk 0 20 [.tmp 4] Tryd.func51 rfl (by decide) rfl rfl rfl ?_
  refine aw_sreg {} rfl rfl fun K KP hK hP => ?_
  simp only [go_sem, ↓reduceIte, hwa, hwb, hma, hmb]
  apply hK; clear hK hP
  refine aw_sreg {} rfl rfl fun K KP hK hP => ?_
  simp only [go_sem, ↓reduceIte, hwa, hwb, hma, hmb]
  apply hK; clear hK hP
  refine aw_seq ?_
  refine aw_block ?_
  refine aw_loop' (fun dd st => ∃ (x y : Nat), (Nat.gcd x y = Nat.gcd a.natAbs b.natAbs) ∧ (y ≤ 1152921504606846976) ∧ y = dd ∧ [] = st.σ ∧ st.env 0 = .int .i64 (x : Nat) ∧ st.env 1 = .int .i64 (y : Nat)) (fun dd st hJ => ?_) ?_
  ·
    obtain ⟨env0, σ0, nx0⟩ := st
    obtain ⟨x, y, hp0_0, hp0_1, hd0, hs0, e0_0, e0_1⟩ := hJ
    dsimp only at hs0  e0_0 e0_1
    subst hd0; subst hs0
    refine aw_forget' 0 rfl ?_
    refine aw_seq ?_
    refine aw_sreg {} rfl rfl fun K KP hK hP => ?_
    simp only [go_sem, ↓reduceIte, hwa, hwb, hma, hmb, e0_0, e0_1]
    apply hK; clear hK hP
    refine aw_if (0 < y) (by simp only [go_sem, ↓reduceIte, hwa, hwb, hma, hmb, e0_0, e0_1]) (fun h2 => ?_) (fun h2 => ?_)
    ·
      have hy : ¬ y = 0 := by omega
      have hmod : IntKind.wrap .i64 (Int.tmod (x : Int) (y : Int)) = ((x % y : Nat) : Int) := by
        have hlt := Nat.mod_lt x h2
        rw [← Int.ofNat_tmod]; exact wrap64 (by omega) (by omega)
      refine aw_skip ?_
      refine athen_normal.2 ?_
      refine aw_block ?_
      refine aw_ldraw {} [] [0, 0, 0, 6, 3, 31] mixed (by kernel_rfl) rfl rfl fun K KP hK hP => ?_
      simp only [go_sem, ↓reduceIte, hwa, hwb, hma, hmb, e0_0, e0_1, hy, hmod]
      apply hK; clear hK hP
      refine ablock_normal.2 ?_
      refine afor_zero ?_
      refine athen_normal.2 ?_
      refine ⟨_, ?_, y, x % y, ?_, ?_, rfl, rfl, ?_, ?_⟩
      · exact Nat.mod_lt _ h2
      · rw [← hp0_0, Nat.gcd_comm x y, Nat.gcd_rec y x, Nat.gcd_comm]
      · have hlt := Nat.mod_lt x h2; omega
      · simp only [go_sem, ↓reduceIte, hwa, hwb, hma, hmb, e0_0, e0_1, hy, hmod] <;> try rfl
      · simp only [go_sem, ↓reduceIte, hwa, hwb, hma, hmb, e0_0, e0_1, hy, hmod] <;> try rfl
    ·
      refine aw_exit ?_
      refine athen_exit.2 ?_
      refine afor_zero ?_
      refine athen_exit.2 ?_
      refine ablock_here ?_
      refine athen_normal.2 ?_
      refine aw_sreg {} rfl rfl fun K KP hK hP => ?_
      simp only [go_sem, ↓reduceIte, hwa, hwb, hma, hmb, e0_0, e0_1]
      apply hK; clear hK hP
      refine aw_ret ?_
      simp only [go_sem, ↓reduceIte, hwa, hwb, hma, hmb, e0_0, e0_1, athen_ret] <;> (
        have : y = 0 := by omega
        subst this
        rw [Nat.gcd_zero_right] at hp0_0
        rw [hp0_0])
  ·
    refine ⟨_, a.natAbs, b.natAbs, ?_, ?_, rfl, ?_, ?_, ?_⟩
    · first | omega | trivial | assumption
    · first | omega | trivial | assumption
    · first | rfl | (simp only [go_sem, ↓reduceIte, hwa, hwb, hma, hmb])
    · simp only [go_sem, ↓reduceIte, hwa, hwb, hma, hmb] <;> try rfl
    · simp only [go_sem, ↓reduceIte, hwa, hwb, hma, hmb] <;> try rfl
theorem refDivisor_call (m n : Nat) (hm : m ≤ 9223372036854775807) (hn : n ≤ 9223372036854775807) : PCall CX 52 [.int .i64 m, .int .i64 n] (· = .ret (.int .i64 ((Nat.gcd m n : Nat) : Int))) := by
  refine pcall_mk 0 12 [.tmp 4] Tryd.func52 rfl (by decide) rfl rfl rfl ?_
  refine aw_sreg {} rfl rfl fun K KP hK hP => ?_
  simp only [go_sem, ↓reduceIte]
  apply hK; clear hK hP
  refine aw_seq ?_
  refine aw_block ?_
  refine aw_loop' (fun dd st => ∃ (x y : Nat), (Nat.gcd x y = Nat.gcd m n) ∧ (y ≤ 9223372036854775807) ∧ y = dd ∧ [] = st.σ ∧ st.env 0 = .int .i64 (x : Nat) ∧ st.env 1 = .int .i64 (y : Nat)) (fun dd st hJ => ?_) ?_
  ·
    obtain ⟨env0, σ0, nx0⟩ := st
    obtain ⟨x, y, hp0_0, hp0_1, hd0, hs0, e0_0, e0_1⟩ := hJ
    dsimp only at hs0  e0_0 e0_1
    subst hd0; subst hs0
    refine aw_forget' 0 rfl ?_
    refine aw_seq ?_
    refine aw_sreg {} rfl rfl fun K KP hK hP => ?_
    simp only [go_sem, ↓reduceIte, e0_0, e0_1]
    apply hK; clear hK hP
    refine aw_if (¬ y = 0) (by simp only [go_sem, ↓reduceIte, e0_0, e0_1]) (fun h1 => ?_) (fun h1 => ?_)
    ·
      have h2 : 0 < y := by omega
      have hmod : IntKind.wrap .i64 (Int.tmod (x : Int) (y : Int)) = ((x % y : Nat) : Int) := by
        have hlt := Nat.mod_lt x h2
        rw [← Int.ofNat_tmod]; exact wrap64 (by omega) (by omega)
      refine aw_skip ?_
      refine athen_normal.2 ?_
      refine aw_block ?_
      refine aw_ldraw {} [] [0, 0, 0, 6, 3, 31] mixed (by kernel_rfl) rfl rfl fun K KP hK hP => ?_
      simp only [go_sem, ↓reduceIte, e0_0, e0_1, h1, hmod]
      apply hK; clear hK hP
      refine ablock_normal.2 ?_
      refine afor_zero ?_
      refine athen_normal.2 ?_
      refine ⟨_, ?_, y, x % y, ?_, ?_, rfl, rfl, ?_, ?_⟩
      · exact Nat.mod_lt _ h2
      · rw [← hp0_0, Nat.gcd_comm x y, Nat.gcd_rec y x, Nat.gcd_comm]
      · have hlt := Nat.mod_lt x h2; omega
      · simp only [go_sem, ↓reduceIte, e0_0, e0_1, h1, hmod] <;> try rfl
      · simp only [go_sem, ↓reduceIte, e0_0, e0_1, h1, hmod] <;> try rfl
    ·
      refine aw_exit ?_
      refine athen_exit.2 ?_
      refine afor_zero ?_
      refine athen_exit.2 ?_
      refine ablock_here ?_
      refine athen_normal.2 ?_
      refine aw_sreg {} rfl rfl fun K KP hK hP => ?_
      simp only [go_sem, ↓reduceIte, e0_0, e0_1]
      apply hK; clear hK hP
      refine aw_ret ?_
      simp only [go_sem, ↓reduceIte, e0_0, e0_1, athen_ret] <;> (
        have : y = 0 := by omega
        subst this
        rw [Nat.gcd_zero_right] at hp0_0
        rw [hp0_0])
  ·
    refine ⟨_, m, n, ?_, ?_, rfl, ?_, ?_, ?_⟩
    · first | omega | trivial | assumption
    · first | omega | trivial | assumption
    · first | rfl | (simp only [go_sem, ↓reduceIte])
    · simp only [go_sem, ↓reduceIte] <;> try rfl
    · simp only [go_sem, ↓reduceIte] <;> try rfl
/-! ### Sums as the program has them -/
theorem mine_call (k : Int) (nl : Bool) (l : List Pt) (hl : l.length ≤ 1000000000000) : PCall CX 17 [Sm.av ⟨k, nl, l⟩] (· = .ret (Sm.av ⟨k, true, l⟩)) := by
  refine pcall_mk 3 34 [.cell 2 29] Tryd.func17 rfl (by decide) rfl rfl rfl ?_
  simp only [go_sem]
  refine aw_sreg {} rfl (by simp only [allocObjs, go_sem]; rfl) fun K KP hK hP => ?_
  simp only [go_sem, ↓reduceIte]
  apply hK; clear hK hP
  refine aw_sreg {} rfl (by simp only [allocObjs, go_sem]; rfl) fun K KP hK hP => ?_
  simp only [go_sem, ↓reduceIte]
  apply hK; clear hK hP
  refine aw_seq ?_
  refine aw_sreg {} rfl rfl fun K KP hK hP => ?_
  simp only [go_sem, ↓reduceIte]
  apply hK; clear hK hP
  refine aw_block ?_
  refine aw_loop' (fun dd st => ∃ (i : Nat) (tv : AV) (σr : Sto), (i ≤ l.length) ∧ (held2 5 68 ((l.map Pt.row).take i) tv σr) ∧ l.length - i = dd ∧ (0, .cells 29 [.int .i64 0, .base (.slice none 0 0)]) :: (1, .cells 29 [.int .i64 k, tv]) :: σr = st.σ ∧ st.env 1 = .rptr [.int .i64 k, termsA nl (l.map Pt.row)] ∧ st.env 2 = .ref 0 0 0 ∧ st.env 3 = .ref 1 1 0 ∧ st.env 4 = .int .i64 (i : Nat)) (fun dd st hJ => ?_) ?_
  ·
    obtain ⟨env0, σ0, nx0⟩ := st
    obtain ⟨i, tv, σr, hp0_0, hp0_1, hd0, hs0, e0_1, e0_2, e0_3, e0_4⟩ := hJ
    dsimp only at hs0  e0_1 e0_2 e0_3 e0_4
    subst hd0; subst hs0
    refine aw_seq ?_
    refine aw_sreg {} rfl rfl fun K KP hK hP => ?_
    simp only [go_sem, ↓reduceIte, e0_1, e0_2, e0_3, e0_4]
    apply hK; clear hK hP
    refine aw_if (i < l.length) (by simp only [go_sem, ↓reduceIte, e0_1, e0_2, e0_3, e0_4]) (fun h3 => ?_) (fun h3 => ?_)
    ·
      have hw1 : IntKind.wrap .i64 ((i : Int) + 1) = ((i + 1 : Nat) : Int) := by rw [wrap64 (by omega) (by omega)]; omega
      have hlim : (i + 1) * 64 ≤ limB := by unfold limB; omega
      have hlim1 : 64 ≤ limB := by decide
      have hli : i + 1 ≤ 4611686018427387904 := by omega
      have htk : ((l.map Pt.row).take i).length = i := by simp; omega
      have hsucc : (l.map Pt.row).take (i + 1) = (l.map Pt.row).take i ++ [.int .i64 l[i].c :: l[i].t.cells] := by rw [List.take_succ_eq_append_getElem (by simpa using h3)]; simp [Pt.row]
      refine aw_skip ?_
      refine athen_normal.2 ?_
      refine aw_seq ?_
      refine aw_block ?_
      by_cases c5 : (l.map Pt.row).take i = []
      ·
        have htv := hp0_1.nil c5
        subst htv
        refine aw_ldraw {} [] [0, 1, 0, 4, 0, 28, 60, 124, 0, 256, 0, 1792, 3840, 7936, 16380, 32764, 65535, 131071, 262143] mixed (by kernel_rfl) rfl rfl fun K KP hK hP => ?_
        simp only [go_sem, ↓reduceIte, e0_1, e0_2, e0_3, e0_4, h3, getD_rows h3, hw1, hlim, hlim1, hli, List.replicate_succ, c5]
        apply hK; clear hK hP
        refine ablock_normal.2 ?_
        refine athen_normal.2 ?_
        refine aw_lreg {} rfl rfl fun K KP hK hP => ?_
        simp only [go_sem, ↓reduceIte, e0_1, e0_2, e0_3, e0_4, h3, getD_rows h3, hw1, hlim, hlim1, hli, List.replicate_succ, c5]
        apply hK; clear hK hP
        refine athen_normal.2 ?_
        refine ⟨_, ?_, i + 1, .sref (σr.length + 1 + 1) nx0 5 0 1, σr ++ [(nx0, .gvec 5 68 [.int .i64 l[i].c :: l[i].t.cells])], ?_, ?_, rfl, rfl, ?_, ?_, ?_, ?_⟩
        · omega
        · first | omega | trivial | assumption
        · rw [hsucc, c5]; exact held2.new (by simp) _ _
        · simp only [go_sem, ↓reduceIte, e0_1, e0_2, e0_3, e0_4, h3, getD_rows h3, hw1, hlim, hlim1, hli, List.replicate_succ, c5] <;> try rfl
        · simp only [go_sem, ↓reduceIte, e0_1, e0_2, e0_3, e0_4, h3, getD_rows h3, hw1, hlim, hlim1, hli, List.replicate_succ, c5] <;> try rfl
        · simp only [go_sem, ↓reduceIte, e0_1, e0_2, e0_3, e0_4, h3, getD_rows h3, hw1, hlim, hlim1, hli, List.replicate_succ, c5] <;> try rfl
        · simp only [go_sem, ↓reduceIte, e0_1, e0_2, e0_3, e0_4, h3, getD_rows h3, hw1, hlim, hlim1, hli, List.replicate_succ, c5] <;> try rfl
      ·
        obtain ⟨q, nm, htv, hS2, hS3, hset⟩ := hp0_1.some c5
        generalize (l.map Pt.row).take i = R at *
        rw [htk] at htv
        subst htv
        have htt : R.take i = R := List.take_of_length_le (by omega)
        refine aw_ldraw {} [] [0, 1, 0, 4, 0, 28, 60, 124, 0, 256, 0, 1792, 3840, 7936, 16380, 32764, 65535, 131071, 262143] mixed (by kernel_rfl) rfl rfl fun K KP hK hP => ?_
        simp only [go_sem, ↓reduceIte, e0_1, e0_2, e0_3, e0_4, h3, getD_rows h3, hw1, hlim, hlim1, hli, List.replicate_succ, c5, hS2, hS3, htk, htt]
        apply hK; clear hK hP
        refine ablock_normal.2 ?_
        refine athen_normal.2 ?_
        refine aw_lreg {} rfl rfl fun K KP hK hP => ?_
        simp only [go_sem, ↓reduceIte, e0_1, e0_2, e0_3, e0_4, h3, getD_rows h3, hw1, hlim, hlim1, hli, List.replicate_succ, c5]
        apply hK; clear hK hP
        refine athen_normal.2 ?_
        refine ⟨_, ?_, i + 1, .sref (q + 1 + 1) nx0 5 0 (i + 1), σr.set q (nx0, .gvec 5 68 (R ++ [.int .i64 l[i].c :: l[i].t.cells])), ?_, ?_, rfl, rfl, ?_, ?_, ?_, ?_⟩
        · omega
        · first | omega | trivial | assumption
        · rw [hsucc]
          have := hset [] nx0 (R ++ [.int .i64 l[i].c :: l[i].t.cells]) (by simp)
          simpa [htk] using this
        · simp only [go_sem, ↓reduceIte, e0_1, e0_2, e0_3, e0_4, h3, getD_rows h3, hw1, hlim, hlim1, hli, List.replicate_succ, c5] <;> try rfl
        · simp only [go_sem, ↓reduceIte, e0_1, e0_2, e0_3, e0_4, h3, getD_rows h3, hw1, hlim, hlim1, hli, List.replicate_succ, c5] <;> try rfl
        · simp only [go_sem, ↓reduceIte, e0_1, e0_2, e0_3, e0_4, h3, getD_rows h3, hw1, hlim, hlim1, hli, List.replicate_succ, c5] <;> try rfl
        · simp only [go_sem, ↓reduceIte, e0_1, e0_2, e0_3, e0_4, h3, getD_rows h3, hw1, hlim, hlim1, hli, List.replicate_succ, c5] <;> try rfl
    ·
      refine aw_exit ?_
      refine athen_exit.2 ?_
      refine athen_exit.2 ?_
      refine ablock_here ?_
      refine athen_normal.2 ?_
      by_cases c6 : l = []
      ·
        have htv := hp0_1.nil (by simp [c6])
        subst htv
        have hi : i = l.length := by omega
        have hfull : (l.map Pt.row).take i = l.map Pt.row := List.take_of_length_le (by simp; omega)
        refine aw_sreg {} rfl rfl fun K KP hK hP => ?_
        simp only [go_sem, ↓reduceIte, e0_1, e0_2, e0_3, e0_4, c6]
        apply hK; clear hK hP
        refine aw_ret ?_
        simp only [go_sem, ↓reduceIte, e0_1, e0_2, e0_3, e0_4, c6, athen_ret, termsA, List.map_nil]
      ·
        have hi : i = l.length := by omega
        have hfull : (l.map Pt.row).take i = l.map Pt.row := List.take_of_length_le (by simp; omega)
        rw [hfull] at hp0_1
        obtain ⟨q, nm, htv, hS2, hS3, hset⟩ := hp0_1.some (by simpa using c6)
        rw [List.length_map] at htv
        subst htv
        have hi : i = l.length := by omega
        have hfull : (l.map Pt.row).take i = l.map Pt.row := List.take_of_length_le (by simp; omega)
        refine aw_sreg {} rfl rfl fun K KP hK hP => ?_
        simp only [go_sem, ↓reduceIte, e0_1, e0_2, e0_3, e0_4, c6]
        apply hK; clear hK hP
        refine aw_ret ?_
        simp only [go_sem, ↓reduceIte, e0_1, e0_2, e0_3, e0_4, c6, athen_ret, hS2, hS3, List.length_map, List.map_id'] <;> (
          have htt : termsA true (l.map Pt.row) = .vec 5 (l.map Pt.row) := by cases l with | nil => exact absurd rfl c6 | cons => rfl
          simp only [htt, and_self])
  ·
    refine ⟨_, 0, .base (.slice none 0 0), [], ?_, ?_, rfl, ?_, ?_, ?_, ?_, ?_⟩
    · first | omega | trivial | assumption
    · exact .inl ⟨rfl, rfl⟩
    · first | rfl | (simp only [go_sem, ↓reduceIte])
    · simp only [go_sem, ↓reduceIte] <;> try rfl
    · simp only [go_sem, ↓reduceIte] <;> try rfl
    · simp only [go_sem, ↓reduceIte] <;> try rfl
    · simp only [go_sem, ↓reduceIte] <;> try rfl
end Go.Ab
