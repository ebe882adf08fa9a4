/-
  THE SUM OF A TERM, as it is exported.
-/
import Derived.Test.YtmompmackgknbaaDoorF11
set_option linter.unusedVariables false
set_option linter.unusedSimpArgs false
set_option maxRecDepth 100000
namespace Go.Ab
open Go Go.RowKit Go.Proofs

/-! ### Valid forms are not big -/
theorem leafS_len {k n : Int} {t : List UInt8} {l : List Fm} (h : leafS k n t l = true) : t.length ≤ 2000 := by
  unfold leafS at h
  split at h
  · simp at h; simp [h.1]
  · split at h
    · simp [wordS] at h; omega
    · split at h
      · simp at h; omega
      · split at h
        · simp at h; simp [h.1]
        · cases h
theorem validLS_big : ∀ (l : List Fm), (∀ f ∈ l, ∀ p d : Int, 0 ≤ p → (validS f p d).1 = true → (f.big : Int) ≤ 2001 * (p - (validS f p d).2)) → ∀ p d : Int, 0 ≤ p → (validLS l p d).1 = true → (Fm.bigL l : Int) ≤ 2001 * (p - (validLS l p d).2)
  | [], _, p, d, _, _ => by simp only [validLS, Fm.bigL]; omega
  | f :: r, ih, p, d, hp, h => by
    simp only [validLS] at h ⊢
    split at h
    · rename_i hf
      rw [if_pos hf]
      have h1 := ih f (by simp) p d hp hf
      have h2 := validLS_big r (fun g hg => ih g (by simp [hg])) (validS f p d).2 d (validS_ok f p d hp hf).1 h
      simp only [Fm.bigL]
      omega
    · cases h
theorem validS_big : ∀ f : Fm, ∀ p d : Int, 0 ≤ p → (validS f p d).1 = true → (f.big : Int) ≤ 2001 * (p - (validS f p d).2) := Fm.ind fun k n t nl l ih p d hp h => by
  simp only [validS] at h ⊢
  split at h
  · cases h
  · rename_i hc
    rw [if_neg hc]
    have h1 := validLS_big l ih (p - 1) (d - 1) (by omega) h
    have h2 : leafS k n t l = true := by
      cases hl : leafS k n t l
      · exact absurd (.inr (.inr hl)) hc
      · rfl
    have h3 := leafS_len h2
    simp only [Fm.big]
    omega
theorem validF_big {f : Fm} (h : validF f = true) : f.big ≤ 40020000 := by
  have h1 := validS_big f 20000 100 (by decide) h
  have h2 := (validS_ok f 20000 100 (by decide) h).1
  omega

/-! ### Of -/
@[go_sem] theorem resA_none (P : Program) (s : St) : resA P [] s = some (.tup []) := rfl
theorem of1_some {f : Fm} (hv : validF f = true) {s : Sm} (hs : ofS f = some s) (a x : Nat × AObj) (nm nx : Nat) (c0 c1 : AV) : ACall CX 34 [.rptr f.cells, .ref 1 nm 0] [a, (nm, .cells 29 [c0, c1]), x] nx (fun o σ' _ => (∃ v, o = .ret v) ∧ σ' = [a, (nm, .cells 29 s.cells), x]) := by
  have hb := validF_big hv
  have h := of_call' f hv (by omega)
  rw [outS_some hs] at h
  refine acall_mk 4 [] Tryd.func34 rfl (by decide) rfl rfl rfl ?_
  refine aw_lreg {} rfl rfl fun K KP hK hP => ?_
  simp only [go_sem, ↓reduceIte]
  refine CallP.ret h (by simp only [go_sem]) ?_
  try simp only [go_sem, ↓reduceIte]
  apply hK; clear hK hP
  simp only [go_sem, ↓reduceIte, athen_ret] <;> (
    exact ⟨_, rfl⟩)
theorem of1_none {f : Fm} (hv : validF f = true) (hs : ofS f = none) (a x : Nat × AObj) (nm nx : Nat) (c0 c1 : AV) : ACall CX 34 [.rptr f.cells, .ref 1 nm 0] [a, (nm, .cells 29 [c0, c1]), x] nx (fun o σ' _ => o = .pan beyondA ∧ σ' = [a, (nm, .cells 29 [c0, c1]), x]) := by
  have hb := validF_big hv
  have h := of_call' f hv (by omega)
  rw [outS_none hs] at h
  refine acall_mk 4 [] Tryd.func34 rfl (by decide) rfl rfl rfl ?_
  refine aw_lreg {} rfl rfl fun K KP hK hP => ?_
  simp only [go_sem, ↓reduceIte]
  refine CallP.pan h (by simp only [go_sem]) ?_
  try simp only [go_sem, ↓reduceIte]
  refine hP _ _ _ fun env => ?_
  simp only [go_sem, and_self]
/-- What Of tells: a sum, and an error. -/
def ofE (f : Fm) : Sm × Int := if validF f = true then (match ofS f with | some s => (s, 0) | none => (nilS, 5)) else (nilS, 1)
def sumE (r : Sm × Int) : AOut := .ret (.tup [r.1.av, .int .i64 r.2])
theorem Of_call (f : Fm) (hb : f.big ≤ 4611686018427387904) : PCall CX 9 [f.av] (· = sumE (ofE f)) := by
  refine pcall_mk 1 13 [.cell 2 29, .tmp 3] Tryd.func9 rfl (by decide) rfl rfl rfl ?_
  refine aw_sreg {} rfl (by simp only [allocObjs, go_sem]; rfl) fun K KP hK hP => ?_
  simp only [go_sem, ↓reduceIte]
  apply hK; clear hK hP
  refine aw_seq ?_
  refine aw_sreg {} rfl rfl fun K KP hK hP => ?_
  simp only [go_sem, ↓reduceIte]
  refine CallP.ret (Valid_call f hb) (by simp only [go_sem]) ?_
  try simp only [go_sem, ↓reduceIte]
  apply hK; clear hK hP
  refine aw_if (¬ validF f = true) (by simp only [go_sem, ↓reduceIte, Nat.reduceEqDiff]; simp [validF]) (fun h1 => ?_) (fun h1 => ?_)
  ·
    refine aw_sreg {} rfl rfl fun K KP hK hP => ?_
    simp only [go_sem, ↓reduceIte]
    apply hK; clear hK hP
    refine aw_ret ?_
    refine athen_ret.2 ?_
    simp only [go_sem, ↓reduceIte, athen_ret] <;> (
      simp [sumE, ofE, h1, nilS, go_sem, termsA])
  ·
    refine aw_skip ?_
    refine athen_normal.2 ?_
    refine aw_sreg {} rfl (by simp only [allocObjs, go_sem]; rfl) fun K KP hK hP => ?_
    simp only [go_sem, ↓reduceIte]
    apply hK; clear hK hP
    refine aw_seq ?_
    by_cases c4_0 : ofS f = none
    ·
      have hv : validF f = true := Classical.not_not.1 h1
      refine aw_sreg { ac := [10] } rfl rfl fun K KP hK hP => ?_
      simp only [go_sem, ↓reduceIte, c4_0]
      refine CallP.acallN (caught_pan (σ2 := [(0, .cells 29 [.int .i64 0, .base (.slice none 0 0)]), (1, .cells 29 [.int .i64 0, .base (.slice none 0 0)])]) rfl fun x nx1 => of1_none hv c4_0 _ x 1 nx1 _ _) (fun nx1 => ?_)
      try simp only [go_sem, ↓reduceIte, c4_0]
      apply hK; clear hK hP
      refine aw_if (True) (by simp only [go_sem, ↓reduceIte, c4_0]) (fun h4 => ?_) (fun h4 => ?_)
      ·
        refine aw_sreg {} rfl rfl fun K KP hK hP => ?_
        simp only [go_sem, ↓reduceIte, c4_0]
        apply hK; clear hK hP
        refine aw_ret ?_
        refine athen_ret.2 ?_
        simp only [go_sem, ↓reduceIte, c4_0, athen_ret] <;> (
          simp [sumE, ofE, hv, c4_0, nilS, go_sem, termsA])
      ·
        exact absurd trivial h4
    ·
      have hv : validF f = true := Classical.not_not.1 h1
      obtain ⟨s, hs⟩ := Option.ne_none_iff_exists'.1 c4_0
      refine aw_sreg { ac := [10] } rfl rfl fun K KP hK hP => ?_
      simp only [go_sem, ↓reduceIte, c4_0]
      refine CallP.acallN (caught_ret (σ2 := [(0, .cells 29 [.int .i64 0, .base (.slice none 0 0)]), (1, .cells 29 s.cells)]) rfl fun x nx1 => of1_some hv hs _ x 1 nx1 _ _) (fun nx1 => ?_)
      try simp only [go_sem, ↓reduceIte, c4_0]
      apply hK; clear hK hP
      refine aw_if (False) (by simp only [go_sem, ↓reduceIte, c4_0]) (fun h4 => ?_) (fun h4 => ?_)
      ·
        exact h4.elim
      ·
        refine aw_skip ?_
        refine athen_normal.2 ?_
        refine aw_sreg {} rfl rfl fun K KP hK hP => ?_
        simp only [go_sem, ↓reduceIte, c4_0]
        apply hK; clear hK hP
        refine aw_ret ?_
        simp only [go_sem, ↓reduceIte, c4_0, athen_ret] <;> (
          simp [sumE, ofE, hv, hs, go_sem])
end Go.Ab
