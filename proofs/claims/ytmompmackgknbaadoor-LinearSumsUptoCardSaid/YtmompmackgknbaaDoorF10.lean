/-
  SUMS ADDED: the contract of linear.plus.
-/
import Derived.Test.YtmompmackgknbaaDoorF9
set_option linter.unusedVariables false
set_option linter.unusedSimpArgs false
set_option maxRecDepth 100000
namespace Go.Ab
open Go Go.RowKit Go.Proofs

/-- One more part, if it is none with 0. -/
def consP (c : Int) (t : Fm) (l : List Pt) : List Pt := if c = 0 then l else ⟨c, t⟩ :: l
/-- Parts merged in the order of terms; none: a number is beyond its bound. -/
def mergeL (f : Int) : List Pt → List Pt → Option (List Pt)
  | [], [] => some []
  | p :: r, [] => (mergeL f r []).map (consP p.c p.t)
  | [], q :: s => (timesS q.c f).bind fun x => (wholeS x).bind fun c => (mergeL f [] s).map (consP c q.t)
  | p :: r, q :: s =>
    if cmpF p.t q.t < 0 then (mergeL f r (q :: s)).map (consP p.c p.t)
    else if 0 < cmpF p.t q.t then (timesS q.c f).bind fun x => (wholeS x).bind fun c => (mergeL f (p :: r) s).map (consP c q.t)
    else (timesS q.c f).bind fun x => (wholeS (p.c + x)).bind fun c => (mergeL f r s).map (consP c q.t)
  termination_by l m => l.length + m.length
def plusS (a b : Sm) (f : Int) : Option Sm := (timesS b.k f).bind fun x => (wholeS (a.k + x)).bind fun k => (mergeL f a.l b.l).map fun l => ⟨k, true, l⟩
theorem wholeS_some {n m : Int} (h : wholeS n = some m) : m = n ∧ -1152921504606846976 ≤ n ∧ n ≤ 1152921504606846976 := by
  unfold wholeS at h
  split at h
  · cases h
  · cases h; omega
theorem timesS_some {a b m : Int} (h : timesS a b = some m) : m = a * b ∧ -1152921504606846976 ≤ m ∧ m ≤ 1152921504606846976 := by
  unfold timesS at h
  split at h
  · cases h
  · cases h
    have : (a * b).natAbs ≤ 1152921504606846976 := by rw [Int.natAbs_mul]; omega
    omega
def outS : Option Sm → AOut
  | some s => .ret s.av
  | none => .pan beyondA
/-- What a sum must be that is added. -/
structure Sm.fit (s : Sm) : Prop where
  k : -1152921504606846976 ≤ s.k ∧ s.k ≤ 1152921504606846976
  c : ∀ p ∈ s.l, -1152921504606846976 ≤ p.c ∧ p.c ≤ 1152921504606846976
  t : ∀ p ∈ s.l, p.t.big ≤ 1000000000000
  n : s.l.length ≤ 400000000000
end Go.Ab
