/-
  ReaderAll: the card. For every argument of bulk at most 1048576, as the card says.
-/
import Derived.Test.YtdagildojaagiaaGreatDoorZ17
import Derived.Test.YtdagildojaagiaaGreatDoorZ16
import Derived.Test.YtdagildojaagiaaGreatDoorZ14
import Derived.Lib.AtoiAllCases
import Derived.Test.YtdagildojaagiaaGreatDoorZ12
import Derived.Test.YtdagildojaagiaaGreatDoorZ13
set_option linter.unusedVariables false
set_option linter.unusedSimpArgs false
set_option maxRecDepth 100000
namespace Go.Ab
open Go Go.RowKit Go.Proofs
def lt' (f g : Fm) : Prop := cmpF f g < 0
theorem lt_le {f g : Fm} (h : lt' f g) : le f g := Int.le_of_lt h
theorem le_lt {f g h : Fm} (h1 : le f g) (h2 : lt' g h) : lt' f h := (cmpF_tri f g h).2.2.1 h1 h2
theorem lt_le' {f g h : Fm} (h1 : lt' f g) (h2 : le g h) : lt' f h := (cmpF_tri f g h).2.1 h1 h2
theorem nlt_le {f g : Fm} (h : ¬ lt' f g) : le g f := le_of_not_lt h
def SF (a b : Nat) (g : Nat → Fm) : Prop := ∀ p q, a ≤ p → p < q → q < b → le (g p) (g q)
theorem SF.le {a b : Nat} {g : Nat → Fm} (h : SF a b g) {p q : Nat} (h1 : a ≤ p) (h2 : p ≤ q) (h3 : q < b) : le (g p) (g q) := by
 by_cases e : p = q
 ·subst e; exact le_refl' _
 ·exact h p q h1 (by omega) h3
def insU (a k : Nat) (g : Nat → Fm) (p : Nat) : Fm := if a ≤ p ∧ p < k then g (p + 1) else if p = k then g a else g p
def insD (m k : Nat) (g : Nat → Fm) (p : Nat) : Fm := if k < p ∧ p ≤ m then g (p - 1) else if p = k then g m else g p
theorem insU_step {a k : Nat} (g : Nat → Fm) (h : a ≤ k) (p : Nat) : insU a (k + 1) g p = if p = k + 1 then insU a k g k else if p = k then insU a k g (k + 1) else insU a k g p := by
 have h1 : insU a k g k = g a := by unfold insU; rw [if_neg (by omega), if_pos rfl]
 have h2 : insU a k g (k + 1) = g (k + 1) := by unfold insU; rw [if_neg (by omega), if_neg (by omega)]
 rw [h1, h2]
 by_cases c1 : p = k + 1
 ·subst c1; rw [if_pos rfl]; unfold insU; rw [if_neg (by omega), if_pos rfl]
 ·rw [if_neg c1]
  by_cases c2 : p = k
  ·subst c2; rw [if_pos rfl]; unfold insU; rw [if_pos (by omega)]
  ·rw [if_neg c2]
   unfold insU
   by_cases c3 : a ≤ p ∧ p < k
   ·rw [if_pos c3, if_pos (by omega)]
   ·rw [if_neg c3, if_neg (by omega), if_neg c1, if_neg c2]
theorem insD_step {m k : Nat} (g : Nat → Fm) (h : k + 1 ≤ m) (p : Nat) : insD m k g p = if p = k then insD m (k + 1) g (k + 1) else if p = k + 1 then insD m (k + 1) g k else insD m (k + 1) g p := by
 have h1 : insD m (k + 1) g (k + 1) = g m := by unfold insD; rw [if_neg (by omega), if_pos rfl]
 have h2 : insD m (k + 1) g k = g k := by unfold insD; rw [if_neg (by omega), if_neg (by omega)]
 rw [h1, h2]
 by_cases c1 : p = k
 ·subst c1; rw [if_pos rfl]; unfold insD; rw [if_neg (by omega), if_pos rfl]
 ·rw [if_neg c1]
  by_cases c2 : p = k + 1
  ·subst c2; rw [if_pos rfl]; unfold insD; rw [if_pos (by omega)]; exact congrArg g (by omega)
  ·rw [if_neg c2]
   unfold insD
   by_cases c3 : k + 1 < p ∧ p ≤ m
   ·rw [if_pos c3, if_pos (by omega)]
   ·rw [if_neg c3, if_neg (by omega), if_neg c1, if_neg c2]
theorem insU_sorted {a m b i : Nat} {g : Nat → Fm} (hm : m = a + 1) (hi : m ≤ i) (hib : i ≤ b) (hs : SF m b g) (h1 : ∀ p, m ≤ p → p < i → lt' (g p) (g a)) (h2 : ∀ p, i ≤ p → p < b → ¬ lt' (g p) (g a)) : SF a b (insU a (i - 1) g) := by
 intro p q hp hpq hq
 unfold insU
 by_cases c1 : a ≤ p ∧ p < i - 1
 ·rw [if_pos c1]
  by_cases c2 : a ≤ q ∧ q < i - 1
  ·rw [if_pos c2]; exact hs.le (by omega) (by omega) (by omega)
  ·rw [if_neg c2]
   by_cases c3 : q = i - 1
   ·rw [if_pos c3]; exact lt_le (h1 _ (by omega) (by omega))
   ·rw [if_neg c3]; exact hs.le (by omega) (by omega) (by omega)
 ·rw [if_neg c1, if_neg (show ¬ (a ≤ q ∧ q < i - 1) by omega), if_neg (show ¬ q = i - 1 by omega)]
  by_cases c3 : p = i - 1
  ·rw [if_pos c3]; exact nlt_le (h2 q (by omega) hq)
  ·rw [if_neg c3]; exact hs.le (by omega) (by omega) (by omega)
theorem insD_sorted {a m b i : Nat} {g : Nat → Fm} (hb : b = m + 1) (hi : a ≤ i) (him : i ≤ m) (hs : SF a m g) (h1 : ∀ p, a ≤ p → p < i → ¬ lt' (g m) (g p)) (h2 : ∀ p, i ≤ p → p < m → lt' (g m) (g p)) : SF a b (insD m i g) := by
 intro p q hp hpq hq
 unfold insD
 by_cases c1 : i < p ∧ p ≤ m
 ·rw [if_pos c1, if_pos (show i < q ∧ q ≤ m by omega)]; exact hs.le (by omega) (by omega) (by omega)
 ·rw [if_neg c1]
  by_cases c3 : p = i
  ·rw [if_pos c3, if_pos (show i < q ∧ q ≤ m by omega)]; exact lt_le (h2 _ (by omega) (by omega))
  ·rw [if_neg c3]
   by_cases c2 : i < q ∧ q ≤ m
   ·rw [if_pos c2]; exact hs.le (by omega) (by omega) (by omega)
   ·rw [if_neg c2]
    by_cases c4 : q = i
    ·rw [if_pos c4]; exact nlt_le (h1 p hp (by omega))
    ·rw [if_neg c4]; exact hs.le (by omega) (by omega) (by omega)
structure Mid (a m b s e : Nat) (g : Nat → Fm) : Prop where
 has : a ≤ s
 hsm : s ≤ m
 hme : m ≤ e
 heb : e ≤ b
 lo : ∀ p q, m ≤ p → p < e → s ≤ q → q < m → le (g p) (g q)
 hi : ∀ p q, a ≤ p → p < s → e ≤ q → q < b → le (g p) (g q)
theorem mid_of {a m b n mid s0 r0 s : Nat} {g : Nat → Fm} (hs1 : SF a m g) (hs2 : SF m b g) (hn : n = mid + m) (h0 : a ≤ s0) (h1 : s0 ≤ s) (h2 : s ≤ r0) (h3 : r0 ≤ m) (h4 : r0 ≤ mid) (h5 : n ≤ b + s0) (e1 : s0 = a ∨ n = b + s0) (e2 : r0 = m ∨ r0 = mid)
  (k1 : ∀ c, s0 ≤ c → c < s → ¬ lt' (g (n - 1 - c)) (g c)) (k2 : ∀ c, s ≤ c → c < r0 → lt' (g (n - 1 - c)) (g c)) : Mid a m b s (n - s) g where
 has := by omega
 hsm := by omega
 hme := by omega
 heb := by omega
 lo := fun p q p1 p2 q1 q2 => by
  by_cases c : s < r0
  ·have h := k2 s (Nat.le_refl _) c
   have h1 : le (g p) (g (n - 1 - s)) := hs2.le p1 (by omega) (by omega)
   exact le_trans' h1 (le_trans' (lt_le h) (hs1.le (by omega) q1 q2))
  ·omega
 hi := fun p q p1 p2 q1 q2 => by
  by_cases c : s0 < s
  ·have h := k1 (s - 1) (by omega) (by omega)
   have e : n - 1 - (s - 1) = n - s := by omega
   rw [e] at h
   exact le_trans' (hs1.le p1 (show p ≤ s - 1 by omega) (by omega)) (le_trans' (nlt_le h) (hs2.le (by omega) q1 q2))
  ·omega
structure Rot (a s mid e b : Nat) (d : Nat → Fm) : Prop where
 s1 : SF a s d
 s2 : SF s mid d
 s3 : SF mid e d
 s4 : SF e b d
 x : ∀ p q, a ≤ p → p < mid → mid ≤ q → q < b → le (d p) (d q)
theorem rot_of {a m b s e mid : Nat} {g : Nat → Fm} (hs1 : SF a m g) (hs2 : SF m b g) (h : Mid a m b s e g) (hmid : mid + m = s + e) : Rot a s mid e b (rotG s m e g) := by
 obtain ⟨h1, h2, h3, h4, h5, h6⟩ := h
 have r1 : ∀ p, p < s → rotG s m e g p = g p := fun p hp => by unfold rotG; rw [if_neg (by omega), if_neg (by omega)]
 have r2 : ∀ p, s ≤ p → p < mid → rotG s m e g p = g (p + (m - s)) := fun p a b => by unfold rotG; rw [if_pos (by omega)]
 have r3 : ∀ p, mid ≤ p → p < e → rotG s m e g p = g (p - (e - m)) := fun p a b => by unfold rotG; rw [if_neg (by omega), if_pos (by omega)]
 have r4 : ∀ p, e ≤ p → rotG s m e g p = g p := fun p hp => by unfold rotG; rw [if_neg (by omega), if_neg (by omega)]
 refine ⟨fun p q p1 p2 p3 => ?_, fun p q p1 p2 p3 => ?_, fun p q p1 p2 p3 => ?_, fun p q p1 p2 p3 => ?_, fun p q p1 p2 p3 p4 => ?_⟩
 ·rw [r1 p (by omega), r1 q (by omega)]; exact hs1.le p1 (by omega) (by omega)
 ·rw [r2 p (by omega) (by omega), r2 q (by omega) (by omega)]; exact hs2.le (by omega) (by omega) (by omega)
 ·rw [r3 p (by omega) (by omega), r3 q (by omega) (by omega)]; exact hs1.le (by omega) (by omega) (by omega)
 ·rw [r4 p (by omega), r4 q (by omega)]; exact hs2.le (by omega) (by omega) (by omega)
 ·by_cases c1 : p < s
  ·rw [r1 p c1]
   by_cases c2 : q < e
   ·rw [r3 q p3 c2]; exact hs1.le p1 (by omega) (by omega)
   ·rw [r4 q (by omega)]; exact h6 p q p1 c1 (by omega) p4
  ·rw [r2 p (by omega) p2]
   by_cases c2 : q < e
   ·rw [r3 q p3 c2]; exact h5 _ _ (by omega) (by omega) (by omega) (by omega)
   ·rw [r4 q (by omega)]; exact hs2.le (by omega) (by omega) (by omega)
theorem rot_id {s m e : Nat} (g : Nat → Fm) (h1 : s ≤ m) (h2 : m ≤ e) (h : ¬ (s < m ∧ m < e)) (p : Nat) : rotG s m e g p = g p := by
 unfold rotG
 by_cases c1 : s ≤ p ∧ p < s + (e - m)
 ·rw [if_pos c1]; exact congrArg g (by omega)
 ·rw [if_neg c1]
  by_cases c2 : s + (e - m) ≤ p ∧ p < e
  ·rw [if_pos c2]; exact congrArg g (by omega)
  ·rw [if_neg c2]
theorem SF_congr {a b : Nat} {g h : Nat → Fm} (e : ∀ p, g p = h p) (hs : SF a b h) : SF a b g := by
 have : g = h := funext e
 rw [this]; exact hs
theorem Rot_congr {a s mid e b : Nat} {g h : Nat → Fm} (e' : ∀ p, g p = h p) (hs : Rot a s mid e b h) : Rot a s mid e b g := by
 have : g = h := funext e'
 rw [this]; exact hs
theorem sorted_join {a mid b : Nat} {g : Nat → Fm} (h1 : SF a mid g) (h2 : SF mid b g) (hx : ∀ p q, a ≤ p → p < mid → mid ≤ q → q < b → le (g p) (g q)) : SF a b g := by
 intro p q p1 p2 p3
 by_cases c1 : q < mid
 ·exact h1 p q p1 p2 c1
 ·by_cases c2 : p < mid
  ·exact hx p q p1 c2 (by omega) p3
  ·exact h2 p q (by omega) p2 p3
theorem cross_sw {a mid b : Nat} {l d : List Fm} (hm : mid ≤ b) (ham : a ≤ mid) (hb : b ≤ l.length) (hx : ∀ p q, a ≤ p → p < mid → mid ≤ q → q < b → le (atF' l p) (atF' l q)) (hs : SW a mid l d ∨ SW mid b l d) : ∀ p q, a ≤ p → p < mid → mid ≤ q → q < b → le (atF' d p) (atF' d q) := by
 intro p q p1 p2 q1 q2
 rcases hs with hs | hs
 ·rw [hs.out (by omega) (p := q) (.inr q1)]
  exact hs.all (by omega) (P := fun x => le x (atF' l q)) (fun p' r1 r2 => hx p' q r1 r2 q1 q2) p p1 p2
 ·rw [hs.out hb (p := p) (.inl p2)]
  exact hs.all hb (P := fun x => le (atF' l p) x) (fun p' r1 r2 => hx p p' p1 p2 r1 r2) q q1 q2
theorem srt_out {a b a' b' : Nat} {l d : List Fm} (hb : b' ≤ l.length) (hs : SW a' b' l d) (h : SF a b (atF' l)) (ho : b ≤ a' ∨ b' ≤ a) : SF a b (atF' d) := by
 intro p q p1 p2 p3
 rw [hs.out hb (p := p) (by omega), hs.out hb (p := q) (by omega)]
 exact h p q p1 p2 p3
end Go.Ab

set_option maxRecDepth 100000
set_option maxHeartbeats 1000000
namespace Go.Ab
open Go Go.RowKit Go.Proofs
theorem aMid {i j : Nat} (h : i + j < 4611686018427387904) : IntKind.wrap .i64 ((IntKind.wrap .u64 (IntKind.wrap .i64 ((i : Int) + (j : Int)))) / 2 ^ (1 : Int).toNat) = (((i + j) / 2 : Nat) : Int) := by
 have e : ((1 : Int).toNat) = 1 := rfl
 rw [aAdd h, e, show (2 : Int) ^ 1 = 2 from rfl]
 have h2 : IntKind.wrap .u64 ((i + j : Nat) : Int) = ((i + j : Nat) : Int) := by simp only [IntKind.wrap_u64]; omega
 rw [h2, w64 (by omega) (by omega)]
 omega
def UX {R : Type} (N : Prop) (o : Option R) (P : R → Prop) : Prop := (∃ r, o = some r ∧ P r) ∨ (o = none ∧ N)
theorem UX.bind {R S : Type} {N : Prop} {o : Option R} {F : R → Option S} {P : R → Prop} {Q : S → Prop} (h : UX N o P) (k : ∀ r, P r → UX N (F r) Q) : UX N (Option.bind o F) Q := by
 rcases h with ⟨r, rfl, hr⟩ | ⟨rfl, hn⟩
 ·exact k r hr
 ·exact .inr ⟨rfl, hn⟩
theorem UX.loop {L R A : Type} {N : Prop} {b : L → Option (Step L R)} {l0 : L} {F : R → Option A} {P : A → Prop} (I : L → Prop) (μ : L → Nat)
  (h : ∀ l, I l → (∃ l', b l = some (.next l') ∧ I l' ∧ μ l' < μ l) ∨ ∃ r, b l = some (.done r) ∧ UX N (F r) P) (h0 : I l0) : UX N (Option.bind (loopM b l0) F) P := by
 obtain ⟨r, h1, h2⟩ := loop_wp I μ (fun r => UX N (F r) P) (fun l hl => h l hl) l0 h0
 rw [h1]; exact h2
def MPost (a b : Nat) (l : List Fm) : Unit × List Fm × Unit → Prop := fun r => ∃ d, r = ((), (d, ())) ∧ SW a b l d ∧ SF a b (atF' d)
theorem bind_assoc' {A B C : Type} (o : Option A) (f : A → Option B) (g : B → Option C) : Option.bind (Option.bind o f) g = Option.bind o fun x => Option.bind (f x) g := by cases o <;> rfl
theorem cmp_at {l : List Fm} {p q : Nat} (hbig : bigAll l) (hp : p < l.length) : L_compare (l.getD p (Fm.mk 0 0 [] [])) (l.getD q (Fm.mk 0 0 [] [])) = some (cmpF (atF' l p) (atF' l q)) := compare_val (bigAll_at hbig hp)
theorem symMerge_up : ∀ (k : Nat) (a m b : Nat) (l : List Fm), a < m → m < b → b ≤ l.length → l.length < 1000000000000 → bigAll l → SF a m (atF' l) → SF m b (atF' l) → UX (k < b - a) (G_symMerge k (a : Int) (m : Int) (b : Int) l) (MPost a b l)
 | 0, a, m, b, l, h1, h2, _, _, _, _, _ => .inr ⟨by unfold G_symMerge; rfl, by omega⟩
 | k + 1, a, m, b, l, ham, hmb, hb, hln, hbig, hs1, hs2 => by
  unfold G_symMerge
  have w1 : IntKind.wrap .i64 ((m : Int) - (a : Int)) = ((m - a : Nat) : Int) := aSub (by omega) (by omega)
  rw [w1]
  by_cases c1 : m = a + 1
  ·rw [decide_eq_true (show ((m - a : Nat) : Int) = 1 by omega), cond_true, bind_assoc']
   refine UX.loop (fun d => ∃ i j : Nat, d = (((), (a : Int), (), (i : Int), (j : Int), ()), (l, ())) ∧ m ≤ i ∧ i ≤ j ∧ j ≤ b ∧ (∀ p, m ≤ p → p < i → lt' (atF' l p) (atF' l a)) ∧ (∀ p, j ≤ p → p < b → ¬ lt' (atF' l p) (atF' l a))) (fun d => d.1.2.2.2.2.1.toNat - d.1.2.2.2.1.toNat) ?_
    ⟨m, b, rfl, Nat.le_refl _, by omega, Nat.le_refl _, fun p q1 q2 => by omega, fun p q1 q2 => by omega⟩
   rintro d ⟨i, j, rfl, g1, g2, g3, g4, g5⟩
   by_cases hij : i < j
   ·have e1 : decide ((i : Int) < (j : Int)) = true := by apply decide_eq_true; omega
    have hm1 : (i + j) / 2 < b := by omega
    have x1 : ixOK (((i + j) / 2 : Nat) : Int) l.length = true := ixOK_iff.2 (by omega)
    have x2 : decide ((i + j) / 2 < l.length) = true := by apply decide_eq_true; omega
    have x3 : ixOK ((a : Nat) : Int) l.length = true := ixOK_iff.2 (by omega)
    have x4 : decide (a < l.length) = true := by apply decide_eq_true; omega
    simp only [e1, aMid (show i + j < 4611686018427387904 by omega), x1, x2, x3, x4, Int.toNat_natCast, cond_true, Fm.eta_eq, cmp_at hbig (show (i + j) / 2 < l.length by omega), Option.bind_some, wrapN (show (i + j) / 2 < 4611686018427387904 by omega)]
    by_cases hc : cmpF (atF' l ((i + j) / 2)) (atF' l a) < 0
    ·rw [decide_eq_true hc]
     refine .inl ⟨_, rfl, ⟨(i + j) / 2 + 1, j, rfl, by omega, by omega, g3, fun p q1 q2 => ?_, g5⟩, by simp only [Int.toNat_natCast]; omega⟩
     have h1 : le (atF' l p) (atF' l ((i + j) / 2)) := hs2.le q1 (by omega) hm1
     exact le_lt h1 hc
    ·rw [decide_eq_false hc]
     refine .inl ⟨_, rfl, ⟨i, (i + j) / 2, rfl, g1, by omega, by omega, g4, fun p q1 q2 hlt => ?_⟩, by simp only [Int.toNat_natCast]; omega⟩
     have h1 : le (atF' l ((i + j) / 2)) (atF' l p) := hs2.le (by omega) q1 q2
     exact hc (le_lt h1 hlt)
   ·have e1 : decide ((i : Int) < (j : Int)) = false := by apply decide_eq_false; omega
    have hjj : j = i := by omega
    subst hjj
    refine .inr ⟨(((), (a : Int), (j : Int), ()), (l, ())), by simp only [e1, cond_false], ?_⟩
    dsimp only
    rw [bind_assoc']
    have wi : IntKind.wrap .i64 ((j : Int) - 1) = ((j - 1 : Nat) : Int) := wrapS (by omega) (by omega)
    refine UX.loop (fun d => ∃ (t : Nat) (e : List Fm), d = (((), (j : Int), (t : Int), ()), (e, ())) ∧ a ≤ t ∧ t ≤ j - 1 ∧ SW a b l e ∧ ∀ p, atF' e p = insU a t (atF' l) p) (fun d => j - d.1.2.2.1.toNat) ?_
     ⟨a, l, rfl, Nat.le_refl _, by omega, .refl _, fun p => by
      unfold insU
      rw [if_neg (by omega)]
      by_cases c : p = a
      ·rw [if_pos c, c]
      ·rw [if_neg c]⟩
    rintro d ⟨t, e, rfl, t1, t2, hsw, hp⟩
    have hlen := hsw.length
    simp only [wi]
    by_cases ht : t < j - 1
    ·have e2 : decide ((t : Int) < ((j - 1 : Nat) : Int)) = true := by apply decide_eq_true; omega
     have y1 : ixOK ((t + 1 : Nat) : Int) e.length = true := ixOK_iff.2 (by omega)
     have y2 : decide (t + 1 < e.length) = true := by apply decide_eq_true; omega
     have y3 : ixOK ((t : Nat) : Int) e.length = true := ixOK_iff.2 (by omega)
     have y4 : decide (t < e.length) = true := by apply decide_eq_true; omega
     simp only [e2, wrapN (show t < 4611686018427387904 by omega), y1, y2, y3, y4, Int.toNat_natCast, cond_true, Fm.eta_eq, List.length_set]
     refine .inl ⟨_, rfl, ⟨t + 1, swapL e t (t + 1), rfl, by omega, by omega, .swap _ _ _ _ hsw (by omega) (by omega) (by omega) (by omega), fun p => ?_⟩, by simp only [Int.toNat_natCast]; omega⟩
     rw [swapL_at e (by omega) (by omega), hp, hp, hp, insU_step _ t1]
    ·have e2 : decide ((t : Int) < ((j - 1 : Nat) : Int)) = false := by apply decide_eq_false; omega
     have htj : t = j - 1 := by omega
     subst htj
     refine .inr ⟨((), (e, ())), by simp only [e2, cond_false], .inl ⟨_, rfl, e, rfl, hsw, SF_congr hp (insU_sorted c1 g1 g3 hs2 g4 g5)⟩⟩
  ·rw [decide_eq_false (show ¬ ((m - a : Nat) : Int) = 1 by omega), cond_false]
   simp only [Option.bind_some]
   have w2 : IntKind.wrap .i64 ((b : Int) - (m : Int)) = ((b - m : Nat) : Int) := aSub (by omega) (by omega)
   rw [w2]
   by_cases c2 : b = m + 1
   ·rw [decide_eq_true (show ((b - m : Nat) : Int) = 1 by omega), cond_true, bind_assoc']
    refine UX.loop (fun d => ∃ i j : Nat, d = (((), (m : Int), (), (i : Int), (j : Int), ()), (l, ())) ∧ a ≤ i ∧ i ≤ j ∧ j ≤ m ∧ (∀ p, a ≤ p → p < i → ¬ lt' (atF' l m) (atF' l p)) ∧ (∀ p, j ≤ p → p < m → lt' (atF' l m) (atF' l p))) (fun d => d.1.2.2.2.2.1.toNat - d.1.2.2.2.1.toNat) ?_
     ⟨a, m, rfl, Nat.le_refl _, by omega, Nat.le_refl _, fun p q1 q2 => by omega, fun p q1 q2 => by omega⟩
    rintro d ⟨i, j, rfl, g1, g2, g3, g4, g5⟩
    by_cases hij : i < j
    ·have e1 : decide ((i : Int) < (j : Int)) = true := by apply decide_eq_true; omega
     have hm1 : (i + j) / 2 < m := by omega
     have x1 : ixOK (((i + j) / 2 : Nat) : Int) l.length = true := ixOK_iff.2 (by omega)
     have x2 : decide ((i + j) / 2 < l.length) = true := by apply decide_eq_true; omega
     have x3 : ixOK ((m : Nat) : Int) l.length = true := ixOK_iff.2 (by omega)
     have x4 : decide (m < l.length) = true := by apply decide_eq_true; omega
     simp only [e1, aMid (show i + j < 4611686018427387904 by omega), x1, x2, x3, x4, Int.toNat_natCast, cond_true, Fm.eta_eq, cmp_at hbig (show m < l.length by omega), Option.bind_some, wrapN (show (i + j) / 2 < 4611686018427387904 by omega)]
     by_cases hc : cmpF (atF' l m) (atF' l ((i + j) / 2)) < 0
     ·rw [decide_eq_true hc]
      refine .inl ⟨_, rfl, ⟨i, (i + j) / 2, rfl, g1, by omega, by omega, g4, fun p q1 q2 => ?_⟩, by simp only [Int.toNat_natCast]; omega⟩
      have h1 : le (atF' l ((i + j) / 2)) (atF' l p) := hs1.le (by omega) q1 q2
      exact lt_le' hc h1
     ·rw [decide_eq_false hc]
      refine .inl ⟨_, rfl, ⟨(i + j) / 2 + 1, j, rfl, by omega, by omega, g3, fun p q1 q2 hlt => ?_, g5⟩, by simp only [Int.toNat_natCast]; omega⟩
      have h1 : le (atF' l p) (atF' l ((i + j) / 2)) := hs1.le q1 (by omega) hm1
      exact hc (lt_le' hlt h1)
    ·have e1 : decide ((i : Int) < (j : Int)) = false := by apply decide_eq_false; omega
     have hjj : j = i := by omega
     subst hjj
     refine .inr ⟨(((), (m : Int), (j : Int), ()), (l, ())), by simp only [e1, cond_false], ?_⟩
     dsimp only
     rw [bind_assoc']
     refine UX.loop (fun d => ∃ (t : Nat) (e : List Fm), d = (((), (j : Int), (t : Int), ()), (e, ())) ∧ j ≤ t ∧ t ≤ m ∧ SW a b l e ∧ ∀ p, atF' e p = insD m t (atF' l) p) (fun d => d.1.2.2.1.toNat) ?_
      ⟨m, l, rfl, by omega, Nat.le_refl _, .refl _, fun p => by
       unfold insD
       rw [if_neg (by omega)]
       by_cases c : p = m
       ·rw [if_pos c, c]
       ·rw [if_neg c]⟩
     rintro d ⟨t, e, rfl, t1, t2, hsw, hp⟩
     have hlen := hsw.length
     by_cases ht : j < t
     ·have e2 : decide ((t : Int) > (j : Int)) = true := by apply decide_eq_true; omega
      have wt : IntKind.wrap .i64 ((t : Int) - 1) = ((t - 1 : Nat) : Int) := wrapS (by omega) (by omega)
      have y1 : ixOK ((t - 1 : Nat) : Int) e.length = true := ixOK_iff.2 (by omega)
      have y2 : decide (t - 1 < e.length) = true := by apply decide_eq_true; omega
      have y3 : ixOK ((t : Nat) : Int) e.length = true := ixOK_iff.2 (by omega)
      have y4 : decide (t < e.length) = true := by apply decide_eq_true; omega
      simp only [e2, wt, y1, y2, y3, y4, Int.toNat_natCast, cond_true, Fm.eta_eq, List.length_set]
      refine .inl ⟨_, rfl, ⟨t - 1, swapL e t (t - 1), rfl, by omega, by omega, .swap _ _ _ _ hsw (by omega) (by omega) (by omega) (by omega), fun p => ?_⟩, by simp only [Int.toNat_natCast]; omega⟩
      rw [swapL_at e (by omega) (by omega), hp, hp, hp]
      have := insD_step (m := m) (k := t - 1) (atF' l) (by omega) p
      rw [show t - 1 + 1 = t by omega] at this
      exact this.symm
     ·have e2 : decide ((t : Int) > (j : Int)) = false := by apply decide_eq_false; omega
      have htj : t = j := by omega
      subst htj
      refine .inr ⟨((), (e, ())), by simp only [e2, cond_false], .inl ⟨_, rfl, e, rfl, hsw, SF_congr hp (insD_sorted c2 g1 g3 hs1 g4 g5)⟩⟩
   ·rw [decide_eq_false (show ¬ ((b - m : Nat) : Int) = 1 by omega), cond_false]
    simp only [Option.bind_some]
    rw [aMid (show a + b < 4611686018427387904 by omega)]
    obtain ⟨mid, hmid⟩ : ∃ mid, mid = (a + b) / 2 := ⟨_, rfl⟩
    rw [← hmid]
    have hmid1 : a < mid := by omega
    have hmid2 : mid < b := by omega
    have wn : IntKind.wrap .i64 ((mid : Int) + (m : Int)) = ((mid + m : Nat) : Int) := aAdd (by omega)
    rw [wn]
    have core : ∀ s0 r0 : Nat, a ≤ s0 → s0 ≤ r0 → r0 ≤ m → r0 ≤ mid → mid + m ≤ b + s0 → (s0 = a ∨ mid + m = b + s0) → (r0 = m ∨ r0 = mid) →
      ∀ X : Option ((Unit × Int × Int × Int × Unit × Int × Int × Int × Int × Unit) × ((List Fm) × Unit)), X = some (((), (a : Int), (m : Int), (b : Int), (), (mid : Int), ((mid + m : Nat) : Int), (s0 : Int), (r0 : Int), ()), (l, ())) →
      X = some (((), (a : Int), (m : Int), (b : Int), (), (mid : Int), ((mid + m : Nat) : Int), (s0 : Int), (r0 : Int), ()), (l, ())) := fun _ _ _ _ _ _ _ _ _ X h => h
    refine UX.bind (P := fun r => ∃ s0 r0 : Nat, r = (((), (a : Int), (m : Int), (b : Int), (), (mid : Int), ((mid + m : Nat) : Int), (s0 : Int), (r0 : Int), ()), (l, ())) ∧ a ≤ s0 ∧ s0 ≤ r0 ∧ r0 ≤ m ∧ r0 ≤ mid ∧ mid + m ≤ b + s0 ∧ (s0 = a ∨ mid + m = b + s0) ∧ (r0 = m ∨ r0 = mid)) ?_ ?_
    ·by_cases c3 : mid < m
     ·rw [decide_eq_true (show (m : Int) > (mid : Int) by omega), cond_true, aSub (show mid + m < 4611686018427387904 by omega) (show b ≤ mid + m by omega)]
      exact .inl ⟨_, rfl, mid + m - b, mid, rfl, by omega, by omega, by omega, by omega, by omega, by omega, by omega⟩
     ·rw [decide_eq_false (show ¬ (m : Int) > (mid : Int) by omega), cond_false]
      exact .inl ⟨_, rfl, a, m, rfl, by omega, by omega, by omega, by omega, by omega, by omega, by omega⟩
    ·rintro r ⟨s0, r0, rfl, f1, f2, f3, f4, f5, f6, f7⟩
     dsimp only
     rw [show IntKind.wrap .i64 (((mid + m : Nat) : Int) - 1) = ((mid + m - 1 : Nat) : Int) from wrapS (by omega) (by omega)]
     refine UX.loop (fun d => ∃ s r : Nat, d = (((), (a : Int), (m : Int), (b : Int), (), (mid : Int), ((mid + m : Nat) : Int), (s : Int), (r : Int), ((mid + m - 1 : Nat) : Int), ()), (l, ())) ∧ s0 ≤ s ∧ s ≤ r ∧ r ≤ r0 ∧ (∀ c, s0 ≤ c → c < s → ¬ lt' (atF' l (mid + m - 1 - c)) (atF' l c)) ∧ (∀ c, r ≤ c → c < r0 → lt' (atF' l (mid + m - 1 - c)) (atF' l c))) (fun d => d.1.2.2.2.2.2.2.2.2.1.toNat - d.1.2.2.2.2.2.2.2.1.toNat) ?_
      ⟨s0, r0, rfl, Nat.le_refl _, f2, Nat.le_refl _, fun p q1 q2 => by omega, fun p q1 q2 => by omega⟩
     rintro d ⟨s, r, rfl, g1, g2, g3, g4, g5⟩
     by_cases hsr : s < r
     ·have e1 : decide ((s : Int) < (r : Int)) = true := by apply decide_eq_true; omega
      obtain ⟨c, hcd⟩ : ∃ c, c = (s + r) / 2 := ⟨_, rfl⟩
      have wc : IntKind.wrap .i64 (((mid + m - 1 : Nat) : Int) - (c : Int)) = ((mid + m - 1 - c : Nat) : Int) := aSub (by omega) (by omega)
      have x1 : ixOK ((mid + m - 1 - c : Nat) : Int) l.length = true := ixOK_iff.2 (by omega)
      have x2 : decide (mid + m - 1 - c < l.length) = true := by apply decide_eq_true; omega
      have x3 : ixOK ((c : Nat) : Int) l.length = true := ixOK_iff.2 (by omega)
      have x4 : decide (c < l.length) = true := by apply decide_eq_true; omega
      simp only [e1, aMid (show s + r < 4611686018427387904 by omega), ← hcd, wc, x1, x2, x3, x4, Int.toNat_natCast, cond_true, Fm.eta_eq, cmp_at hbig (show mid + m - 1 - c < l.length by omega), Option.bind_some, wrapN (show c < 4611686018427387904 by omega)]
      by_cases hc : cmpF (atF' l (mid + m - 1 - c)) (atF' l c) < 0
      ·rw [decide_eq_true hc]
       refine .inl ⟨_, rfl, ⟨s, c, rfl, g1, by omega, by omega, g4, fun c' q1 q2 => ?_⟩, by simp only [Int.toNat_natCast]; omega⟩
       have h1 : le (atF' l c) (atF' l c') := hs1.le (by omega) q1 (by omega)
       have h2 : le (atF' l (mid + m - 1 - c')) (atF' l (mid + m - 1 - c)) := hs2.le (by omega) (by omega) (by omega)
       exact lt_le' (le_lt h2 hc) h1
      ·rw [decide_eq_false hc]
       refine .inl ⟨_, rfl, ⟨c + 1, r, rfl, by omega, by omega, g3, fun c' q1 q2 hlt => ?_, g5⟩, by simp only [Int.toNat_natCast]; omega⟩
       have h1 : le (atF' l c') (atF' l c) := hs1.le (by omega) (by omega) (by omega)
       have h2 : le (atF' l (mid + m - 1 - c)) (atF' l (mid + m - 1 - c')) := hs2.le (by omega) (by omega) (by omega)
       exact hc (lt_le' (le_lt h2 hlt) h1)
     ·have e1 : decide ((s : Int) < (r : Int)) = false := by apply decide_eq_false; omega
      have hrs : r = s := by omega
      subst hrs
      refine .inr ⟨(((), (a : Int), (m : Int), (b : Int), (), (mid : Int), ((mid + m : Nat) : Int), (r : Int), ()), (l, ())), by simp only [e1, cond_false], ?_⟩
      dsimp only
      have hM : Mid a m b r (mid + m - r) (atF' l) := mid_of hs1 hs2 rfl f1 g1 g3 f3 f4 f5 f6 f7 g4 g5
      have we : IntKind.wrap .i64 (((mid + m : Nat) : Int) - (r : Int)) = ((mid + m - r : Nat) : Int) := aSub (by omega) (by omega)
      rw [we]
      obtain ⟨e, he⟩ : ∃ e, e = mid + m - r := ⟨_, rfl⟩
      rw [← he] at hM ⊢
      obtain ⟨m1, m2, m3, m4, m5, m6⟩ := hM
      have hR := rot_of hs1 hs2 ⟨m1, m2, m3, m4, m5, m6⟩ (mid := mid) (by omega)
      refine UX.bind (P := fun x => ∃ d, x = (((), (a : Int), (b : Int), (), (mid : Int), (r : Int), (e : Int), ()), (d, ())) ∧ SW a b l d ∧ Rot a r mid e b (atF' d)) ?_ ?_
      ·by_cases c4 : r < m ∧ m < e
       ·obtain ⟨d, q1, q2, q3⟩ := rotate_val c4.1 c4.2 (show e ≤ l.length by omega) hln
        rw [decide_eq_true (show (r : Int) < (m : Int) by omega), decide_eq_true (show (m : Int) < (e : Int) by omega)]
        simp only [cond_true, q1, Option.bind_some]
        exact .inl ⟨_, rfl, d, rfl, q2.mono (by omega) (by omega), Rot_congr q3 hR⟩
       ·have e5 : cond (decide ((r : Int) < (m : Int))) (decide ((m : Int) < (e : Int))) false = false := by
         by_cases c5 : r < m
         ·rw [decide_eq_true (show (r : Int) < (m : Int) by omega), decide_eq_false (show ¬ (m : Int) < (e : Int) by omega)]; rfl
         ·rw [decide_eq_false (show ¬ (r : Int) < (m : Int) by omega)]; rfl
        rw [e5, cond_false]
        exact .inl ⟨_, rfl, l, rfl, .refl _, Rot_congr (fun p => (rot_id (atF' l) m2 m3 c4 p).symm) hR⟩
      ·rintro x ⟨d, rfl, hsw1, r1, r2, r3, r4, rx⟩
       have hl1 := hsw1.length
       have hb1 := hsw1.big hb hbig
       dsimp only
       refine UX.bind (P := fun x => ∃ d', x = (((), (b : Int), (), (mid : Int), (e : Int), ()), (d', ())) ∧ SW a mid d d' ∧ SF a mid (atF' d')) ?_ ?_
       ·by_cases c4 : a < r ∧ r < mid
        ·rw [decide_eq_true (show (a : Int) < (r : Int) by omega), decide_eq_true (show (r : Int) < (mid : Int) by omega)]
         simp only [cond_true]
         refine UX.bind (P := MPost a mid d) ?_ ?_
         ·rcases symMerge_up k a r mid d c4.1 c4.2 (by omega) (by omega) hb1 r1 r2 with h | ⟨h, hn⟩
          ·exact .inl h
          ·exact .inr ⟨h, by omega⟩
         ·rintro y ⟨d', rfl, q1, q2⟩
          exact .inl ⟨_, rfl, d', rfl, q1, q2⟩
        ·have e5 : cond (decide ((a : Int) < (r : Int))) (decide ((r : Int) < (mid : Int))) false = false := by
          by_cases c5 : a < r
          ·rw [decide_eq_true (show (a : Int) < (r : Int) by omega), decide_eq_false (show ¬ (r : Int) < (mid : Int) by omega)]; rfl
          ·rw [decide_eq_false (show ¬ (a : Int) < (r : Int) by omega)]; rfl
         rw [e5, cond_false]
         refine .inl ⟨_, rfl, d, rfl, .refl _, ?_⟩
         by_cases c5 : a < r
         ·have : r = mid := by omega
          rw [← this]; exact r1
         ·have : r = a := by omega
          rw [← this]; exact r2
       ·rintro y ⟨d', rfl, hsw2, z1⟩
        have hl2 := hsw2.length
        have hb2 := hsw2.big (by omega) hb1
        have z3 : SF mid e (atF' d') := srt_out (by omega) hsw2 r3 (.inr (Nat.le_refl _))
        have z4 : SF e b (atF' d') := srt_out (by omega) hsw2 r4 (.inr (by omega))
        have zx := cross_sw (by omega) (by omega) (by omega) rx (.inl hsw2)
        dsimp only
        have hsw12 : SW a b l d' := hsw1.trans (hsw2.mono (by omega) (by omega))
        by_cases c4 : mid < e ∧ e < b
        ·rw [decide_eq_true (show (mid : Int) < (e : Int) by omega), decide_eq_true (show (e : Int) < (b : Int) by omega)]
         simp only [cond_true]
         refine UX.bind (P := MPost mid b d') ?_ ?_
         ·rcases symMerge_up k mid e b d' c4.1 c4.2 (by omega) (by omega) hb2 z3 z4 with h | ⟨h, hn⟩
          ·exact .inl h
          ·exact .inr ⟨h, by omega⟩
         ·rintro y ⟨d3, rfl, q1, q2⟩
          exact .inl ⟨_, rfl, d3, rfl, hsw12.trans (q1.mono (by omega) (by omega)), sorted_join (srt_out (by omega) q1 z1 (.inl (Nat.le_refl _))) q2 (cross_sw (by omega) (by omega) (by omega) zx (.inr q1))⟩
        ·have e5 : cond (decide ((mid : Int) < (e : Int))) (decide ((e : Int) < (b : Int))) false = false := by
          by_cases c5 : mid < e
          ·rw [decide_eq_true (show (mid : Int) < (e : Int) by omega), decide_eq_false (show ¬ (e : Int) < (b : Int) by omega)]; rfl
          ·rw [decide_eq_false (show ¬ (mid : Int) < (e : Int) by omega)]; rfl
         rw [e5, cond_false]
         refine .inl ⟨_, rfl, d', rfl, hsw12, sorted_join z1 ?_ zx⟩
         by_cases c5 : mid < e
         ·have : e = b := by omega
          rw [← this]; exact z3
         ·have : e = mid := by omega
          rw [← this]; exact z4
end Go.Ab

set_option maxRecDepth 100000
namespace Go.Ab
open Go Go.RowKit Go.Proofs
theorem own_loop {f : Fm} {N : Prop} (G : Fm → Option Fm) (hb : f.big ≤ 2000000000000) (hG : ∀ g ∈ f.l, Up N (G g) g) {A : Type} (F : (Unit × Unit × Unit × Unit) × ((Int × Int × (List UInt8) × (List Fm) × Unit) × (Int × Int × (List UInt8) × Unit × Unit) × (List Fm) × Unit) → Option A) (v : A)
  (hF : F (((), (), (), ()), ((f.k, f.n, f.t, f.l, ()), (0, 0, [], (), ()), f.l, ())) = some v) :
  Up N (Option.bind (α := (Unit × Unit × Unit × Unit) × ((Int × Int × (List UInt8) × (List Fm) × Unit) × (Int × Int × (List UInt8) × Unit × Unit) × (List Fm) × Unit))
 (loopM (L := (Unit × Unit × Unit × Int × Unit) × ((Int × Int × (List UInt8) × (List Fm) × Unit) × (Int × Int × (List UInt8) × Unit × Unit) × (List Fm) × Unit)) (R := (Unit × Unit × Unit × Unit) × ((Int × Int × (List UInt8) × (List Fm) × Unit) × (Int × Int × (List UInt8) × Unit × Unit) × (List Fm) × Unit)) (fun d1 => (
 let c2 := d1.2.1.1
 let c3 := d1.2.1.2.1
 let c4 := d1.2.1.2.2.1
 let c5 := d1.2.1.2.2.2.1
 let l6 := d1.2.2.2.1
 let v4_7 := d1.1.2.2.2.1
 cond (decide (v4_7 < (c5.length : Int))) (cond (ixOK v4_7 c5.length) (Option.bind (α := Fm) (G (Fm.eta (c5.getD v4_7.toNat (Fm.mk 0 0 [] [])))) fun r8 => (
 cond (decide ((l6.length + ([(Fm.eta r8)]).length) * 56 ≤ 140737488355328)) (some (Step.next (((), (), (), IntKind.wrap .i64 (v4_7 + 1), ()), ((c2, c3, c4, c5, ()), (d1.2.2.1.1, d1.2.2.1.2.1, d1.2.2.1.2.2.1, (), ()), l6 ++ ([(Fm.eta r8)]), ())))) none)) none) (some (Step.done (((), (), (), ()), ((c2, c3, c4, c5, ()), (d1.2.2.1.1, d1.2.2.1.2.1, d1.2.2.1.2.2.1, (), ()), l6, ())))))) (((), (), (), 0, ()), ((f.k, f.n, f.t, f.l, ()), (0, 0, [], (), ()), ([] : List Fm), ()))) F) v := by
 have hl := length_le_big f.l
 have hkb := big_kids f
 refine loop_ix (fun i => (((), (), (), (i : Int), ()), ((f.k, f.n, f.t, f.l, ()), (0, 0, [], (), ()), f.l.take i, ()))) (fun i => v) f.l.length (fun i hi => ?_) ?_
 ·have e1 : decide ((i : Int) < (f.l.length : Int)) = true := by simp [hi]
  have e2 : ixOK (i : Int) f.l.length = true := ixOK_iff.2 (by omega)
  simp only [e1, e2, cond_true, Int.toNat_natCast, getD_in hi, Fm.eta_eq, wrapN (show i < 4611686018427387904 by omega)]
  rcases hG f.l[i] (List.getElem_mem hi) with h | ⟨h, hn⟩
  ·rw [h]
   have e3 : decide (((f.l.take i).length + [f.l[i]].length) * 56 ≤ 140737488355328) = true := by
    apply decide_eq_true
    simp only [List.length_take, List.length_cons, List.length_nil]
    omega
   simp only [Option.bind_some, Fm.eta_eq, e3, cond_true]
   refine .inl ⟨?_, trivial⟩
   rw [List.take_succ_eq_append_getElem hi]
  ·rw [h]; exact .inr (.inr ⟨rfl, hn⟩)
 ·refine ⟨(((), (), (), ()), ((f.k, f.n, f.t, f.l, ()), (0, 0, [], (), ()), f.l, ())), by simp, .of hF⟩
theorem own_up : ∀ k, ∀ f : Fm, f.big ≤ 2000000000000 → Up (k < f.big) (G_own k f) f
 | 0 => fun f hb => .inr ⟨by unfold G_own; rfl, by have := big_pos f; omega⟩
 | k + 1 => fun f hb => by
  have hkb := big_kids f
  unfold G_own
  refine own_loop (G_own k) hb (fun g hg => ?_) _ f (by show some (Fm.eta f) = _; rw [Fm.eta_eq])
  have := big_mem hg
  exact (own_up k g (by omega)).mono fun h => by omega
theorem own_val {f : Fm} (hb : f.big ≤ 2000000000000) : L_own f = some f := limF_up (b := f.big) fun k => own_up k f hb
end Go.Ab

set_option maxRecDepth 100000
namespace Go.Ab
open Go Go.RowKit Go.Proofs
structure SortOf (l r : List Fm) : Prop where
 sub : ∀ f ∈ r, f ∈ l
 all : ∀ f ∈ l, ∃ g ∈ r, eqF f g
 ord : r.Pairwise ltF
theorem atF_in {l : List Fm} {i : Nat} (h : i < l.length) : atF' l i = l[i] := getD_in h _
theorem SortOf.alike {l r r' : List Fm} (h : SortOf l r) (h' : SortOf l r') : eqAllF r r' :=
 strict_unique r r' h.ord h'.ord (fun f hf => h'.all f (h.sub f hf)) (fun g hg => h.all g (h'.sub g hg))
theorem eqAllF_len : ∀ {r r' : List Fm}, eqAllF r r' → r.length = r'.length
 | [], [], _ => rfl
 | f :: x, g :: y, h => by simp [eqAllF_len h.2]
 | [], _ :: _, h => by cases h
 | _ :: _, [], h => by cases h
theorem eqAllF_cmp : ∀ {r r' : List Fm}, eqAllF r r' → cmpL r r' = 0
 | [], [], _ => rfl
 | f :: x, g :: y, h => by
  have h1 : cmpF f g = 0 := h.1
  simp only [cmpL, h1, eqAllF_cmp h.2]; rfl
 | [], _ :: _, h => by cases h
 | _ :: _, [], h => by cases h
theorem refEqual_gen {f g : Fm} (hb : f.big ≤ 4611686018427387000) : G_refEqual f g = some (decide (cmpF f g = 0)) := by
 unfold G_refEqual
 simp only [Fm.eta_eq, refCompare_val hb, Option.bind_some]
theorem bigL_mem_le {l : List Fm} {B : Nat} : (∀ f ∈ l, f.big ≤ B) → Fm.bigL l ≤ l.length * B := by
 induction l with
 | nil => intro _; simp [Fm.bigL]
 | cons f l ih =>
  intro h
  have h1 := h f (by simp)
  have h2 := ih fun g hg => h g (by simp [hg])
  simp only [Fm.bigL, List.length_cons, Nat.succ_mul]
  omega
theorem insert_ok {out : List Fm} {x : Fm} {p : Nat} (hp : p ≤ out.length) (ho : out.Pairwise ltF) (h1 : ∀ j (h : j < out.length), j < p → ltF out[j] x) (h2 : ∀ h : p < out.length, ltF x out[p]) : (out.take p ++ [x] ++ out.drop p).Pairwise ltF := by
 have hall : (out.take p ++ out.drop p).Pairwise ltF := by rw [List.take_append_drop]; exact ho
 obtain ⟨a1, a2, a3⟩ := List.pairwise_append.1 hall
 have hx : ∀ y ∈ out.drop p, ltF x y := fun y hy => by
  by_cases h : p < out.length
  ·rw [List.drop_eq_getElem_cons h] at hy a2
   rcases List.mem_cons.1 hy with rfl | hy
   ·exact h2 h
   ·exact cmpF_trans (h2 h) ((List.pairwise_cons.1 a2).1 y hy)
  ·rw [List.drop_of_length_le (by omega)] at hy; cases hy
 rw [List.append_assoc, List.pairwise_append]
 refine ⟨a1, ?_, fun y hy z hz => ?_⟩
 ·rw [List.singleton_append, List.pairwise_cons]; exact ⟨hx, a2⟩
 ·obtain ⟨j, hj, rfl⟩ := List.getElem_of_mem hy
  have hj1 : j < p := by simp at hj; omega
  have hj2 : j < out.length := by omega
  have e : (out.take p)[j] = out[j] := by simp
  rcases List.mem_append.1 hz with hz | hz
  ·simp at hz; subst hz; rw [e]; exact h1 j hj2 hj1
  ·exact a3 _ hy z hz
theorem refSort_val {l : List Fm} (hln : l.length ≤ 1100000) (hbig : ∀ f ∈ l, f.big ≤ 2000000000000) : ∃ r, G_refSort l = some r ∧ SortOf l r := by
 unfold G_refSort
 refine abind (fun d => ∃ (i : Nat) (out : List Fm), d = ((l, (), (i : Int), ()), (out, ())) ∧ i ≤ l.length ∧ out.length ≤ i ∧ (∀ f ∈ out, f ∈ l) ∧ (∀ j (h : j < l.length), j < i → ∃ g ∈ out, eqF l[j] g) ∧ out.Pairwise ltF) (fun d => l.length - d.1.2.2.1.toNat) ?_ ⟨0, [], rfl, Nat.zero_le _, Nat.zero_le _, (fun f h => by cases h), (fun j h a => by omega), .nil⟩
 rintro d ⟨i, out, rfl, hi, hol, h1, h2, h3⟩
 simp only [Int.toNat_natCast]
 by_cases hi' : i < l.length
 ·have e1 : decide ((i : Int) < (l.length : Int)) = true := by apply decide_eq_true; omega
  have x1 : ixOK (i : Int) l.length = true := ixOK_iff.2 (by omega)
  have g1 : l.getD i (Fm.mk 0 0 [] []) = l[i] := getD_in hi' _
  have hbo : ∀ j (h : j < out.length), out[j].big ≤ 2000000000000 := fun j h => hbig _ (h1 _ (List.getElem_mem h))
  simp only [e1, cond_true]
  have inner : ∃ v, loopM (L := ((List Fm) × Unit × Int × Int × Unit) × ((List Fm) × Unit)) (R := ((List Fm) × Unit × Int × Int × Unit) × ((List Fm) × Unit)) (fun d5 => (
 let l6 := d5.2.1
 let v0_7 := d5.1.1
 let v4_8 := d5.1.2.2.1
 let v5_9 := d5.1.2.2.2.1
 cond ((ixOK v5_9 l6.length) || !(decide (v5_9 < (l6.length : Int)))) (cond ((decide (v5_9.toNat < l6.length)) || !(decide (v5_9 < (l6.length : Int)))) (cond ((ixOK v4_8 v0_7.length) || !(decide (v5_9 < (l6.length : Int)))) (Option.bind (α := Int) (cond (decide (v5_9 < (l6.length : Int))) (L_refCompare (Fm.eta (l6.getD v5_9.toNat (Fm.mk 0 0 [] []))) (Fm.eta (v0_7.getD v4_8.toNat (Fm.mk 0 0 [] [])))) (some (0 : Int))) fun r10 => (
 cond (cond (decide (v5_9 < (l6.length : Int))) (decide (r10 < 0)) false) (some (Step.next ((v0_7, (), v4_8, IntKind.wrap .i64 (v5_9 + 1), ()), (l6, ())))) (some (Step.done ((v0_7, (), v4_8, v5_9, ()), (l6, ())))))) none) none) none)) ((l, (), (i : Int), 0, ()), (out, ())) = some v ∧ ∃ p : Nat, v = ((l, (), (i : Int), (p : Int), ()), (out, ())) ∧ p ≤ out.length ∧ (∀ j (h : j < out.length), j < p → ltF out[j] l[i]) ∧ ∀ h : p < out.length, ¬ ltF out[p] l[i] := by
   refine loop_wp (fun d => ∃ p : Nat, d = ((l, (), (i : Int), (p : Int), ()), (out, ())) ∧ p ≤ out.length ∧ (∀ j (h : j < out.length), j < p → ltF out[j] l[i])) (fun d => out.length - d.1.2.2.2.1.toNat) _ ?_ _ ⟨0, rfl, Nat.zero_le _, fun j h a => by omega⟩
   rintro d ⟨p, rfl, hp, hlt⟩
   simp only [Int.toNat_natCast]
   by_cases hp' : p < out.length
   ·have f1 : decide ((p : Int) < (out.length : Int)) = true := by apply decide_eq_true; omega
    have f2 : ixOK (p : Int) out.length = true := ixOK_iff.2 (by omega)
    have f3 : decide (p < out.length) = true := by apply decide_eq_true; omega
    have g2 : out.getD p (Fm.mk 0 0 [] []) = out[p] := getD_in hp' _
    have hcmp : L_refCompare out[p] l[i] = some (cmpF out[p] l[i]) := refCompare_val (by have := hbo p hp'; omega)
    simp only [f1, f2, f3, x1, g1, g2, hcmp, Bool.true_or, cond_true, Fm.eta_eq, Option.bind_some, wrapN (show p < 4611686018427387904 by omega)]
    by_cases hc : cmpF out[p] l[i] < 0
    ·simp only [hc, decide_true, cond_true]
     refine .inl ⟨_, rfl, ⟨p + 1, rfl, by omega, fun j h a => ?_⟩, ?_⟩
     ·by_cases hj : j = p
      ·subst hj; exact hc
      ·exact hlt j h (by omega)
     ·simp only [Int.toNat_natCast]; omega
    ·simp only [hc, decide_false, cond_false]
     exact .inr ⟨_, rfl, p, rfl, by omega, hlt, fun _ => hc⟩
   ·have f1 : decide ((p : Int) < (out.length : Int)) = false := by apply decide_eq_false; omega
    simp only [f1, Bool.not_false, Bool.or_true, cond_true, cond_false, Option.bind_some]
    exact .inr ⟨_, rfl, p, rfl, by omega, hlt, fun h => absurd h hp'⟩
  obtain ⟨v, hv, p, rfl, hp, hlt, hnl⟩ := inner
  rw [hv]
  have hown : L_own l[i] = some l[i] := own_val (by have := hbig _ (List.getElem_mem hi'); omega)
  have c1 : slOK 0 (p : Int) out.length = true := slOK_iff.2 (by omega)
  have c2 : decide ((([] : List Fm).length + ((out.drop (0 : Int).toNat).take (p - (0 : Int).toNat)).length) * 56 ≤ 140737488355328) = true := by apply decide_eq_true; simp; omega
  have c3 : decide (((([] : List Fm) ++ ((out.drop (0 : Int).toNat).take (p - (0 : Int).toNat))).length + ([l[i]]).length) * 56 ≤ 140737488355328) = true := by apply decide_eq_true; simp; omega
  have c4 : slOK (p : Int) (out.length : Int) out.length = true := slOK_iff.2 (by omega)
  have c5 : decide ((((([] : List Fm) ++ ((out.drop (0 : Int).toNat).take (p - (0 : Int).toNat))) ++ ([l[i]])).length + ((out.drop p).take (out.length - p)).length) * 56 ≤ 140737488355328) = true := by apply decide_eq_true; simp; omega
  have e9 : (([] : List Fm) ++ ((out.drop (0 : Int).toNat).take (p - (0 : Int).toNat))) ++ [l[i]] ++ ((out.drop p).take (out.length - p)) = out.take p ++ [l[i]] ++ out.drop p := by
   have : (out.drop p).take (out.length - p) = out.drop p := List.take_of_length_le (by simp)
   rw [this]; simp
  have ins : (∀ h : p < out.length, ¬ cmpF out[p] l[i] = 0) → ∃ (i' : Nat) (out' : List Fm), ((l, (), ((i + 1 : Nat) : Int), ()), (out.take p ++ [l[i]] ++ out.drop p, ())) = ((l, (), (i' : Int), ()), (out', ())) ∧ i' ≤ l.length ∧ out'.length ≤ i' ∧ (∀ f ∈ out', f ∈ l) ∧ (∀ j (h : j < l.length), j < i' → ∃ g ∈ out', eqF l[j] g) ∧ out'.Pairwise ltF := fun hne => by
   have hmem : ∀ f, f ∈ out.take p ++ [l[i]] ++ out.drop p ↔ f ∈ out ∨ f = l[i] := fun f => by
    have : f ∈ out ↔ f ∈ out.take p ∨ f ∈ out.drop p := by rw [← List.mem_append, List.take_append_drop]
    simp only [List.mem_append, List.mem_singleton, this]
    constructor
    ·rintro ((h | h) | h)
     ·exact .inl (.inl h)
     ·exact .inr h
     ·exact .inl (.inr h)
    ·rintro ((h | h) | h)
     ·exact .inl (.inl h)
     ·exact .inr h
     ·exact .inl (.inr h)
   refine ⟨i + 1, _, rfl, by omega, by simp; omega, fun f hf => ?_, fun j h hj => ?_, insert_ok hp h3 hlt fun h => ?_⟩
   ·rcases (hmem f).1 hf with h | rfl
    ·exact h1 f h
    ·exact List.getElem_mem hi'
   ·by_cases hji : j = i
    ·subst hji; exact ⟨l[j], (hmem _).2 (.inr rfl), cmpF_self _⟩
    ·obtain ⟨g, a, b⟩ := h2 j h (by omega)
     exact ⟨g, (hmem _).2 (.inl a), b⟩
   ·have a := hnl h
    have b := hne h
    unfold ltF at a ⊢
    rw [cmpF_neg out[p] l[i]]
    omega
  by_cases hp' : p < out.length
  ·have f1 : decide ((p : Int) < (out.length : Int)) = true := by apply decide_eq_true; omega
   have f2 : ixOK (p : Int) out.length = true := ixOK_iff.2 (by omega)
   have f3 : decide (p < out.length) = true := by apply decide_eq_true; omega
   have g2 : out.getD p (Fm.mk 0 0 [] []) = out[p] := getD_in hp' _
   have heq : G_refEqual out[p] l[i] = some (decide (cmpF out[p] l[i] = 0)) := refEqual_gen (by have := hbo p hp'; omega)
   simp only [Option.bind_some, f1, f2, f3, x1, g1, g2, heq, Bool.true_or, cond_true, Fm.eta_eq, Int.toNat_natCast]
   by_cases hc : cmpF out[p] l[i] = 0
   ·simp only [hc, decide_true, cond_true, Option.bind_some, wrapN (show i < 4611686018427387904 by omega)]
    refine .inl ⟨_, rfl, ⟨i + 1, out, rfl, by omega, by omega, h1, fun j h hj => ?_, h3⟩, ?_⟩
    ·by_cases hji : j = i
     ·subst hji; exact ⟨out[p], List.getElem_mem hp', eqF.symm hc⟩
     ·exact h2 j h (by omega)
    ·simp only [Int.toNat_natCast]; omega
   ·simp only [hc, decide_false, cond_false, c1, c2, hown, c3, c4, c5, e9, cond_true, Option.bind_some, Fm.eta_eq, wrapN (show i < 4611686018427387904 by omega)]
    refine .inl ⟨_, rfl, ins fun _ => hc, ?_⟩
    simp only [Int.toNat_natCast]; omega
  ·have f1 : decide ((p : Int) < (out.length : Int)) = false := by apply decide_eq_false; omega
   simp only [Option.bind_some, f1, x1, g1, Bool.not_false, Bool.or_true, cond_true, cond_false, Fm.eta_eq, Int.toNat_natCast, c1, c2, hown, c3, c4, c5, e9, wrapN (show i < 4611686018427387904 by omega)]
   refine .inl ⟨_, rfl, ins fun h => absurd h hp', ?_⟩
   simp only [Int.toNat_natCast]; omega
 ·have e1 : decide ((i : Int) < (l.length : Int)) = false := by apply decide_eq_false; omega
  refine .inr ⟨_, by simp only [e1, cond_false]; rfl, _, rfl, h1, fun f hf => ?_, h3⟩
  obtain ⟨j, hj, rfl⟩ := List.getElem_of_mem hf
  exact h2 j hj (by omega)
end Go.Ab

set_option maxRecDepth 100000
namespace Go.Ab
open Go Go.RowKit Go.Proofs
end Go.Ab

set_option maxRecDepth 100000
namespace Go.Ab
open Go Go.RowKit Go.Proofs
end Go.Ab

set_option maxRecDepth 100000
namespace Go.Ab
open Go Go.RowKit Go.Proofs
end Go.Ab

set_option maxRecDepth 100000
namespace Go.Ab
open Go Go.RowKit Go.Proofs
end Go.Ab

set_option maxRecDepth 100000
namespace Go.Ab
open Go Go.RowKit Go.Proofs
section
variable {α : Type} {P : List α} {x y d : α}
end
structure Szs (j : Nat) (top : List Fm) (st : List (List Fm)) : Prop where
 hst : st.length ≤ j
 htop : top.length ≤ j
 hrows : ∀ t ∈ st, t.length ≤ j
theorem Szs.app {j j' : Nat} {top : List Fm} {st : List (List Fm)} (h : Szs j top st) (hj : j < j') (f : Fm) : Szs j' (top ++ [f]) st :=
 ⟨by have := h.hst; omega, by have := h.htop; simp; omega, fun t ht => by have := h.hrows t ht; omega⟩
theorem Szs.push {j j' : Nat} {top : List Fm} {st : List (List Fm)} (h : Szs j top st) (hj : j < j') : Szs j' [] (top :: st) :=
 ⟨by have := h.hst; simp only [List.length_cons]; omega, by simp, fun t ht => by
  rcases List.mem_cons.1 ht with rfl | ht
  ·have := h.htop; omega
  ·have := h.hrows t ht; omega⟩
theorem Szs.le {j j' : Nat} {top : List Fm} {st : List (List Fm)} (h : Szs j top st) (hj : j ≤ j') : Szs j' top st :=
 ⟨Nat.le_trans h.hst hj, Nat.le_trans h.htop hj, fun t ht => Nat.le_trans (h.hrows t ht) hj⟩
end Go.Ab

set_option maxRecDepth 100000
namespace Go.Ab
open Go Go.RowKit Go.Proofs
end Go.Ab

set_option maxRecDepth 100000
namespace Go.Ab
open Go Go.RowKit Go.Proofs
end Go.Ab

set_option maxRecDepth 100000
namespace Go.Ab
open Go Go.RowKit Go.Proofs
end Go.Ab

set_option maxRecDepth 100000
namespace Go.Ab
open Go Go.RowKit Go.Proofs
end Go.Ab

set_option maxRecDepth 100000
namespace Go.Ab
open Go Go.RowKit Go.Proofs
def goodT (b : List UInt8) : Prop := ∀ c ∈ b, badB c = false
theorem goodT.app {b : List UInt8} {c : UInt8} (h : goodT b) (hc : badB c = false) : goodT (b ++ [c]) := fun x hx => by
 rcases List.mem_append.1 hx with hx | hx
 ·exact h x hx
 ·rw [List.mem_singleton.1 hx]; exact hc
end Go.Ab

set_option maxRecDepth 100000
namespace Go.Ab
open Go Go.RowKit Go.Proofs
theorem big_len : ∀ l : List Fm, l.length ≤ Fm.bigL l
 | [] => Nat.le_refl _
 | f :: l => by
  have := big_len l
  have := big_pos f
  simp only [List.length_cons, Fm.bigL]; omega
end Go.Ab

set_option maxRecDepth 100000
namespace Go.Ab
open Go Go.RowKit Go.Proofs
end Go.Ab

set_option maxRecDepth 100000
namespace Go.Ab
open Go Go.RowKit Go.Proofs
end Go.Ab

set_option maxRecDepth 100000
namespace Go.Ab
open Go Go.RowKit Go.Proofs
def wrA : List Fm → List UInt8
 | [] => []
 | f :: l => wrV f ++ (10 :: wrA l)
theorem wrA_app : ∀ a b : List Fm, wrA (a ++ b) = wrA a ++ wrA b
 | [], b => rfl
 | f :: a, b => by simp [wrA, wrA_app a b]
theorem wrA_take {l : List Fm} {i : Nat} (h : i < l.length) : wrA (l.take (i + 1)) = wrA (l.take i) ++ (wrV l[i] ++ [10]) := by
 rw [List.take_add_one, List.getElem?_eq_getElem h, wrA_app]
 rfl
theorem wrA_len : ∀ l : List Fm, (wrA l).length ≤ l.length * 82020001
 | [] => by simp [wrA]
 | f :: l => by
  have := wrA_len l
  have := wrV_len f
  simp only [wrA, List.length_append, List.length_cons, Nat.add_mul]
  omega
theorem rWriteAll_val {l : List Fm} (hl : l.length ≤ 1100000) (hb : ∀ f ∈ l, f.big ≤ 4611686018427387000) : G_rWriteAll l = some (wrA l) := by
 refine Up.get ?_
 unfold G_rWriteAll
 refine loop_ix (N := False) (A := List UInt8) (fun i => (((), l, (l.length : Int), (i : Int), ()), ((decide (0 < i), (), ()), intsOf (wrA (l.take i)), ()))) (fun i => wrA l) l.length (fun i hi => ?_) ?_
 ·have e1 : decide ((i : Int) < (l.length : Int)) = true := by simp [hi]
  have e2 : ixOK (i : Int) l.length = true := ixOK_iff.2 (by omega)
  have hw := wrV_len l[i]
  have ht := wrA_len (l.take i)
  rw [List.length_take, Nat.min_eq_left (by omega)] at ht
  have h1 : i * 82020001 ≤ 1100000 * 82020001 := Nat.mul_le_mul_right _ (by omega)
  refine .inl ⟨?_, rfl⟩
  simp only [e1, e2, cond_true, Int.toNat_natCast, getD_in hi, Fm.eta_eq, rWrite_val (hb _ (List.getElem_mem hi)), Option.bind_some, List.length_cons, List.length_nil]
  rw [decide_eq_true (by omega), cond_true, bldStr_val (by rw [ints_len, List.length_append, List.length_cons, List.length_nil]; omega)]
  simp only [Option.bind_some]
  rw [wrapN (show i < 4611686018427387904 by omega), ints_append, wrA_take hi, decide_eq_true (show 0 < i + 1 by omega)]
 ·refine ⟨_, by simp only [show decide ((l.length : Int) < (l.length : Int)) = false by simp, cond_false]; rfl, .of ?_⟩
  simp only [bytes_ints, Option.map_some, Option.bind_some, List.take_length]
theorem refWriteAll_val {l : List Fm} (hl : l.length ≤ 1100000) (hb : ∀ f ∈ l, f.big ≤ 4611686018427387000) : G_refWriteAll l = some (wrA l) := by
 refine Up.get ?_
 unfold G_refWriteAll
 refine loop_ix (N := False) (A := List UInt8) (fun i => ((l, (), (i : Int), ()), (intsOf (wrA (l.take i)), ()))) (fun i => wrA l) l.length (fun i hi => ?_) ?_
 ·have e1 : decide ((i : Int) < (l.length : Int)) = true := by simp [hi]
  have e2 : ixOK (i : Int) l.length = true := ixOK_iff.2 (by omega)
  have hw := wrV_len l[i]
  have ht := wrA_len (l.take i)
  rw [List.length_take, Nat.min_eq_left (by omega)] at ht
  have h1 : i * 82020001 ≤ 1100000 * 82020001 := Nat.mul_le_mul_right _ (by omega)
  refine .inl ⟨?_, rfl⟩
  simp only [e1, e2, cond_true, Int.toNat_natCast, getD_in hi, Fm.eta_eq, refWrite_val (hb _ (List.getElem_mem hi)), Option.bind_some, List.length_cons, List.length_nil, List.length_map]
  rw [decide_eq_true (by rw [ints_len]; omega), cond_true, decide_eq_true (by rw [List.length_append, ints_len, List.length_map]; omega), cond_true]
  rw [wrapN (show i < 4611686018427387904 by omega), wrA_take hi, ← ints_append, ← ints_append, List.append_assoc]
  rfl
 ·refine ⟨_, by simp only [show decide ((l.length : Int) < (l.length : Int)) = false by simp, cond_false]; rfl, .of ?_⟩
  simp only [List.take_length, str_intsX]
end Go.Ab

set_option maxRecDepth 100000
namespace Go.Ab
open Go Go.RowKit Go.Proofs
theorem symMerge_val {a m b : Nat} {l : List Fm} (h1 : a < m) (h2 : m < b) (h3 : b ≤ l.length) (h4 : l.length < 1000000000000) (h5 : bigAll l) (h6 : SF a m (atF' l)) (h7 : SF m b (atF' l)) :
  ∃ d, L_symMerge (a : Int) (m : Int) (b : Int) l = some ((), (d, ())) ∧ SW a b l d ∧ SF a b (atF' d) := by
 have h := fun k => symMerge_up k a m b l h1 h2 h3 h4 h5 h6 h7
 have hex : ∃ k r, G_symMerge k (a : Int) (m : Int) (b : Int) l = some r := by
  rcases h (b - a) with ⟨r, hr, _⟩ | ⟨_, hn⟩
  ·exact ⟨_, r, hr⟩
  ·omega
 cases hL : L_symMerge (a : Int) (m : Int) (b : Int) l with
 | none =>
  exfalso
  unfold L_symMerge limF at hL
  split at hL
  ·cases hL
  ·rename_i h' _
   obtain ⟨k, r, hr⟩ := hex
   exact h' ⟨r, k, hr⟩
 | some r =>
  obtain ⟨k, hk⟩ := limF_ex hL
  rcases h k with ⟨r', hr', m, rfl, q1, q2⟩ | ⟨hn, _⟩
  ·have : r = ((), (m, ())) := Option.some.inj (hk.symm.trans hr')
   subst this
   exact ⟨m, rfl, q1, q2⟩
  ·rw [hn] at hk; cases hk
theorem insSort_nil {n : Nat} {l : List Fm} (h : n < 1000000000000) : G_insSort (n : Int) (n : Int) l = some ((), (l, ())) := by
 unfold G_insSort
 rw [wrapN (show n < 4611686018427387904 by omega)]
 refine loopM_done ?_
 have e : decide (((n + 1 : Nat) : Int) < (n : Int)) = false := by apply decide_eq_false; omega
 simp only [e, cond_false]
def BK (bs lo hi : Nat) (g : Nat → Fm) : Prop := ∀ c p q, lo ≤ p → c * bs ≤ p → p < q → q < (c + 1) * bs → q < hi → le (g p) (g q)
theorem BK.mono {bs lo hi lo' hi' : Nat} {g : Nat → Fm} (h : BK bs lo hi g) (h1 : lo ≤ lo') (h2 : hi' ≤ hi) : BK bs lo' hi' g := fun c p q p1 p2 p3 p4 p5 => h c p q (by omega) p2 p3 p4 (by omega)
theorem BK.out {bs lo hi a b : Nat} {l d : List Fm} (h : BK bs lo hi (atF' l)) (hb : b ≤ l.length) (hs : SW a b l d) (ho : hi ≤ a ∨ b ≤ lo) : BK bs lo hi (atF' d) := fun c p q p1 p2 p3 p4 p5 => by
 rw [hs.out hb (p := p) (by omega), hs.out hb (p := q) (by omega)]
 exact h c p q p1 p2 p3 p4 p5
theorem BK.snoc {bs t n : Nat} {g : Nat → Fm} (h : BK bs 0 (t * bs) g) (hn : n ≤ (t + 1) * bs) (hs : SF (t * bs) n g) : BK bs 0 n g := fun c p q p1 p2 p3 p4 p5 => by
 by_cases hq : q < t * bs
 ·exact h c p q p1 p2 p3 p4 hq
 ·have h1 : t * bs < (c + 1) * bs := by omega
  have h2 : t < c + 1 := Nat.lt_of_mul_lt_mul_right h1
  have h3 : t * bs ≤ c * bs := Nat.mul_le_mul_right _ (by omega)
  exact hs p q (by omega) p3 p5
theorem BK.seg {bs lo hi c a b : Nat} {g : Nat → Fm} (h : BK bs lo hi g) (h1 : c * bs ≤ a) (h2 : b ≤ (c + 1) * bs) (h3 : lo ≤ a) (h4 : b ≤ hi) : SF a b g := fun p q p1 p2 p3 => h c p q (by omega) (by omega) p2 (by omega) (by omega)
theorem next_of {L R : Type} {X : Option (Step L R)} {P : Step L R → Prop} {Q : L → Prop} (h : ∃ v, X = some v ∧ P v) (k : ∀ v, P v → ∃ l', v = .next l' ∧ Q l') : ∃ l', X = some (.next l') ∧ Q l' := by
 obtain ⟨v, hv, hp⟩ := h
 obtain ⟨l', rfl, hq⟩ := k v hp
 exact ⟨l', hv, hq⟩
theorem stable_val {n : Nat} {l : List Fm} (hn : n = l.length) (hln : l.length < 100000000000) (hbig : bigAll l) : ∃ d, G_stableF (n : Int) l = some ((), (d, ())) ∧ SW 0 n l d ∧ SF 0 n (atF' d) := by
 unfold G_stableF
 refine ret_of ?_
 refine abind (fun d => ∃ (t : Nat) (e : List Fm), d = (((), (n : Int), (), 20, ((t * 20 : Nat) : Int), ((t * 20 + 20 : Nat) : Int), ()), (e, ())) ∧ t * 20 ≤ n ∧ SW 0 n l e ∧ BK 20 0 (t * 20) (atF' e)) (fun d => n - d.1.2.2.2.2.1.toNat) ?_
  ⟨0, l, rfl, by omega, .refl _, fun c p q p1 p2 p3 p4 p5 => by omega⟩
 rintro d ⟨t, e, rfl, ht, hsw, hbk⟩
 have hlen := hsw.length
 have hbe := hsw.big (by omega) hbig
 by_cases hc : t * 20 + 20 ≤ n
 ·have e1 : decide (((t * 20 + 20 : Nat) : Int) ≤ (n : Int)) = true := by apply decide_eq_true; omega
  obtain ⟨d, q1, q2, q3⟩ := insSort_val (a := t * 20) (b := t * 20 + 20) (l := e) (by omega) (by omega) (by omega) hbe
  have w1 : IntKind.wrap .i64 (((t * 20 + 20 : Nat) : Int) + 20) = (((t + 1) * 20 + 20 : Nat) : Int) := by rw [w64 (by omega) (by omega)]; omega
  simp only [e1, cond_true, q1, Option.bind_some, w1]
  refine .inl ⟨_, by rw [show t * 20 + 20 = (t + 1) * 20 by omega], ⟨t + 1, d, rfl, by omega, hsw.trans (q2.mono (by omega) (by omega)), ?_⟩, by simp only [Int.toNat_natCast]; omega⟩
  have h1 := (hbk.out (by omega) q2 (.inl (Nat.le_refl _))).snoc (Nat.le_refl _) (show SF (t * 20) ((t + 1) * 20) (atF' d) from fun p q p1 p2 p3 => q3 p q p1 p2 (by omega))
  exact h1
 ·have e1 : decide (((t * 20 + 20 : Nat) : Int) ≤ (n : Int)) = false := by apply decide_eq_false; omega
  refine .inr ⟨(((), (n : Int), (), 20, ((t * 20 : Nat) : Int), ()), (e, ())), by simp only [e1, cond_false], ?_⟩
  dsimp only
  have fst : ∃ d, G_insSort ((t * 20 : Nat) : Int) (n : Int) e = some ((), (d, ())) ∧ SW 0 n l d ∧ BK 20 0 n (atF' d) := by
   by_cases htn : t * 20 = n
   ·exact ⟨e, by rw [htn]; exact insSort_nil (by omega), hsw, by rw [← htn]; exact hbk⟩
   ·obtain ⟨d, q1, q2, q3⟩ := insSort_val (a := t * 20) (b := n) (l := e) (by omega) (by omega) (by omega) hbe
    exact ⟨d, q1, hsw.trans (q2.mono (by omega) (by omega)), (hbk.out (by omega) q2 (.inl (Nat.le_refl _))).snoc (by omega) q3⟩
  obtain ⟨d1, q1, hsw1, hbk1⟩ := fst
  rw [q1]
  simp only [Option.bind_some]
  refine loop_wp
   (fun d => ∃ (bs : Nat) (e : List Fm), d = (((), (n : Int), (), (bs : Int), ()), (e, ())) ∧ 20 ≤ bs ∧ SW 0 n l e ∧ BK bs 0 n (atF' e)) (fun d => n - d.1.2.2.2.1.toNat) _ (by
    rintro d ⟨bs, e, rfl, h20, hsw, hbk⟩
    have hlen := hsw.length
    by_cases hbs : bs < n
    ·have e2 : decide ((bs : Int) < (n : Int)) = true := by apply decide_eq_true; omega
     have w2 : IntKind.wrap .i64 (2 * (bs : Int)) = ((2 * bs : Nat) : Int) := by rw [w64 (by omega) (by omega)]; omega
     simp only [e2, cond_true, w2]
     refine .inl (next_of (abind (P := fun r => ∃ e', r = Step.next (R := (Unit) × ((List Fm) × Unit)) (((), (n : Int), (), ((2 * bs : Nat) : Int), ()), (e', ())) ∧ SW 0 n l e' ∧ BK (2 * bs) 0 n (atF' e'))
      (fun d => ∃ (t : Nat) (e : List Fm), d = (((), (n : Int), (), (bs : Int), ((t * (2 * bs) : Nat) : Int), ((t * (2 * bs) + 2 * bs : Nat) : Int), ()), (e, ())) ∧ t * (2 * bs) ≤ n ∧ SW 0 n l e ∧ BK (2 * bs) 0 (t * (2 * bs)) (atF' e) ∧ BK bs (t * (2 * bs)) n (atF' e)) (fun d => n - d.1.2.2.2.2.1.toNat) (by
       rintro d ⟨t, e, rfl, ht, hsw, hk1, hk2⟩
       have hlen := hsw.length
       have hbe := hsw.big (by omega) hbig
       have hA : t * (2 * bs) = (2 * t) * bs := by rw [Nat.mul_comm 2 t, Nat.mul_assoc]
       have hA1 : (2 * t + 1) * bs = (2 * t) * bs + bs := Nat.succ_mul _ _
       have hA2 : (2 * t + 1 + 1) * bs = (2 * t + 1) * bs + bs := Nat.succ_mul _ _
       have hA3 : (t + 1) * (2 * bs) = t * (2 * bs) + 2 * bs := Nat.succ_mul _ _
       obtain ⟨A, hAd⟩ : ∃ A, A = t * (2 * bs) := ⟨_, rfl⟩
       have w3 : IntKind.wrap .i64 ((A : Int) + (bs : Int)) = ((A + bs : Nat) : Int) := aAdd (by omega)
       by_cases hc : A + 2 * bs ≤ n
       ·have e3 : decide (((A + 2 * bs : Nat) : Int) ≤ (n : Int)) = true := by apply decide_eq_true; omega
        obtain ⟨d, q1, q2, q3⟩ := symMerge_val (a := A) (m := A + bs) (b := A + 2 * bs) (l := e) (by omega) (by omega) (by omega) (by omega) hbe (hk2.seg (c := 2 * t) (by omega) (by omega) (by omega) (by omega)) (hk2.seg (c := 2 * t + 1) (by omega) (by omega) (by omega) (by omega))
        have w4 : IntKind.wrap .i64 (((A + 2 * bs : Nat) : Int) + ((2 * bs : Nat) : Int)) = ((A + 2 * bs + 2 * bs : Nat) : Int) := aAdd (by omega)
        simp only [← hAd, e3, cond_true, w3, q1, Option.bind_some, w2, w4]
        refine .inl ⟨_, rfl, ⟨t + 1, d, by rw [hA3, ← hAd], by omega, hsw.trans (q2.mono (by omega) (by omega)), ?_, ?_⟩, by simp only [Int.toNat_natCast]; omega⟩
        ·refine (hk1.out (by omega) q2 (.inl (by omega))).snoc (Nat.le_refl _) ?_
         rw [hA3, ← hAd]; exact q3
        ·have h1 : BK bs ((t + 1) * (2 * bs)) n (atF' e) := hk2.mono (by omega) (Nat.le_refl _)
         exact h1.out (by omega) q2 (.inr (by omega))
       ·have e3 : decide (((A + 2 * bs : Nat) : Int) ≤ (n : Int)) = false := by apply decide_eq_false; omega
        refine .inr ⟨(((), (n : Int), (), (bs : Int), (A : Int), ()), (e, ())), by simp only [← hAd, e3, cond_false], ?_⟩
        dsimp only
        have w5 : IntKind.wrap .i64 ((bs : Int) * 2) = ((2 * bs : Nat) : Int) := by rw [w64 (by omega) (by omega)]; omega
        rw [w3]
        by_cases hd : A + bs < n
        ·obtain ⟨d, q1, q2, q3⟩ := symMerge_val (a := A) (m := A + bs) (b := n) (l := e) (by omega) (by omega) (by omega) (by omega) hbe (hk2.seg (c := 2 * t) (by omega) (by omega) (by omega) (by omega)) (hk2.seg (c := 2 * t + 1) (by omega) (by omega) (by omega) (by omega))
         rw [decide_eq_true (show ((A + bs : Nat) : Int) < (n : Int) by omega), cond_true, q1]
         simp only [Option.bind_some, w5]
         refine ⟨_, rfl, d, rfl, hsw.trans (q2.mono (by omega) (by omega)), (hk1.out (by omega) q2 (.inl (by omega))).snoc (by omega) ?_⟩
         rw [← hAd]; exact q3
        ·rw [decide_eq_false (show ¬ ((A + bs : Nat) : Int) < (n : Int) by omega), cond_false]
         simp only [Option.bind_some, w5]
         exact ⟨_, rfl, e, rfl, hsw, hk1.snoc (by omega) (hk2.seg (c := 2 * t) (by omega) (by omega) (by omega) (Nat.le_refl _))⟩)
      ⟨0, e, by simp, by omega, hsw, fun c p q p1 p2 p3 p4 p5 => by omega, by simpa using hbk⟩) ?_)
     rintro v ⟨e', rfl, z1, z2⟩
     exact ⟨_, rfl, ⟨2 * bs, e', rfl, by omega, z1, z2⟩, by simp only [Int.toNat_natCast]; omega⟩
    ·have e2 : decide ((bs : Int) < (n : Int)) = false := by apply decide_eq_false; omega
     refine .inr ⟨_, by simp only [e2, cond_false], e, rfl, hsw, fun p q p1 p2 p3 => hbk 0 p q p1 (by omega) p2 (by omega) p3⟩)
   _ ⟨20, d1, rfl, Nat.le_refl _, hsw1, hbk1⟩
theorem sortStable_val {l : List Fm} (hln : l.length < 100000000000) (hbig : bigAll l) : ∃ d, G_sortStable l = some ((), (d, ())) ∧ SW 0 l.length l d ∧ Srt 0 l.length d := by
 obtain ⟨d, q1, q2, q3⟩ := stable_val (n := l.length) rfl hln hbig
 refine ⟨d, ?_, q2, q3⟩
 unfold G_sortStable
 rw [q1]
 rfl
theorem rSort_val {l : List Fm} (hln : l.length < 1100000) (hbig : bigAll l) : ∃ r, G_rSort l = some r ∧ SortOf l r ∧ r.length ≤ l.length := by
 obtain ⟨m, h1, h2, h3⟩ := sortStable_val (l := l) (by omega) hbig
 have hlen := h2.length
 have hbm : bigAll m := h2.big (Nat.le_refl _) hbig
 have hmem := fun f => h2.mem (Nat.le_refl _) f
 obtain ⟨q1, q2, q3⟩ := ded_props (show Srt 0 m.length m by rw [hlen]; exact h3) m.length (Nat.le_refl _)
 refine ⟨ded m m.length, ?_, ⟨fun f hf => ?_, fun f hf => ?_, q3⟩, by have := ded_le m m.length; omega⟩
 ·unfold G_rSort cloneF
  have e : decide (l.length * 56 ≤ 140737488355328) = true := by apply decide_eq_true; omega
  simp only [e, cond_true, Option.bind_some, h1, compact_val (show m.length < 1000000000000 by omega) hbm]
 ·obtain ⟨i, hi, rfl⟩ := q1 f hf
  rw [atF_in hi]
  exact (hmem _).1 (List.getElem_mem hi)
 ·obtain ⟨i, hi, rfl⟩ := List.getElem_of_mem ((hmem f).2 hf)
  obtain ⟨g, a, b⟩ := q2 i hi
  exact ⟨g, a, by rw [← atF_in hi]; exact b⟩
theorem allA_alike {r r' : List Fm} (hb : Fm.bigL r ≤ 4611686018427386000) (h : eqAllF r r') : G_allA r r' = some true := by
 have hl := eqAllF_len h
 unfold G_allA G_refEqAll G_refList
 simp only [Option.bind_some, Fm.eta_eq]
 rw [refEqual_gen (by simp only [Fm.big, List.length_nil]; omega), cmpF_mk]
 simp [eqAllF_cmp h, hl]
theorem lawAll_val {l : List Fm} (hb : Fm.bigL l ≤ 1050000) : G_lawAll l = some true := by
 have hln : l.length ≤ 1050000 := Nat.le_trans (big_len l) hb
 have hbm : ∀ f ∈ l, f.big ≤ 1050000 := fun f hf => Nat.le_trans (big_mem hf) hb
 obtain ⟨r, h1, h2, h3⟩ := rSort_val (l := l) (by omega) (fun f hf => by have := hbm f hf; omega)
 obtain ⟨r', g1, g2⟩ := refSort_val (l := l) (by omega) (fun f hf => by have := hbm f hf; omega)
 have hbr : Fm.bigL r ≤ r.length * 1050000 := bigL_mem_le fun f hf => hbm f (h2.sub f hf)
 have hbr2 : r.length * 1050000 ≤ 1050000 * 1050000 := Nat.mul_le_mul_right _ (by omega)
 unfold G_lawAll
 simp only [rWriteAll_val (show l.length ≤ 1100000 by omega) (fun f hf => by have := hbm f hf; omega), refWriteAll_val (show l.length ≤ 1100000 by omega) (fun f hf => by have := hbm f hf; omega), Option.bind_some, decide_true, cond_true, h1, g1, allA_alike (show Fm.bigL r ≤ 4611686018427386000 by omega) (h2.alike g2), sane01_val]
theorem all_call {l : List Fm} (hb : Fm.bigL l ≤ 1050000) : PCall CX 8 [.tvec .form l] (· = .ret (.bool true)) :=
 S_lawAll_ok (l, ()) true (lawAll_val hb)
end Go.Ab

set_option maxRecDepth 100000
namespace Go.Proofs.YtdagildojaagiaaGreatDoor.readerAll
open Go Go.ChangeShapes Go.WideShapes Go.ChangeAt Go.RowKit Go.Ab
theorem own : ownKnob Tryz.prog.godebug = none := by kernel_rfl
def flat {H : Type} : Nat → DataW H → List Value
 | 0, _ => []
 | n + 1, d => match d with
  | .lit (.int k x) => [.int k x]
  | .agg l => l.flatMap (flat n)
  | _ => []
noncomputable def lay (W : World) (name : String) (d : DataW Unit) : World :=
 match Tryz.prog.globalNamed name with
 | some g => match d with
  | .iface _ (.ptr (.agg [.lit (.string bs)])) => { W with heap := (W.heap.push (.cells #[.string ⟨bs.toArray⟩] 298 (0, 0))).modify g fun
   | .cells _ t fz => .cells #[.iface 296 (.pointer (some ⟨W.heap.size, 0, none⟩))] t fz
   | o => o }
  | d => { W with heap := W.heap.modify g fun
   | .cells _ t fz => .cells (flat 4 d).toArray t fz
   | o => o }
 | none => W
noncomputable def laidWorld (os : Os) : World :=
 lay (lay (lay (lay (lay (lay (lay (World.holding Tryz.prog os ⟨#[], #[], []⟩) "math/bits.deBruijn32tab" Rows.laid_math_bits_deBruijn32tab) "math/bits.deBruijn64tab" Rows.laid_math_bits_deBruijn64tab) "internal/strconv.uint64pow10" Rows.laid_internal_strconv_uint64pow10) "unicode/utf8.acceptRanges" Rows.laid_unicode_utf8_acceptRanges) "strconv.ErrRange" Rows.laid_strconv_ErrRange) "strconv.ErrSyntax" Rows.laid_strconv_ErrSyntax) "unicode/utf8.first" Rows.laid_unicode_utf8_first
theorem laid_met (os : Os) : laidMet Tryz.prog Rows.readerAllUptoRow.laid ((laidWorld os).forCall (fun _ _ => 0) ⟨#[], #[(.slice none 0 0)], []⟩).memory :=
 laidMet_of_run' 8 (by kernel_rfl) (by kernel_rfl)
theorem reads (os : Os) {H : Type} (enc : TypeId × Value → H) : ∃ places, DataW.whole enc Tryz.prog ((laidWorld os).forCall (fun _ _ => 0) ⟨#[], #[(.slice none 0 0)], []⟩).memory Tryz.f8.params.toList Rows.readerAllSpec.vars false (#[(.slice none 0 0)] : Array Value).toList 8 = some ([.nil], [], places) :=
 ⟨[], by kernel_rfl⟩
theorem spec_fn (H : Type) (ds : List (DataW H)) (h : ds.length = Tryz.f8.params.toList.length) : Rows.readerAllSpec.fn H ds = { results := [.lit (.bool true)], args := ds } := by
 rw [Tryz.params8] at h
 rcases ds with _ | ⟨d0, _ | ⟨e, ds⟩⟩
 all_goals first | (simp at h; done) | rfl
theorem contract (H : Type) (enc : TypeId × Value → H) (W : World) (base : Nat) (args : Array Value) (ds gs : List (DataW H)) (before : List MemPlace)
  (hval : ∀ (j : Nat) t v, Tryz.f8.params[j]? = some t → args[j]? = some v → Value.okWide Tryz.prog W .any base t v)
  (hW : DataW.Whole enc Tryz.prog Tryz.f8.params.toList Rows.readerAllSpec.vars false W args.toList ds gs before) (hb : Rows.uptoSmall H (ds ++ gs) = true) (hE : ErrW W) :
  Calls Tryz.prog 8 args W fun e W' => ∃ v, e = .returned v ∧ Rows.readerAllSpec.post enc Tryz.prog Tryz.f8 false true false false W args v W' :=
 contract_of (es := [(.slice .form)]) (n := 12) (tb := 4) rfl spec_fn (by kernel_rfl) (by kernel_rfl) (by kernel_rfl) (by kernel_rfl) (by kernel_rfl) (by kernel_rfl) (fun x hb _ => all_call (l := x.1) (Nat.le_trans (bigL_A (l := x.1) hb) (by omega))) H enc W base args ds gs before hval hW hb hE
theorem lifted (os : Os) (started : os.Started) (H : Type) (enc : TypeId × Value → H) (F : Stop.Interp) :
  ReturnsInHanded {} Tryz.checked os 8 .any ((Rows.OpenSpec.upto Rows.readerAllSpec).preRow enc Tryz.prog Tryz.f8 Rows.readerAllUptoRow.domain false Rows.readerAllUptoRow.laid) (((Rows.OpenSpec.upto Rows.readerAllSpec).at F).post enc Tryz.prog Tryz.f8 false true false false) := by
 obtain ⟨places, hx⟩ := reads os enc
 refine returnsInHanded_of_row (C := Tryz.checked) (s := Rows.OpenSpec.upto Rows.readerAllSpec) own started (by kernel_rfl) Tryz.func8
  (witness_row_at (enc := enc) (C := Tryz.checked) false (laidWorld os) #[(.slice none 0 0)] rfl (by kernel_rfl) (by kernel_rfl) (by kernel_rfl)
   (OpenSpec.preRow_of_cond 8 hx (by kernel_rfl) (fun k hk => by cases hk; kernel_rfl) (by kernel_rfl) (laid_met os))) ?_
 intro W base args ds gs before hval hW g1 g2 g3 hL g4 g5
 exact contract H enc W base args ds gs before hval hW (g2 _ rfl) (errW_of hL (show ("strconv.ErrRange", Rows.laid_strconv_ErrRange) ∈ Rows.readerAllUptoRow.laid from by simp [Rows.readerAllUptoRow]) (fun q hq => by rcases List.mem_singleton.1 hq with rfl; exact (show ("internal/strconv.uint64pow10", Rows.laid_internal_strconv_uint64pow10) ∈ Rows.readerAllUptoRow.laid from by simp [Rows.readerAllUptoRow])))
theorem band {a b : Bool} (h : a = true) (h' : b = true) : (a && b) = true := by rw [h, h']; rfl
theorem fact1 : (Rows.readerAllUptoRow.inPlace == Tryz.pinned.checked.prog.inPlace 8) = true := by kernel_rfl
theorem fact2 : (Rows.readerAllUptoRow.unfollowed == Tryz.pinned.checked.prog.unfollowed 8) = true := by kernel_rfl
theorem fact3 : (Rows.readerAllUptoRow.recurses == Tryz.pinned.checked.prog.recurses 8) = true := by kernel_rfl
theorem fact4 : (Rows.readerAllUptoRow.named == Tryz.pinned.checked.prog.varsNamed 8) = true := by kernel_rfl
theorem fact5 : Tryz.pinned.checked.prog.mayEnter = true := by kernel_rfl
theorem fact6 : Tryz.pinned.checked.prog.stopsHeard = true := by kernel_rfl
theorem closed : joinedFacts Tryz.pinned.checked.prog 8 Tryz.f8 (Rows.OpenSpec.upto Rows.readerAllSpec).bare Rows.readerAllUptoRow = true := by
 unfold joinedFacts
 repeat' with_reducible refine band ?_ ?_
 all_goals first | with_reducible exact fact1 | with_reducible exact fact2 | with_reducible exact fact3 | with_reducible exact fact4 | with_reducible exact fact5 | with_reducible exact fact6 | kernel_rfl
theorem said : Rows.ReaderAllUptoSaid :=
 OpenClaim.holds_of_cond 8 Tryz.f8 rfl rfl rfl rfl rfl rfl rfl ⟨rfl, rfl, rfl, rfl, rfl⟩ rfl rfl rfl rfl rfl (by as_aux_lemma => kernel_rfl) Tryz.func8 closed
  (of_decide_eq_true (by kernel_rfl)) (by unfold Func.isWrapper; first | (rw [if_pos (by decide +kernel)]; kernel_rfl) | (rw [if_neg (by decide +kernel)]; exact ⟨rfl, rfl⟩))
  (fun os started H enc _ F => by rw [OpenClaim.pre_eq_preRow]; exact lifted os started H enc F)
theorem plain (f : FuncId) (fn : Func) (hf : Tryz.pinned.checked.prog.funcNamed "plinth/plinthlaw01.ReaderAll" = some f) (hfn : Tryz.pinned.checked.prog.funcs[f]? = some fn) :
  true = Tryz.pinned.checked.prog.looks [] ∧ ∀ (j : Nat) t, fn.params[j]? = some t → Tryz.pinned.checked.prog.wantsStandIn t = false := by
 obtain rfl : f = 8 := Option.some.inj ((show Tryz.prog.funcNamed "plinth/plinthlaw01.ReaderAll" = some 8 by kernel_rfl).symm.trans hf) |>.symm
 obtain rfl : fn = Tryz.f8 := (Option.some.inj (Tryz.func8.symm.trans hfn)).symm
 refine ⟨by kernel_rfl, fun j t ht => ?_⟩
 rw [Tryz.params8] at ht
 have hm := Array.mem_of_getElem? ht
 simp only [List.mem_toArray, List.mem_cons, List.mem_nil_iff, or_false] at hm
 have w0 : Tryz.prog.wantsStandIn 24 = false := by kernel_rfl
 rw [hm]; exact w0
theorem proved : Rows.ReaderAllUptoCardSaid :=
 Claim7.holds_tied_plain_at .later _ _ _ _ _ said (fun _ h => by cases h) (by kernel_rfl) (fun _ h => by cases h) readerAllUpto_row_tie rfl ⟨rfl, rfl⟩ (by kernel_rfl) rfl plain (by kernel_rfl)
#print axioms proved
end Go.Proofs.YtdagildojaagiaaGreatDoor.readerAll
