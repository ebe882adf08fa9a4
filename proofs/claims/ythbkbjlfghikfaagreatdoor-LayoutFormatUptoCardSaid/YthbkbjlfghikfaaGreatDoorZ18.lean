/-
  LAYOUT: the program's scan of a text.
-/
import Derived.Test.YthbkbjlfghikfaaGreatDoorZ17
import Derived.Test.YthbkbjlfghikfaaGreatDoorZ16
set_option linter.unusedVariables false
set_option linter.unusedSimpArgs false
set_option maxRecDepth 100000
namespace Go.Ab
open Go Go.RowKit Go.Proofs
def wideB (t : List UInt8) : Bool := t.any fun c => decide (c = 10)
def outS (w : Nat) : Bool → Bool → List (List UInt8 × Fm) → List UInt8
 | _, _, [] => []
 | pf, lw, (b, f) :: r =>
  if b = [] then (if pf = true ∧ lw = true ∧ wideB (layF w f 0 0) = true then [10] else []) ++ (layF w f 0 0 ++ (10 :: outS w true (wideB (layF w f 0 0)) r))
  else (if pf = true then [10] else []) ++ (b ++ (10 :: outS w false lw r))
theorem trimRi_take (p : UInt8 → Bool) (s : List UInt8) : ∀ i, i ≤ s.length → ∃ j, j ≤ i ∧ trimRi p s i = s.take j ∧ (j = 0 ∨ p (s.getD (j - 1) 0) = false)
 | 0, _ => ⟨0, Nat.le_refl _, by simp [trimRi], .inl rfl⟩
 | i + 1, h => by
  rw [trimRi]
  cases hp : p (s.getD i 0) with
  | true =>
   rw [if_pos rfl]
   obtain ⟨j, a, b, c⟩ := trimRi_take p s i (by omega)
   exact ⟨j, by omega, b, c⟩
  | false =>
   rw [if_neg (by decide)]
   exact ⟨i + 1, Nat.le_refl _, rfl, .inr (by simpa using hp)⟩
theorem trimRi_stop (p : UInt8 → Bool) (s : List UInt8) {j : Nat} (h : j = 0 ∨ p (s.getD (j - 1) 0) = false) : trimRi p s j = s.take j := by
 cases j with
 | zero => simp [trimRi]
 | succ j =>
  rw [trimRi]
  have := h.resolve_left (by omega)
  rw [Nat.add_sub_cancel] at this
  rw [this, if_neg (by decide)]
theorem getD_take' {s : List UInt8} {j i : Nat} (h : i < j) : (s.take j).getD i 0 = s.getD i 0 := by
 simp [List.getD_eq_getElem?_getD, List.getElem?_take, h]
theorem trimR_idem (s : List UInt8) : trimR (trimR s) = trimR s := by
 unfold trimR
 obtain ⟨j, a, b, c⟩ := trimRi_take wsB s s.length (Nat.le_refl _)
 rw [b]
 have hl : (s.take j).length = j := by rw [List.length_take]; omega
 rw [hl, trimRi_stop]
 ·rw [List.take_of_length_le (by omega)]
 ·rcases c with c | c
  ·exact .inl c
  ·by_cases hj : j = 0
   ·exact .inl hj
   ·right; rw [getD_take' (by omega)]; exact c
theorem comS_ok (r : List UInt8) : ∃ b, comS (59 :: r) = 59 :: b ∧ (∀ c ∈ comS (59 :: r), c ≠ 10) ∧ trimR (comS (59 :: r)) = comS (59 :: r) := by
 have ht : (59 :: r).takeWhile n10 = 59 :: r.takeWhile n10 := List.takeWhile_cons_of_pos (by decide)
 have hall : ∀ c ∈ (59 :: r).takeWhile n10, c ≠ 10 := fun c hc => by
  have := takeWhile_all hc
  simpa [n10] using this
 unfold comS
 obtain ⟨j, a, b, c⟩ := trimRi_take wsB ((59 :: r).takeWhile n10) ((59 :: r).takeWhile n10).length (Nat.le_refl _)
 have e : trimR ((59 :: r).takeWhile n10) = ((59 :: r).takeWhile n10).take j := b
 have hj : j ≠ 0 := by
  intro hj
  have key : ∀ i, i ≤ ((59 :: r).takeWhile n10).length → 1 ≤ i → trimRi wsB ((59 :: r).takeWhile n10) i ≠ [] := by
   intro i
   induction i with
   | zero => intro _ h; omega
   | succ i ih =>
    intro h1 _
    rw [trimRi]
    by_cases hi : i = 0
    ·subst hi
     have : wsB (((59 :: r).takeWhile n10).getD 0 0) = false := by rw [ht]; rfl
     rw [this, if_neg (by decide), ht]; simp
    ·split
     ·exact ih (by omega) (by omega)
     ·rw [ht]; simp
  have h0 := key ((59 :: r).takeWhile n10).length (Nat.le_refl _) (by rw [ht]; simp)
  rw [b, hj] at h0
  exact h0 (by simp)
 refine ⟨(r.takeWhile n10).take (j - 1), ?_, fun c hc => ?_, trimR_idem _⟩
 ·rw [e, ht]
  cases j with
  | zero => exact absurd rfl hj
  | succ j => rfl
 ·rw [e] at hc
  exact hall c (List.mem_of_mem_take hc)
end Go.Ab

set_option maxRecDepth 100000
namespace Go.Ab
open Go Go.RowKit Go.Proofs
theorem up_inv {L R A : Type} {N : Prop} {b : L → Option (Step L R)} {l0 : L} {F : R → Option A} {v : A} (I : L → Prop) (μ : L → Nat)
  (h : ∀ l, I l → (∃ l', b l = some (.next l') ∧ I l' ∧ μ l' < μ l) ∨ (∃ r, b l = some (.done r) ∧ Up N (F r) v) ∨ (b l = none ∧ N)) (h0 : I l0) : Up N (Option.bind (loopM b l0) F) v := by
 have key : ∀ (n : Nat) (l : L), μ l ≤ n → I l → Up N (Option.bind (loopM b l) F) v := by
  intro n
  induction n with
  | zero =>
   intro l hl hi
   rcases h l hi with ⟨l', h1, h2, h3⟩ | ⟨r, h1, h2⟩ | ⟨h1, h2⟩
   ·omega
   ·rw [loopM_done h1]; exact h2
   ·rw [loopM_none h1]; exact .inr ⟨rfl, h2⟩
  | succ n ih =>
   intro l hl hi
   rcases h l hi with ⟨l', h1, h2, h3⟩ | ⟨r, h1, h2⟩ | ⟨h1, h2⟩
   ·rw [loopM_next h1]; exact ih l' (by omega) h2
   ·rw [loopM_done h1]; exact h2
   ·rw [loopM_none h1]; exact .inr ⟨rfl, h2⟩
 exact key _ l0 (Nat.le_refl _) h0
theorem wrV_of {f : Fm} (h : validF f = true) : wrV f = wr f := if_pos h
theorem valid_kid {f g : Fm} (hv : validF f = true) (hg : g ∈ f.l) : validF g = true := by
 rw [validF_iff] at hv ⊢
 simp only [Bool.and_eq_true, decide_eq_true_eq] at hv ⊢
 obtain ⟨h1, h2, h3⟩ := hv
 have hf := h1
 rw [fieldsF_eq] at hf
 simp only [Bool.and_eq_true] at hf
 have hk : f.k = 3 := by
  by_cases c : f.k = 3
  ·exact c
  ·have := hf.1
   unfold leafS at this
   have hl : f.l = [] := by
    by_cases c0 : f.k = 0
    ·rw [if_pos c0] at this; simp only [Bool.and_eq_true, decide_eq_true_eq] at this; exact this.2.1
    ·rw [if_neg c0] at this
     by_cases c1 : f.k = 1
     ·rw [if_pos c1] at this; simp only [Bool.and_eq_true, decide_eq_true_eq] at this; exact this.2.2
     ·rw [if_neg c1] at this
      by_cases c2 : f.k = 2
      ·rw [if_pos c2] at this; simp only [Bool.and_eq_true, decide_eq_true_eq] at this; exact this.2.2.2
      ·rw [if_neg c2, if_neg c] at this; cases this
   rw [hl] at hg; cases hg
 have hs : f.size = 1 + Fm.sizeL f.l := by rw [Fm.size_eq, if_pos hk]
 have hd : f.depth = 1 + Fm.depthL f.l := by rw [Fm.depth_eq, if_pos hk]
 obtain ⟨i, hi, rfl⟩ := List.getElem_of_mem hg
 have a1 := sizeL_take f.l hi
 have a2 := sizeL_take_le f.l (i + 1)
 have b1 := depthL_take f.l hi
 have b2 := depthL_take_le f.l (i + 1)
 exact ⟨fieldsL_mem hf.2 _ hg, by omega, by omega⟩
theorem depth_kid {f g : Fm} (hk : f.k = 3) (hg : g ∈ f.l) : g.depth + 1 ≤ f.depth := by
 have hd : f.depth = 1 + Fm.depthL f.l := by rw [Fm.depth_eq, if_pos hk]
 obtain ⟨i, hi, rfl⟩ := List.getElem_of_mem hg
 have b1 := depthL_take f.l hi
 have b2 := depthL_take_le f.l (i + 1)
 omega
theorem valid_depth {f : Fm} (hv : validF f = true) : f.depth ≤ 100 := by
 rw [validF_iff] at hv
 simp only [Bool.and_eq_true, decide_eq_true_eq] at hv
 omega
theorem front_len {w A : Nat} (hA : 4101 ≤ A) : ∀ l : List Fm, (∀ f ∈ l, fieldsF f = true) → (frontB l).length ≤ A * Fm.sizeL (l.take (manyF l))
 | [], _ => by simp [frontB]
 | [h], hf => by
  by_cases hk : h.k = 1
  ·have e2 : frontB [h] = h.t := by simp [frontB, hk]
   have := wr_len h (hf h (by simp))
   rw [word_eta hk (hf h (by simp))] at this
   have e3 : [h].take (manyF [h]) = [h] := by simp [manyF, hk]
   rw [e2, e3]
   simp only [Fm.sizeL]
   have : 4101 * h.size ≤ A * h.size := Nat.mul_le_mul_right _ hA
   simp only [Nat.add_zero]; omega
  ·have e2 : frontB [h] = [] := by simp [frontB, hk]
   rw [e2]; simp
 | h :: g :: r, hf => by
  by_cases hk : h.k = 1
  ·have h1 := wr_len h (hf h (by simp))
   rw [word_eta hk (hf h (by simp))] at h1
   have m1 : 4101 * h.size ≤ A * h.size := Nat.mul_le_mul_right _ hA
   by_cases hg : g.k = 3
   ·have e2 : frontB (h :: g :: r) = h.t := by simp [frontB, hk, hg]
    have e3 : (h :: g :: r).take (manyF (h :: g :: r)) = [h] := by simp [manyF, hk, hg]
    rw [e2, e3]
    simp only [Fm.sizeL, Nat.add_zero]; omega
   ·have e2 : frontB (h :: g :: r) = h.t ++ (32 :: wr g) := by simp [frontB, hk, hg]
    have e3 : (h :: g :: r).take (manyF (h :: g :: r)) = [h, g] := by simp [manyF, hk, hg]
    have h2 := wr_len g (hf g (by simp))
    have m2 : 4101 * g.size ≤ A * g.size := Nat.mul_le_mul_right _ hA
    rw [e2, e3]
    simp only [Fm.sizeL, Nat.add_zero, List.length_append, List.length_cons, Nat.mul_add]; omega
  ·have e2 : frontB (h :: g :: r) = [] := by simp [frontB, hk]
   rw [e2]; simp
theorem sizeL_drop : ∀ (l : List Fm) (j : Nat), Fm.sizeL (l.take j) + Fm.sizeL (l.drop j) = Fm.sizeL l
 | [], j => by simp [Fm.sizeL]
 | f :: l, 0 => by simp [Fm.sizeL]
 | f :: l, j + 1 => by
  have := sizeL_drop l j
  simp only [List.take_succ_cons, List.drop_succ_cons, Fm.sizeL]; omega
theorem lay_len (w : Nat) : ∀ f : Fm, fieldsF f = true → ∀ c cl D, c + 2 * f.depth ≤ D → (layF w f c cl).length + 1 + c ≤ (4103 + D) * f.size := Fm.ind fun k n t l ih hf c cl D hD => by
 have hsz : 1 ≤ (Fm.mk k n t l).size := by rw [Fm.size_eq]; omega
 rw [layF]
 split
 ·have := wr_len _ hf
  have e : (4103 + D) * (Fm.mk k n t l).size = 4101 * (Fm.mk k n t l).size + (2 + D) * (Fm.mk k n t l).size := by rw [← Nat.add_mul]; congr 1; omega
  have : (2 + D) * 1 ≤ (2 + D) * (Fm.mk k n t l).size := Nat.mul_le_mul_left _ hsz
  omega
 ·rename_i hc
  simp only [not_or, Decidable.not_not] at hc
  obtain ⟨_, hk, hl⟩ := hc
  have hf' := hf
  rw [fieldsF_eq] at hf'
  simp only [Bool.and_eq_true] at hf'
  obtain ⟨_, h2⟩ := hf'
  simp only [Fm.l] at h2
  have hs : (Fm.mk k n t l).size = 1 + Fm.sizeL l := by rw [Fm.size_eq, if_pos (show (Fm.mk k n t l).k = 3 from hk)]; rfl
  have hdk : ∀ g ∈ l, g.depth + 1 ≤ (Fm.mk k n t l).depth := fun g hg => depth_kid (f := Fm.mk k n t l) hk hg
  rw [layL_skip]
  have hind : (if manyF l = 0 then c + 1 else c + 2) ≤ c + 2 := by split <;> omega
  generalize (if manyF l = 0 then c + 1 else c + 2) = ind at hind
  generalize (!decide (manyF l = 0)) = nl
  have key : ∀ (r : List Fm) (nl : Bool), (∀ g ∈ r, g ∈ l) → (layL w r 0 nl ind cl).length ≤ (4103 + D) * Fm.sizeL r := by
   intro r
   induction r with
   | nil => intro nl _; simp [layL]
   | cons g r ihr =>
    intro nl hr
    have hg := hr g (by simp)
    have h1 := ih g hg (fieldsL_mem h2 g hg) ind (if r = [] then cl + 1 else 0) D (by have := hdk g hg; omega)
    have h2' := ihr true fun x hx => hr x (List.mem_cons_of_mem _ hx)
    rw [layL]
    simp only [List.length_append, Fm.sizeL, Nat.mul_add]
    have : (if nl = true then 10 :: blanksS ind else []).length ≤ 1 + ind := by split <;> simp [blanksS] <;> omega
    omega
  have k1 := key (l.drop (manyF l)) nl fun g hg => List.mem_of_mem_drop hg
  have k2 := front_len (w := w) (A := 4103 + D) (by omega) l (fun f hm => fieldsL_mem h2 f hm)
  have k3 := sizeL_drop l (manyF l)
  rw [hs, Nat.mul_add, Nat.mul_one, ← k3, Nat.mul_add]
  simp only [List.length_cons, List.length_append, List.length_nil]
  omega
def segK (w : Nat) (l : List Fm) (ind cl i : Nat) : List UInt8 := (if i = 0 then [] else 10 :: blanksS ind) ++ layF w (l.getD i (Fm.mk 0 0 [] [])) ind (if i + 1 = l.length then cl + 1 else 0)
def sufK (w : Nat) (l : List Fm) (ind cl : Nat) : Nat → Nat → List UInt8
 | _, 0 => []
 | i, m + 1 => segK w l ind cl i ++ sufK w l ind cl (i + 1) m
theorem sufK_of (w : Nat) (l : List Fm) (ind cl : Nat) : ∀ (m i : Nat), i + m = l.length → sufK w l ind cl i m = layL w (l.drop i) 0 (!decide (i = 0)) ind cl
 | 0, i, h => by rw [List.drop_of_length_le (by omega), layL, sufK]
 | m + 1, i, h => by
  have hi : i < l.length := by omega
  rw [List.drop_eq_getElem_cons hi, layL, sufK, sufK_of w l ind cl m (i + 1) (by omega)]
  have e1 : (!decide (i + 1 = 0)) = true := by simp
  have e2 : l.getD i (Fm.mk 0 0 [] []) = l[i] := getD_in hi _
  have e3 : (l.drop (i + 1) = []) ↔ i + 1 = l.length := by rw [List.drop_eq_nil_iff]; omega
  unfold segK
  rw [e1, e2, List.append_assoc]
  congr 1
  ·by_cases c : i = 0
   ·subst c; rfl
   ·rw [if_neg c, if_pos (by simp [c])]
  ·congr 2
   by_cases c : i + 1 = l.length
   ·rw [if_pos c, if_pos (e3.2 c)]
   ·rw [if_neg c, if_neg (fun h => c (e3.1 h))]
theorem many_le : ∀ l : List Fm, manyF l ≤ l.length
 | [] => by simp [manyF]
 | [h] => by by_cases hk : h.k = 1 <;> simp [manyF, hk]
 | h :: g :: r => by
  by_cases hk : h.k = 1
  ·by_cases hg : g.k = 3
   ·simp [manyF, hk, hg]
   ·simp [manyF, hk, hg]
  ·simp [manyF, hk]
theorem lay_broken {w : Nat} {f : Fm} {c cl : Nat} (h : ¬ (c + (wr f).length + cl ≤ w ∨ f.k ≠ 3 ∨ f.l = [])) : layF w f c cl = 40 :: frontB f.l ++ (sufK w f.l (if manyF f.l = 0 then c + 1 else c + 2) cl (manyF f.l) (f.l.length - manyF f.l) ++ [41]) := by
 have hm := many_le f.l
 rw [layF_eq, if_neg h, layL_skip, sufK_of _ _ _ _ _ _ (by omega)]
 rfl
theorem headW_val (f : Fm) : G_head f = some (hdW f) := by rw [head_val]; rfl
theorem front_val {f : Fm} (hv : validF f = true) (hb : f.big ≤ 4611686018427387000) (hk : f.k = 3) (hl : f.l ≠ []) : G_front f = some (40 :: frontB f.l, (manyF f.l : Int), ()) := by
 have hkids := fun g hg => valid_kid (f := f) (g := g) hv hg
 have hbk := fun g hg => big_mem (l := f.l) (f := g) hg
 have hbl := big_kids f
 unfold G_front
 rw [Fm.eta_eq, headW_val]
 simp only [Option.bind_some]
 cases hfl : f.l with
 | nil => exact absurd hfl hl
 | cons h r =>
  rw [hfl] at hkids hbk hbl
  have hd : hdW f = if h.k = 1 then h.t else [] := by unfold hdW; rw [if_pos hk, hfl]
  by_cases hk1 : h.k = 1
  ·have hfh := (validF_of (hkids h (by simp))).1
   have htne : h.t ≠ [] := by
    have hf' := hfh
    rw [fieldsF_eq] at hf'
    simp only [Bool.and_eq_true] at hf'
    have := hf'.1
    unfold leafS at this
    rw [if_neg (by rw [hk1]; decide), if_pos hk1] at this
    simp only [wordS, Bool.and_eq_true, decide_eq_true_eq] at this
    exact this.1.1.1
   have hlen := wr_len h hfh
   rw [word_eta hk1 hfh] at hlen
   have hsz := (validF_of (hkids h (by simp))).2
   rw [hd, if_pos hk1, decide_eq_false htne, cond_false]
   cases r with
   | nil =>
    have e1 : manyF [h] = 1 := by simp [manyF, hk1]
    have e2 : frontB [h] = h.t := by simp [frontB, hk1]
    have x1 : (ixOK 1 [h].length || !decide ((([h] : List Fm).length : Int) > 1)) = true := by simp
    have x2 : decide ((([h] : List Fm).length : Int) > 1) = false := by simp
    rw [x1, x2, e1, e2]
    simp only [cond_true, cond_false, List.length_cons, List.length_nil]
    rw [decide_eq_true (by omega)]
    rfl
   | cons g r' =>
    have hfg := (validF_of (hkids g (by simp))).1
    have x0 : ixOK 1 (h :: g :: r').length = true := ixOK_iff.2 (by simp only [List.length_cons]; omega)
    have x2 : decide (((h :: g :: r').length : Int) > 1) = true := by apply decide_eq_true; simp only [List.length_cons]; omega
    have g1 : (h :: g :: r').getD (1 : Int).toNat (Fm.mk 0 0 [] []) = g := rfl
    rw [x0, x2, g1]
    simp only [Bool.true_or, cond_true]
    by_cases hg3 : g.k = 3
    ·have e1 : manyF (h :: g :: r') = 1 := by simp [manyF, hk1, hg3]
     have e2 : frontB (h :: g :: r') = h.t := by simp [frontB, hk1, hg3]
     rw [decide_eq_true hg3, e1, e2]
     simp only [Bool.not_true, cond_false, List.length_cons, List.length_nil]
     rw [decide_eq_true (by omega)]
     rfl
    ·have e1 : manyF (h :: g :: r') = 2 := by simp [manyF, hk1, hg3]
     have e2 : frontB (h :: g :: r') = h.t ++ (32 :: wr g) := by simp [frontB, hk1, hg3]
     have hlg := wr_len g hfg
     have hszg := (validF_of (hkids g (by simp))).2
     have hbg := hbk g (by simp)
     rw [decide_eq_false hg3, e1, e2]
     simp only [Bool.not_false, cond_true, List.length_cons, List.length_nil, List.length_append, Fm.eta_eq, rWrite_val (show g.big ≤ 4611686018427387000 by omega), wrV_of (hkids g (by simp)), Option.bind_some]
     rw [decide_eq_true (by omega), decide_eq_true (by omega), decide_eq_true (by omega)]
     simp
  ·have e1 : manyF (h :: r) = 0 := by simp [manyF, hk1]
   have e2 : frontB (h :: r) = [] := by simp [frontB, hk1]
   rw [hd, if_neg hk1, e1, e2]
   rfl
theorem prtByte_val {c : Int} {b : Bool} {w : Int} {l : List Int} (h : l.length + 1 ≤ 140737488355328) : G_prtByte c (b, (), w, ()) l = some (true, ((true, (), w, ()), l ++ [c], ())) := by
 unfold G_prtByte
 simp only [Option.bind_some, List.length_cons, List.length_nil, Nat.mul_one, Nat.zero_add]
 rw [decide_eq_true h]
 rfl
theorem prtStr_val {x : List UInt8} {b : Bool} {w : Int} {l : List Int} (h : l.length + x.length ≤ 140737488355328) : G_prtStr x (b, (), w, ()) l = some (((x.length : Int), true, ()), ((true, (), w, ()), l ++ intsOf x, ())) := by
 unfold G_prtStr
 simp only [Option.bind_some, List.length_map, Nat.mul_one]
 rw [decide_eq_true h]
 rfl
theorem rep_blanks : ∀ n : Nat, Lib.repeatL [32] n = blanksS n
 | 0 => rfl
 | n + 1 => by rw [Lib.repeatL, rep_blanks n]; rfl
theorem prtLine_val {n : Nat} {b : Bool} {w : Int} {l : List Int} (hn : n ≤ 1000000) (h : l.length + 1 + n ≤ 140737488355328) : G_prtLine (n : Int) (b, (), w, ()) l = some ((), ((true, (), w, ()), l ++ intsOf (10 :: blanksS n), ())) := by
 unfold G_prtLine repF
 rw [prtByte_val (by omega)]
 simp only [Option.bind_some]
 rw [if_pos ⟨rfl, by omega, by omega⟩, Int.toNat_natCast, rep_blanks]
 simp only [Option.bind_some]
 rw [prtStr_val (by simp only [List.length_append, List.length_cons, List.length_nil, blanksS, List.length_replicate]; omega)]
 simp only [Option.bind_some]
 rw [show (10 :: blanksS n : List UInt8) = [10] ++ blanksS n from rfl, ← ints_append, ← List.append_assoc]
 rfl
theorem lleaf_val (f : Fm) : G_lleaf f = some (decide (f.k ≠ 3 ∨ f.l = [])) := by
 unfold G_lleaf
 rw [len0]
 by_cases h : f.k = 3
 ·by_cases h2 : f.l = [] <;> simp [h, h2]
 ·simp [h]
theorem prtForm_up (w : Nat) : ∀ (k : Nat) (f : Fm) (c cl : Nat) (b : Bool) (l : List Int) (D : Nat), validF f = true → f.big ≤ 4611686018427387000 → c + 2 * f.depth ≤ D → D ≤ 1000 → cl + f.depth ≤ 1000 → l.length + (layF w f c cl).length ≤ 100000000000 →
  Up (k < f.big) (G_prtForm k f (c : Int) (cl : Int) (b, (), (w : Int), ()) l) ((), ((true, (), (w : Int), ()), l ++ intsOf (layF w f c cl), ()))
 | 0, f, c, cl, b, l, D, hv, hb, hD, hD2, hcl, hl => .inr ⟨by unfold G_prtForm; rfl, by have := big_pos f; omega⟩
 | k + 1, f, c, cl, b, l, D, hv, hb, hD, hD2, hcl, hl => by
  have hff := (validF_of hv).1
  have hfs := (validF_of hv).2
  have hwl := wr_len f hff
  have hll := lay_len w f hff c cl D hD
  unfold G_prtForm
  rw [Fm.eta_eq, rWrite_val hb, wrV_of hv]
  simp only [Option.bind_some, lleaf_val]
  rw [show IntKind.wrap .i64 ((c : Int) + ((wr f).length : Int)) = ((c + (wr f).length : Nat) : Int) by rw [w64 (by omega) (by omega)]; omega]
  rw [show IntKind.wrap .i64 (((c + (wr f).length : Nat) : Int) + (cl : Int)) = ((c + (wr f).length + cl : Nat) : Int) by rw [w64 (by omega) (by omega)]; omega]
  by_cases hc : c + (wr f).length + cl ≤ w ∨ f.k ≠ 3 ∨ f.l = []
  ·have e0 : cond (decide (f.k ≠ 3 ∨ f.l = [])) true (decide (((c + (wr f).length + cl : Nat) : Int) ≤ (w : Int))) = true := by
    rcases hc with h | h
    ·rw [decide_eq_true (show ((c + (wr f).length + cl : Nat) : Int) ≤ (w : Int) by omega)]; cases decide (f.k ≠ 3 ∨ f.l = []) <;> rfl
    ·rw [decide_eq_true h]; rfl
   have e1 : layF w f c cl = wr f := by rw [layF_eq, if_pos hc]
   rw [e0, cond_true, e1, prtStr_val (by rw [e1] at hll; omega)]
   exact .of rfl
  ·have hbr := lay_broken hc
   simp only [not_or, Decidable.not_not] at hc
   obtain ⟨hc1, hc2, hc3⟩ := hc
   have e0 : cond (decide (f.k ≠ 3 ∨ f.l = [])) true (decide (((c + (wr f).length + cl : Nat) : Int) ≤ (w : Int))) = false := by
    rw [decide_eq_false (show ¬ ((c + (wr f).length + cl : Nat) : Int) ≤ (w : Int) by omega), decide_eq_false (show ¬ (f.k ≠ 3 ∨ f.l = []) from fun h => h.elim (fun h => h hc2) hc3)]
    rfl
   rw [e0, cond_false, front_val hv hb hc2 hc3]
   simp only [Option.bind_some]
   have hm := many_le f.l
   have hbk := big_kids f
   have hlb := length_le_big f.l
   obtain ⟨ind, hind⟩ : ∃ ind, ind = (if manyF f.l = 0 then c + 1 else c + 2) := ⟨_, rfl⟩
   have hind2 : ind ≤ c + 2 := by rw [hind]; split <;> omega
   rw [← hind] at hbr
   have htot : (40 :: frontB f.l).length + (sufK w f.l ind cl (manyF f.l) (f.l.length - manyF f.l)).length + 1 = (layF w f c cl).length := by
    rw [hbr]; simp only [List.length_append, List.length_cons, List.length_nil]; omega
   rw [prtStr_val (by omega)]
   simp only [Option.bind_some]
   have w1 : IntKind.wrap .i64 ((c : Int) + 1) = ((c + 1 : Nat) : Int) := wrapN (by omega)
   have w2 : IntKind.wrap .i64 ((c : Int) + 2) = ((c + 2 : Nat) : Int) := by rw [w64 (by omega) (by omega)]; omega
   refine Up.bind (v := (((), (cl : Int), (f.k, f.n, f.t, f.l, ()), (manyF f.l : Int), (ind : Int), ()), ((true, (), (w : Int), ()), l ++ intsOf (40 :: frontB f.l), ()))) (.of ?_) ?_
   ·rw [w1, w2, hind]
    by_cases c0 : manyF f.l = 0
    ·rw [decide_eq_true (show (manyF f.l : Int) = 0 by omega), if_pos c0, cond_true]
    ·rw [decide_eq_false (show ¬ (manyF f.l : Int) = 0 by omega), if_neg c0, cond_false]
   ·dsimp only
    refine up_inv (fun d => ∃ (i : Nat) (o : List UInt8), d = (((), (cl : Int), (f.k, f.n, f.t, f.l, ()), (ind : Int), (i : Int), ()), ((true, (), (w : Int), ()), l ++ intsOf o, ())) ∧ i ≤ f.l.length ∧ o ++ (sufK w f.l ind cl i (f.l.length - i) ++ [41]) = layF w f c cl) (fun d => f.l.length - d.1.2.2.2.2.1.toNat) ?_
     ⟨manyF f.l, 40 :: frontB f.l, rfl, hm, hbr.symm⟩
    rintro d ⟨i, o, rfl, hi, ho⟩
    have hol : o.length + (sufK w f.l ind cl i (f.l.length - i)).length + 1 = (layF w f c cl).length := by
     rw [← ho]; simp only [List.length_append, List.length_cons, List.length_nil]; omega
    dsimp only
    by_cases hi' : i < f.l.length
    ·have e1 : decide ((i : Int) < (f.l.length : Int)) = true := by simp [hi']
     have e2 : ixOK (i : Int) f.l.length = true := ixOK_iff.2 (by omega)
     have hmem := List.getElem_mem hi'
     have hkv := valid_kid hv hmem
     have hkd := depth_kid hc2 hmem
     have hkb := big_mem hmem
     have hkf := (validF_of hkv).1
     have hkl := lay_len w f.l[i] hkf ind (if i + 1 = f.l.length then cl + 1 else 0) D (by omega)
     have hks : f.l[i].size ≤ f.size := by
      have hs : f.size = 1 + Fm.sizeL f.l := by rw [Fm.size_eq, if_pos hc2]
      have a1 := sizeL_take f.l hi'
      have a2 := sizeL_take_le f.l (i + 1)
      omega
     have esuf : sufK w f.l ind cl i (f.l.length - i) = segK w f.l ind cl i ++ sufK w f.l ind cl (i + 1) (f.l.length - (i + 1)) := by
      rw [show f.l.length - i = (f.l.length - (i + 1)) + 1 by omega]; rfl
     have eseg : segK w f.l ind cl i = (if i = 0 then [] else 10 :: blanksS ind) ++ layF w f.l[i] ind (if i + 1 = f.l.length then cl + 1 else 0) := by unfold segK; rw [getD_in hi']
     have hsegl : (segK w f.l ind cl i).length + (sufK w f.l ind cl (i + 1) (f.l.length - (i + 1))).length = (sufK w f.l ind cl i (f.l.length - i)).length := by rw [esuf, List.length_append]
     have hbl : ((if i = 0 then [] else 10 :: blanksS ind : List UInt8)).length + (layF w f.l[i] ind (if i + 1 = f.l.length then cl + 1 else 0)).length = (segK w f.l ind cl i).length := by rw [eseg, List.length_append]
     rw [e1, cond_true]
     have step1 : ∀ {A : Type} (F : (Unit × Int × (Int × Int × (List UInt8) × (List Fm) × Unit) × Int × Int × Unit) × ((Bool × Unit × Int × Unit) × (List Int) × Unit) → Option A),
       Option.bind (cond (decide ((i : Int) > 0)) (Option.bind (α := (Unit) × ((Bool × Unit × Int × Unit) × (List Int) × Unit)) (G_prtLine (ind : Int) (true, (), (w : Int), ()) (l ++ intsOf o)) fun r16 => (
        some (((), (cl : Int), (f.k, f.n, f.t, f.l, ()), (ind : Int), (i : Int), ()), ((r16.2.1.1, (), r16.2.1.2.2.1, ()), r16.2.2.1, ())))) (some (((), (cl : Int), (f.k, f.n, f.t, f.l, ()), (ind : Int), (i : Int), ()), ((true, (), (w : Int), ()), l ++ intsOf o, ())))) F =
       F (((), (cl : Int), (f.k, f.n, f.t, f.l, ()), (ind : Int), (i : Int), ()), ((true, (), (w : Int), ()), l ++ intsOf (o ++ (if i = 0 then [] else 10 :: blanksS ind)), ())) := by
      intro A F
      by_cases c0 : i = 0
      ·rw [decide_eq_false (show ¬ (i : Int) > 0 by omega), if_pos c0, List.append_nil]; rfl
      ·rw [decide_eq_true (show (i : Int) > 0 by omega), cond_true, if_neg c0, prtLine_val (by omega) (by
        rw [if_neg c0] at hbl
        simp only [List.length_cons, blanksS, List.length_replicate] at hbl
        rw [List.length_append, ints_len]; omega)]
       simp only [Option.bind_some]
       rw [← ints_append, List.append_assoc]
     rw [step1]
     dsimp only
     rw [show IntKind.wrap .i64 ((f.l.length : Int) - 1) = ((f.l.length - 1 : Nat) : Int) by rw [w64 (by omega) (by omega)]; omega]
     have step2 : ∀ {A : Type} (o' : List Int) (F : (Unit × Int × (Int × Int × (List UInt8) × (List Fm) × Unit) × Int × Int × Int × Unit) × ((Bool × Unit × Int × Unit) × (List Int) × Unit) → Option A),
       Option.bind (cond (decide ((i : Int) = ((f.l.length - 1 : Nat) : Int))) (some (((), (cl : Int), (f.k, f.n, f.t, f.l, ()), (ind : Int), (i : Int), IntKind.wrap .i64 ((cl : Int) + 1), ()), ((true, (), (w : Int), ()), o', ()))) (some (((), (cl : Int), (f.k, f.n, f.t, f.l, ()), (ind : Int), (i : Int), 0, ()), ((true, (), (w : Int), ()), o', ())))) F =
       F (((), (cl : Int), (f.k, f.n, f.t, f.l, ()), (ind : Int), (i : Int), (((if i + 1 = f.l.length then cl + 1 else 0 : Nat)) : Int), ()), ((true, (), (w : Int), ()), o', ())) := by
      intro A o' F
      by_cases c0 : i + 1 = f.l.length
      ·rw [decide_eq_true (show (i : Int) = ((f.l.length - 1 : Nat) : Int) by omega), if_pos c0, wrapN (by omega)]; rfl
      ·rw [decide_eq_false (show ¬ (i : Int) = ((f.l.length - 1 : Nat) : Int) by omega), if_neg c0]; rfl
     rw [step2]
     dsimp only
     rw [e2, cond_true, Fm.eta_eq, Int.toNat_natCast, getD_in hi']
     have hprod : (4103 + D) * f.l[i].size ≤ (4103 + D) * f.size := Nat.mul_le_mul_left _ hks
     have hfit : (o ++ (if i = 0 then [] else 10 :: blanksS ind)).length + (layF w f.l[i] ind (if i + 1 = f.l.length then cl + 1 else 0)).length ≤ (layF w f c cl).length := by rw [List.length_append]; omega
     rcases prtForm_up w k f.l[i] ind (if i + 1 = f.l.length then cl + 1 else 0) true (l ++ intsOf (o ++ (if i = 0 then [] else 10 :: blanksS ind))) D hkv (by omega) (by omega) hD2 (by split <;> omega) (by
       rw [List.length_append, ints_len]
       omega) with h | ⟨h, hn⟩
     ·left
      rw [h]
      refine ⟨_, rfl, ⟨i + 1, o ++ segK w f.l ind cl i, ?_, by omega, ?_⟩, ?_⟩
      ·rw [wrapN (show i < 4611686018427387904 by omega), eseg, ← ints_append, ← ints_append, ← ints_append]
       simp only [List.append_assoc]
      ·rw [← ho, esuf]; simp only [List.append_assoc]
      ·rw [wrapN (show i < 4611686018427387904 by omega)]; simp only [Int.toNat_natCast]; omega
     ·right; right
      rw [h]
      exact ⟨rfl, by omega⟩
    ·have hie : i = f.l.length := by omega
     subst hie
     have e1 : decide ((f.l.length : Int) < (f.l.length : Int)) = false := by simp
     right; left
     rw [e1, cond_false]
     refine ⟨_, rfl, .of ?_⟩
     have ez : sufK w f.l ind cl f.l.length (f.l.length - f.l.length) = [] := by rw [Nat.sub_self]; rfl
     rw [ez] at ho hol
     dsimp only
     rw [prtByte_val (by rw [List.length_append, ints_len]; omega), ← ho, List.nil_append, ← ints_append, ← List.append_assoc]
     rfl
theorem prtForm_val {w : Nat} {f : Fm} {b : Bool} {l : List Int} (hv : validF f = true) (hb : f.big ≤ 4611686018427387000) (hl : l.length ≤ 1000000000) : L_prtForm f 0 0 (b, (), (w : Int), ()) l = some ((), ((true, (), (w : Int), ()), l ++ intsOf (layF w f 0 0), ())) := by
 have hd := valid_depth hv
 have hs := (validF_of hv).2
 have h1 : (4103 + 200) * f.size ≤ (4103 + 200) * 20000 := Nat.mul_le_mul_left _ hs
 have h2 := lay_len w f (validF_of hv).1 0 0 200 (by omega)
 exact limF_up (b := f.big) fun k => prtForm_up w k f 0 0 b l 200 hv hb (by omega) (by omega) (by omega) (by omega)
end Go.Ab

set_option maxRecDepth 100000
namespace Go.Ab
open Go Go.RowKit Go.Proofs
theorem rblanks_val {n : Nat} (hn : n ≤ 1000000) : G_rblanks (n : Int) = some (blanksS n) := by
 refine Up.get ?_
 unfold G_rblanks
 refine loop_ix (N := False) (A := List UInt8) (fun i => (((n : Int), blanksS i, (i : Int), ()), ())) (fun i => blanksS n) n (fun i hi => ?_) ?_
 ·have e1 : decide ((i : Int) < (n : Int)) = true := by simp [hi]
  refine .inl ⟨?_, rfl⟩
  simp only [e1, cond_true, List.length_cons, List.length_nil, wrapN (show i < 4611686018427387904 by omega)]
  rw [decide_eq_true (by simp only [blanksS, List.length_replicate]; omega), cond_true]
  have : blanksS i ++ [32] = blanksS (i + 1) := by unfold blanksS; rw [List.replicate_succ']
  rw [this]
 ·exact ⟨_, by simp only [show decide ((n : Int) < (n : Int)) = false by simp, cond_false]; rfl, .of rfl⟩
theorem rlines_up (w : Nat) (hw : w ≤ 1000) : ∀ (k : Nat) (f : Fm) (c cl D : Nat), validF f = true → f.big ≤ 4611686018427387000 → c + 2 * f.depth ≤ D → D ≤ 1000 → cl + f.depth ≤ 1000 →
  Up (k < f.big) (G_rlines k f (c : Int) (w : Int) (cl : Int)) (layF w f c cl)
 | 0, f, c, cl, D, hv, hb, hD, hD2, hcl => .inr ⟨by unfold G_rlines; rfl, by have := big_pos f; omega⟩
 | k + 1, f, c, cl, D, hv, hb, hD, hD2, hcl => by
  have hff := (validF_of hv).1
  have hfs := (validF_of hv).2
  have hwl := wr_len f hff
  have hll := lay_len w f hff c cl D hD
  have hK : (4103 + D) * f.size ≤ 5103 * 20000 := Nat.mul_le_mul (by omega) hfs
  unfold G_rlines
  rw [Fm.eta_eq, refWrite_val hb, wrV_of hv]
  simp only [Option.bind_some]
  rw [show IntKind.wrap .i64 ((c : Int) + ((wr f).length : Int)) = ((c + (wr f).length : Nat) : Int) by rw [w64 (by omega) (by omega)]; omega]
  rw [show IntKind.wrap .i64 (((c + (wr f).length : Nat) : Int) + (cl : Int)) = ((c + (wr f).length + cl : Nat) : Int) by rw [w64 (by omega) (by omega)]; omega, len0]
  by_cases hc : c + (wr f).length + cl ≤ w ∨ f.k ≠ 3 ∨ f.l = []
  ·have e0 : cond (cond (decide (((c + (wr f).length + cl : Nat) : Int) ≤ (w : Int))) true (!decide (f.k = 3))) true (decide (f.l = [])) = true := by
    rcases hc with h | h | h
    ·rw [decide_eq_true (show ((c + (wr f).length + cl : Nat) : Int) ≤ (w : Int) by omega)]; rfl
    ·rw [decide_eq_false h]; cases decide (((c + (wr f).length + cl : Nat) : Int) ≤ (w : Int)) <;> rfl
    ·rw [decide_eq_true h]; cases cond (decide (((c + (wr f).length + cl : Nat) : Int) ≤ (w : Int))) true (!decide (f.k = 3)) <;> rfl
   have e1 : layF w f c cl = wr f := by rw [layF_eq, if_pos hc]
   rw [e0, cond_true, e1]
   exact .of rfl
  ·have hbr := lay_broken hc
   simp only [not_or, Decidable.not_not] at hc
   obtain ⟨hc1, hc2, hc3⟩ := hc
   have e0 : cond (cond (decide (((c + (wr f).length + cl : Nat) : Int) ≤ (w : Int))) true (!decide (f.k = 3))) true (decide (f.l = [])) = false := by
    rw [decide_eq_false (show ¬ ((c + (wr f).length + cl : Nat) : Int) ≤ (w : Int) by omega), decide_eq_true hc2, decide_eq_false hc3]; rfl
   rw [e0, cond_false]
   have hm := many_le f.l
   have hbk := big_kids f
   have hlb := length_le_big f.l
   obtain ⟨ind, hind⟩ : ∃ ind, ind = (if manyF f.l = 0 then c + 1 else c + 2) := ⟨_, rfl⟩
   have hind2 : ind ≤ c + 2 := by rw [hind]; split <;> omega
   rw [← hind] at hbr
   have htot : (40 :: frontB f.l).length + (sufK w f.l ind cl (manyF f.l) (f.l.length - manyF f.l)).length + 1 = (layF w f c cl).length := by
    rw [hbr]; simp only [List.length_append, List.length_cons, List.length_nil]; omega
   have w1 : IntKind.wrap .i64 ((c : Int) + 1) = ((c + 1 : Nat) : Int) := wrapN (by omega)
   have w2 : IntKind.wrap .i64 ((c : Int) + 2) = ((c + 2 : Nat) : Int) := by rw [w64 (by omega) (by omega)]; omega
   refine Up.bind (v := (((w : Int), (cl : Int), (f.k, f.n, f.t, f.l, ()), 40 :: frontB f.l, (manyF f.l : Int), (ind : Int), ()), ())) (.of ?_) ?_
   ·have hkids := fun g hg => valid_kid (f := f) (g := g) hv hg
    have hbkk := fun g hg => big_mem (l := f.l) (f := g) hg
    rw [w1, w2]
    clear hbr htot hll hm
    generalize f.l = l at hc3 hkids hbkk hind hbk hlb
    cases l with
    | nil => exact absurd rfl hc3
    | cons h r =>
     have x0 : ixOK 0 (h :: r).length = true := ixOK_iff.2 (by simp only [List.length_cons]; omega)
     have g0 : (h :: r).getD (0 : Int).toNat (Fm.mk 0 0 [] []) = h := rfl
     rw [x0, g0]
     simp only [cond_true]
     by_cases hk1 : h.k = 1
     ·have hfh := (validF_of (hkids h (by simp))).1
      have hlen := wr_len h hfh
      rw [word_eta hk1 hfh] at hlen
      have hsz := (validF_of (hkids h (by simp))).2
      rw [decide_eq_true hk1, cond_true]
      simp only [List.length_cons, List.length_nil]
      rw [decide_eq_true (by omega), cond_true]
      cases r with
      | nil =>
       have e1 : manyF [h] = 1 := by simp [manyF, hk1]
       have e2 : frontB [h] = h.t := by simp [frontB, hk1]
       rw [e1] at hind
       rw [e1, e2, hind]
       rfl
      | cons g r' =>
       have hfg := (validF_of (hkids g (by simp))).1
       have x1 : ixOK 1 ((r'.length + 1) + 1) = true := ixOK_iff.2 (by omega)
       have x2 : decide ((((r'.length + 1) + 1 : Nat) : Int) > 1) = true := by apply decide_eq_true; omega
       have g1 : (h :: g :: r').getD (1 : Int).toNat (Fm.mk 0 0 [] []) = g := rfl
       simp only [List.length_cons]
       rw [x1, x2, g1]
       simp only [Bool.true_or, cond_true]
       by_cases hg3 : g.k = 3
       ·have e1 : manyF (h :: g :: r') = 1 := by simp [manyF, hk1, hg3]
        have e2 : frontB (h :: g :: r') = h.t := by simp [frontB, hk1, hg3]
        rw [e1] at hind
        rw [decide_eq_true hg3, e1, e2, hind]
        rfl
       ·have e1 : manyF (h :: g :: r') = 2 := by simp [manyF, hk1, hg3]
        have e2 : frontB (h :: g :: r') = h.t ++ (32 :: wr g) := by simp [frontB, hk1, hg3]
        have hlg := wr_len g hfg
        have hszg := (validF_of (hkids g (by simp))).2
        have hbg := hbkk g (by simp)
        rw [e1] at hind
        rw [decide_eq_false hg3, e1, e2, hind]
        simp only [Bool.not_false, cond_true, List.length_cons, List.length_nil, List.length_append, Fm.eta_eq, refWrite_val (show g.big ≤ 4611686018427387000 by omega), wrV_of (hkids g (by simp)), Option.bind_some]
        rw [decide_eq_true (by omega), decide_eq_true (by omega)]
        simp
     ·have e1 : manyF (h :: r) = 0 := by simp [manyF, hk1]
      have e2 : frontB (h :: r) = [] := by simp [frontB, hk1]
      rw [e1] at hind
      rw [decide_eq_false hk1, e1, e2, hind]
      rfl
   ·dsimp only
    refine up_inv (fun d => ∃ (i : Nat) (o : List UInt8), d = (((w : Int), (cl : Int), (f.k, f.n, f.t, f.l, ()), o, (ind : Int), (i : Int), ()), ()) ∧ i ≤ f.l.length ∧ o ++ (sufK w f.l ind cl i (f.l.length - i) ++ [41]) = layF w f c cl) (fun d => f.l.length - d.1.2.2.2.2.2.1.toNat) ?_
     ⟨manyF f.l, 40 :: frontB f.l, rfl, hm, hbr.symm⟩
    rintro d ⟨i, o, rfl, hi, ho⟩
    have hol : o.length + (sufK w f.l ind cl i (f.l.length - i)).length + 1 = (layF w f c cl).length := by
     rw [← ho]; simp only [List.length_append, List.length_cons, List.length_nil]; omega
    dsimp only
    by_cases hi' : i < f.l.length
    ·have e1 : decide ((i : Int) < (f.l.length : Int)) = true := by simp [hi']
     have e2 : ixOK (i : Int) f.l.length = true := ixOK_iff.2 (by omega)
     have hmem := List.getElem_mem hi'
     have hkv := valid_kid hv hmem
     have hkd := depth_kid hc2 hmem
     have hkb := big_mem hmem
     have esuf : sufK w f.l ind cl i (f.l.length - i) = segK w f.l ind cl i ++ sufK w f.l ind cl (i + 1) (f.l.length - (i + 1)) := by
      rw [show f.l.length - i = (f.l.length - (i + 1)) + 1 by omega]; rfl
     have eseg : segK w f.l ind cl i = (if i = 0 then [] else 10 :: blanksS ind) ++ layF w f.l[i] ind (if i + 1 = f.l.length then cl + 1 else 0) := by unfold segK; rw [getD_in hi']
     have hsegl : (segK w f.l ind cl i).length + (sufK w f.l ind cl (i + 1) (f.l.length - (i + 1))).length = (sufK w f.l ind cl i (f.l.length - i)).length := by rw [esuf, List.length_append]
     have hbl : ((if i = 0 then [] else 10 :: blanksS ind : List UInt8)).length + (layF w f.l[i] ind (if i + 1 = f.l.length then cl + 1 else 0)).length = (segK w f.l ind cl i).length := by rw [eseg, List.length_append]
     rw [e1, cond_true, wrapN (show i < 4611686018427387904 by omega)]
     have step2 : ∀ {A : Type} (F : (Int × Int × (Int × Int × (List UInt8) × (List Fm) × Unit) × (List UInt8) × Int × Int × Int × Unit) × (Unit) → Option A),
       Option.bind (cond (decide (((i + 1 : Nat) : Int) = (f.l.length : Int))) (some (((w : Int), (cl : Int), (f.k, f.n, f.t, f.l, ()), o, (ind : Int), (i : Int), IntKind.wrap .i64 ((cl : Int) + 1), ()), ())) (some (((w : Int), (cl : Int), (f.k, f.n, f.t, f.l, ()), o, (ind : Int), (i : Int), 0, ()), ()))) F =
       F (((w : Int), (cl : Int), (f.k, f.n, f.t, f.l, ()), o, (ind : Int), (i : Int), (((if i + 1 = f.l.length then cl + 1 else 0 : Nat)) : Int), ()), ()) := by
      intro A F
      by_cases c0 : i + 1 = f.l.length
      ·rw [decide_eq_true (show ((i + 1 : Nat) : Int) = (f.l.length : Int) by omega), if_pos c0, wrapN (by omega)]; rfl
      ·rw [decide_eq_false (show ¬ ((i + 1 : Nat) : Int) = (f.l.length : Int) by omega), if_neg c0]; rfl
     rw [step2]
     dsimp only
     generalize hcl2 : (if i + 1 = f.l.length then cl + 1 else 0 : Nat) = cl2 at eseg hbl
     have hcl3 : cl2 ≤ cl + 1 := by rw [← hcl2]; split <;> omega
     have step1 : ∀ {A : Type} (F : (Int × Int × (Int × Int × (List UInt8) × (List Fm) × Unit) × (List UInt8) × Int × Int × Int × Unit) × (Unit) → Option A),
       Option.bind (cond (decide ((i : Int) > 0)) (cond (decide (o.length + ([10] : List Nat).length ≤ 9223372036854775807)) (Option.bind (α := List UInt8) (G_rblanks (ind : Int)) fun r22 => (
        cond (decide ((o ++ ([10])).length + r22.length ≤ 9223372036854775807)) (some (((w : Int), (cl : Int), (f.k, f.n, f.t, f.l, ()), (o ++ ([10])) ++ r22, (ind : Int), (i : Int), (cl2 : Int), ()), ())) none)) none) (some (((w : Int), (cl : Int), (f.k, f.n, f.t, f.l, ()), o, (ind : Int), (i : Int), (cl2 : Int), ()), ()))) F =
       F (((w : Int), (cl : Int), (f.k, f.n, f.t, f.l, ()), o ++ (if i = 0 then [] else 10 :: blanksS ind), (ind : Int), (i : Int), (cl2 : Int), ()), ()) := by
      intro A F
      by_cases c0 : i = 0
      ·rw [decide_eq_false (show ¬ (i : Int) > 0 by omega), if_pos c0, List.append_nil]; rfl
      ·rw [if_neg c0] at hbl
       simp only [List.length_cons, blanksS, List.length_replicate] at hbl
       rw [decide_eq_true (show (i : Int) > 0 by omega), cond_true, if_neg c0, rblanks_val (by omega)]
       simp only [Option.bind_some, List.length_append, List.length_cons, List.length_nil, blanksS, List.length_replicate]
       rw [decide_eq_true (by omega), decide_eq_true (by omega)]
       simp only [cond_true, List.append_assoc]
       rfl
     rw [step1]
     dsimp only
     rw [e2, cond_true, Fm.eta_eq, Int.toNat_natCast, getD_in hi']
     rcases rlines_up w hw k f.l[i] ind cl2 D hkv (by omega) (by omega) hD2 (by omega) with h | ⟨h, hn⟩
     ·left
      rw [h]
      simp only [Option.bind_some]
      rw [decide_eq_true (by rw [List.length_append]; omega), cond_true]
      refine ⟨_, rfl, ⟨i + 1, o ++ segK w f.l ind cl i, ?_, by omega, ?_⟩, ?_⟩
      ·rw [wrapN (show i < 4611686018427387904 by omega), eseg]
       simp only [List.append_assoc]
      ·rw [← ho, esuf]; simp only [List.append_assoc]
      ·rw [wrapN (show i < 4611686018427387904 by omega)]; simp only [Int.toNat_natCast]; omega
     ·right; right
      rw [h]
      exact ⟨rfl, by omega⟩
    ·have hie : i = f.l.length := by omega
     subst hie
     have e1 : decide ((f.l.length : Int) < (f.l.length : Int)) = false := by simp
     right; left
     rw [e1, cond_false]
     refine ⟨_, rfl, .of ?_⟩
     have ez : sufK w f.l ind cl f.l.length (f.l.length - f.l.length) = [] := by rw [Nat.sub_self]; rfl
     rw [ez] at ho hol
     dsimp only
     simp only [List.length_cons, List.length_nil]
     rw [decide_eq_true (by omega), ← ho]
     rfl
theorem rlines_val {w : Nat} {f : Fm} (hw : w ≤ 1000) (hv : validF f = true) (hb : f.big ≤ 4611686018427387000) : L_rlines f 0 (w : Int) 0 = some (layF w f 0 0) := by
 have hd := valid_depth hv
 exact limF_up (b := f.big) fun k => rlines_up w hw k f 0 0 200 hv hb (by omega) (by omega) (by omega)
def isW (n : Int) : Bool := decide (20 ≤ n ∧ n ≤ 200)
def fmtS (f : Fm) (n : Int) : List UInt8 × Int × Unit := if isW n = true ∧ validF f = true then (layF n.toNat f 0 0, 0, ()) else ([], 1, ())
theorem isWidth_val (n : Int) : G_isWidth n = some (isW n) := by
 unfold G_isWidth isW
 by_cases h1 : 20 ≤ n
 ·by_cases h2 : n ≤ 200
  ·simp [h1, h2]
  ·simp [h1, h2]
 ·simp [h1]
theorem isW_of {n : Int} (h : isW n = true) : ∃ m : Nat, n = m ∧ 20 ≤ m ∧ m ≤ 200 := by
 have := of_decide_eq_true h
 exact ⟨n.toNat, by omega, by omega, by omega⟩
theorem layFormat_val {f : Fm} (n : Int) (hb : f.big ≤ 4611686018427387000) : G_layFormat f n = some (fmtS f n) := by
 unfold G_layFormat fmtS
 rw [isWidth_val]
 simp only [Option.bind_some, Fm.eta_eq]
 cases hw : isW n with
 | false => simp
 | true =>
  obtain ⟨m, rfl, h1, h2⟩ := isW_of hw
  simp only [Bool.not_true, Bool.not_false, cond_true, rvalid_val hb, Option.bind_some]
  cases hv : validF f with
  | false => simp
  | true =>
   rw [if_pos (by simp), Int.toNat_natCast]
   simp only [Bool.not_true, cond_false]
   rw [prtForm_val hv hb (by simp)]
   simp only [Option.bind_some, List.nil_append, bytes_ints, Option.map_some]
theorem rFormat_val {f : Fm} (n : Int) (hb : f.big ≤ 4611686018427387000) : G_rFormat f n = some (fmtS f n) := by
 unfold G_rFormat fmtS
 simp only [Fm.eta_eq]
 have hc : cond (decide (n < 20)) true (decide (n > 200)) = !isW n := by
  unfold isW
  by_cases h1 : 20 ≤ n
  ·by_cases h2 : n ≤ 200
   ·simp [show ¬ n < 20 by omega, show ¬ n > 200 by omega, h1, h2]
   ·simp [show ¬ n < 20 by omega, show n > 200 by omega, h2]
  ·simp [show n < 20 by omega, h1]
 rw [hc]
 cases hw : isW n with
 | false => simp
 | true =>
  obtain ⟨m, rfl, h1, h2⟩ := isW_of hw
  simp only [Bool.not_true, Bool.not_false, cond_true, refValid_val hb, Option.bind_some]
  cases hv : validF f with
  | false => simp
  | true =>
   rw [if_pos (by simp), Int.toNat_natCast]
   simp only [Bool.not_true, cond_false]
   rw [rlines_val (by omega) hv hb]
   rfl
end Go.Ab

set_option maxRecDepth 100000
set_option maxHeartbeats 1000000
namespace Go.Ab
open Go Go.RowKit Go.Proofs
def aNL (s : List UInt8) : List UInt8 := s.foldl (fun a c => if c = 10 then [] else a ++ [c]) []
theorem aNL_snoc (s : List UInt8) (c : UInt8) : aNL (s ++ [c]) = if c = 10 then [] else aNL s ++ [c] := by unfold aNL; rw [List.foldl_append]; rfl
theorem aNL_run (p : List UInt8) : ∀ q : List UInt8, (∀ c ∈ q, c ≠ 10) → aNL (p ++ q) = aNL p ++ q := by
 intro q
 induction q generalizing p with
 | nil => intro _; simp
 | cons c q ih =>
  intro h
  have e : p ++ c :: q = (p ++ [c]) ++ q := by simp
  rw [e, ih (p ++ [c]) fun x hx => h x (by simp [hx]), aNL_snoc, if_neg (h c (by simp))]
  simp
theorem aNL_all {q : List UInt8} (h : ∀ c ∈ q, c ≠ 10) : aNL q = q := by
 have := aNL_run [] q h
 rwa [List.nil_append, show aNL [] = [] from rfl, List.nil_append] at this
theorem aNL_nl (p : List UInt8) {q : List UInt8} (h : ∀ c ∈ q, c ≠ 10) : aNL (p ++ (10 :: q)) = q := by
 have e : p ++ 10 :: q = (p ++ [10]) ++ q := by simp
 rw [e, aNL_run _ _ h, aNL_snoc, if_pos rfl, List.nil_append]
theorem aNL_bare (p : List UInt8) : ∀ r : List UInt8, (aNL (p ++ r)).all wsB = bareF ((aNL p).all wsB) r := by
 intro r
 induction r generalizing p with
 | nil => rw [List.append_nil]; rfl
 | cons c r ih =>
  have e : p ++ c :: r = (p ++ [c]) ++ r := by simp
  rw [e, ih (p ++ [c]), bareF, aNL_snoc]
  congr 1
  by_cases h : c = 10
  ·rw [if_pos h, if_pos h]; rfl
  ·rw [if_neg h, if_neg h, List.all_append]
   congr 1
   simp [wsB, wsL]
theorem lastIdx_val {s : List UInt8} (hs : s.length ≤ 1000000000) : ∃ j : Nat, G_lastIdx s 10 = some ((j : Int) - 1) ∧ j ≤ s.length ∧ s.drop j = aNL s := by
 have inner : ∃ v, G_lastIdx0 s 10 = some v ∧ ∃ j : Nat, v = (j : Int) - 1 ∧ j ≤ s.length ∧ s.drop j = aNL s := by
  unfold G_lastIdx0
  refine yloop (fun d => ∃ j : Nat, d = ((s, 10, (j : Int) - 1, ()), ()) ∧ j ≤ s.length ∧ ∀ c ∈ s.drop j, c ≠ 10) (fun d => (d.1.2.2.1 + 1).toNat) _ ?_ ⟨s.length, by rw [w64 (by omega) (by omega)], Nat.le_refl _, by intro c hc; rw [List.drop_length] at hc; cases hc⟩
  rintro d ⟨j, rfl, hj, hn⟩
  dsimp only
  cases j with
  | zero =>
   right
   have e1 : decide ((((0 : Nat) : Int) - 1) ≥ 0) = false := by decide
   rw [e1, cond_false]
   refine ⟨_, rfl, _, rfl, 0, rfl, Nat.zero_le _, ?_⟩
   rw [List.drop_zero] at hn ⊢
   exact (aNL_all hn).symm
  | succ j =>
   have e0 : (((j + 1 : Nat) : Int) - 1) = (j : Int) := by omega
   have e1 : decide ((j : Int) ≥ 0) = true := by apply decide_eq_true; omega
   have hj' : j < s.length := by omega
   have e2 : ixOK (j : Int) s.length = true := ixOK_iff.2 (by omega)
   rw [e0, e1, e2, ybyte hj']
   simp only [cond_true]
   have e3 : decide (((s[j].toNat : Nat) : Int) = 10) = decide (s[j] = 10) := ybyteD s[j] 10 (by decide)
   rw [e3]
   have hd := ydrop hj'
   by_cases hc : s[j] = 10
   ·right
    rw [decide_eq_true hc, cond_true]
    refine ⟨_, rfl, _, rfl, j + 1, by omega, hj, ?_⟩
    have e4 : s = s.take j ++ (10 :: s.drop (j + 1)) := by
     conv => lhs; rw [← List.take_append_drop j s, hd, hc]
    have e5 : aNL s = aNL (s.take j ++ (10 :: s.drop (j + 1))) := congrArg aNL e4
    rw [e5, aNL_nl _ hn]
   ·left
    rw [decide_eq_false hc, cond_false]
    refine ⟨_, rfl, ⟨j, by rw [w64 (by omega) (by omega)], by omega, fun c hcm => ?_⟩, by dsimp only; rw [w64 (by omega) (by omega)]; omega⟩
    rw [hd] at hcm
    rcases List.mem_cons.1 hcm with rfl | hcm
    ·exact hc
    ·exact hn c hcm
 obtain ⟨v, hv, j, rfl, h1, h2⟩ := inner
 refine ⟨j, ?_, h1, h2⟩
 unfold G_lastIdx
 rw [hv]; rfl
theorem trimB_nil (s : List UInt8) : (trimBS s = []) ↔ s.all wsB = true := by
 unfold trimBS
 rw [trimRi_nil _ _ _ (Nat.le_refl _), List.take_length, List.all_eq_true]
 rfl
theorem trimBF_val {s : List UInt8} (hs : s.length ≤ 1000000000) : trimBF s [32, 9] = some (trimBS s) := by
 unfold trimBF
 rw [if_pos ⟨rfl, by omega⟩]
theorem line_end (l : List UInt8) : (Lib.indexByte l 10 < 0 → (l.takeWhile n10).length = l.length) ∧ (0 ≤ Lib.indexByte l 10 → ((l.takeWhile n10).length : Int) = Lib.indexByte l 10) ∧ l.drop (l.takeWhile n10).length = lineE l ∧ l.take (l.takeWhile n10).length = l.takeWhile n10 ∧ (l.takeWhile n10).length ≤ l.length := by
 have h := line_drop l
 have e : l.takeWhile n10 ++ lineE l = l := List.takeWhile_append_dropWhile
 have el := congrArg List.length e
 rw [List.length_append] at el
 refine ⟨fun hn => ?_, fun hp => ?_, ?_, ?_, by omega⟩
 ·have h1 : lineE l = [] := h.1 hn
  rw [h1] at el; simpa using el
 ·obtain ⟨a, b⟩ := h.2 hp
  have a : lineE l = l.drop (Lib.indexByte l 10).toNat := a
  have := congrArg List.length a
  rw [List.length_drop] at this
  omega
 ·have h1 := List.drop_left (l₁ := l.takeWhile n10) (l₂ := lineE l)
  rwa [e] at h1
 ·have h1 := List.take_left (l₁ := l.takeWhile n10) (l₂ := lineE l)
  rwa [e] at h1
theorem take_add' (s : List UInt8) (i e : Nat) : s.take (i + e) = s.take i ++ (s.drop i).take e := by rw [List.take_add]
def posC (n : Nat) (b : Bool) (E : List (Bool × List UInt8)) : List Int := (E.filter fun e => e.1 == b).map fun e => (n : Int) - (e.2.length : Int)
theorem posC_app (n : Nat) (b : Bool) (E F : List (Bool × List UInt8)) : posC n b (E ++ F) = posC n b E ++ posC n b F := by unfold posC; rw [List.filter_append, List.map_append]
theorem posC_one {s : List UInt8} {i : Nat} (hi : i ≤ s.length) (b c : Bool) : posC s.length b [(c, s.drop i)] = if c = b then [(i : Int)] else [] := by
 unfold posC
 by_cases h : c = b
 ·subst h
  rw [if_pos rfl]
  simp
  omega
 ·rw [if_neg h]; simp [h]
structure CI (s : List UInt8) (i : Nat) (d g : Int) (a f : List Int) : Prop where
 hi : i ≤ s.length + 2
 hd1 : -(i : Int) ≤ d
 hd2 : d ≤ (i : Int)
 ha : a.length ≤ i
 hf : f.length ≤ i
 ea : a ++ posC s.length false (EV d (decide (0 ≤ g)) ((aNL (s.take i)).all wsB) (s.drop i)) = posC s.length false (EV 0 false true s)
 ef : f ++ posC s.length true (EV d (decide (0 ≤ g)) ((aNL (s.take i)).all wsB) (s.drop i)) = posC s.length true (EV 0 false true s)
theorem CI.step {s : List UInt8} {i j : Nat} {d d' g g' : Int} {a f a' f' : List Int} (h : CI s i d g a f) (hij : i < j) (hj : j ≤ s.length + 2) (h1 : -(j : Int) ≤ d') (h2 : d' ≤ (j : Int)) (X : List (Bool × List UInt8))
  (hE : EV d (decide (0 ≤ g)) ((aNL (s.take i)).all wsB) (s.drop i) = X ++ EV d' (decide (0 ≤ g')) ((aNL (s.take j)).all wsB) (s.drop j))
  (ha : a' = a ++ posC s.length false X) (hf : f' = f ++ posC s.length true X) (hX : X.length ≤ 1) : CI s j d' g' a' f' := by
 obtain ⟨q1, q2, q3, q4, q5, q6, q7⟩ := h
 rw [hE, posC_app, ← List.append_assoc] at q6 q7
 have l1 : ∀ b, (posC s.length b X).length ≤ 1 := fun b => by
  unfold posC; rw [List.length_map]; exact Nat.le_trans (List.length_filter_le _ _) hX
 refine ⟨hj, h1, h2, ?_, ?_, ?_, ?_⟩
 ·rw [ha, List.length_append]; have := l1 false; omega
 ·rw [hf, List.length_append]; have := l1 true; omega
 ·rw [ha]; exact q6
 ·rw [hf]; exact q7
theorem aNL_step {s : List UInt8} {i : Nat} (hi : i < s.length) : (aNL (s.take (i + 1))).all wsB = if s[i] = 10 then true else ((aNL (s.take i)).all wsB && wsB s[i]) := by
 rw [List.take_succ_eq_append_getElem hi, aNL_snoc]
 by_cases h : s[i] = 10
 ·rw [if_pos h, if_pos h]; rfl
 ·rw [if_neg h, if_neg h, List.all_append]; simp
theorem wsB_not {c : UInt8} (h1 : c ≠ 32) (h2 : c ≠ 9) : wsB c = false := by simp [wsB, wsL, h1, h2]
theorem qEnd_plain {c : UInt8} (h1 : c ≠ 92) (h2 : c ≠ 34) (r : List UInt8) : qEnd (c :: r) = qEnd r := by
 cases r with
 | nil => simp [qEnd]
 | cons d r => rw [qEnd, if_neg h1, if_neg h2]
theorem qEnd_close (r : List UInt8) : qEnd (34 :: r) = r := by
 cases r with
 | nil => simp [qEnd]
 | cons d r => rw [qEnd, if_neg (by decide), if_pos rfl]
theorem lcomments_val {s : List UInt8} (hs : s.length ≤ 1000000) : G_lcomments s = some (posC s.length false (EV 0 false true s), posC s.length true (EV 0 false true s), ()) := by
 refine Up.get ?_
 unfold G_lcomments
 refine up_inv (N := False) (fun d => ∃ (i : Nat) (dp g : Int) (a f : List Int), d = ((s, (), (), dp, g, (i : Int), ()), (a, f, ())) ∧ CI s i dp g a f) (fun d => s.length + 2 - d.1.2.2.2.2.2.1.toNat) ?_
  ⟨0, 0, -1, [], [], rfl, ⟨by omega, by omega, by omega, Nat.le_refl _, Nat.le_refl _, rfl, rfl⟩⟩
 rintro d ⟨i, dp, g, a, f, rfl, hI⟩
 dsimp only
 by_cases hi : i < s.length
 ·left
  have e1 : decide ((i : Int) < (s.length : Int)) = true := by simp [hi]
  have e2 : ixOK (i : Int) s.length = true := ixOK_iff.2 (by omega)
  have hd := ydrop hi
  have hda := hI.hd1
  have hdb := hI.hd2
  have hla := hI.ha
  have hlf := hI.hf
  rw [e1, e2, ybyte hi]
  simp only [cond_true]
  obtain ⟨c, hc⟩ : ∃ c, c = s[i] := ⟨_, rfl⟩
  rw [← hc] at hd ⊢
  have b59 : decide (((c.toNat : Nat) : Int) = 59) = decide (c = 59) := ybyteD c 59 (by decide)
  have b34 : decide (((c.toNat : Nat) : Int) = 34) = decide (c = 34) := ybyteD c 34 (by decide)
  have b40 : decide (((c.toNat : Nat) : Int) = 40) = decide (c = 40) := ybyteD c 40 (by decide)
  have b41 : decide (((c.toNat : Nat) : Int) = 41) = decide (c = 41) := ybyteD c 41 (by decide)
  have hstep := aNL_step hi
  rw [← hc] at hstep
  rw [b59, b34, b40, b41, blank_cond]
  have fin : ∀ (j : Nat) (dp' g' : Int) (a' f' : List Int) (X : Option (((List UInt8) × Unit × Unit × Int × Int × Int × Unit) × ((List Int) × (List Int) × Unit))), X = some ((s, (), (), dp', g', (j : Int) - 1, ()), (a', f', ())) → i < j → CI s j dp' g' a' f' →
    ∃ l', Option.bind X (fun d55 : ((List UInt8) × Unit × Unit × Int × Int × Int × Unit) × ((List Int) × (List Int) × Unit) => some (Step.next (R := (Unit × Unit × Unit) × ((List Int) × (List Int) × Unit)) ((d55.1.1, (), (), d55.1.2.2.2.1, d55.1.2.2.2.2.1, IntKind.wrap .i64 (d55.1.2.2.2.2.2.1 + 1), ()), (d55.2.1, d55.2.2.1, ())))) = some (.next l') ∧
     (∃ (i : Nat) (dp g : Int) (a f : List Int), l' = ((s, (), (), dp, g, (i : Int), ()), (a, f, ())) ∧ CI s i dp g a f) ∧ s.length + 2 - l'.1.2.2.2.2.2.1.toNat < s.length + 2 - (i : Int).toNat := by
   intro j dp' g' a' f' X hX hij hC
   have hjj := hC.hi
   rw [hX]
   have ew : IntKind.wrap .i64 ((j : Int) - 1 + 1) = (j : Int) := by rw [w64 (by omega) (by omega)]; omega
   refine ⟨_, rfl, ⟨j, dp', g', a', f', ?_, hC⟩, ?_⟩
   ·dsimp only; rw [ew]
   ·dsimp only; rw [ew]; simp only [Int.toNat_natCast]; omega
  have evNone : ∀ {d' : Int} {nr b' : Bool} (hE : EV dp (decide (0 ≤ g)) ((aNL (s.take i)).all wsB) (s.drop i) = EV d' nr b' (s.drop (i + 1))) (g' : Int), decide (0 ≤ g') = nr → b' = (aNL (s.take (i + 1))).all wsB → -((i + 1 : Nat) : Int) ≤ d' → d' ≤ ((i + 1 : Nat) : Int) → CI s (i + 1) d' g' a f := by
   intro d' nr b' hE g' hg hb h1 h2
   refine hI.step (Nat.lt_succ_self _) (by omega) h1 h2 [] ?_ (by simp [posC]) (by simp [posC]) (by simp)
   rw [hE, hg, hb]; rfl
  have evOne : ∀ {P : Prop} [Decidable P] {d' : Int} {nr b' : Bool} (b : Bool) (hE : EV dp (decide (0 ≤ g)) ((aNL (s.take i)).all wsB) (s.drop i) = (if P then [(b, s.drop i)] else []) ++ EV d' nr b' (s.drop (i + 1))) (g' : Int), decide (0 ≤ g') = nr → b' = (aNL (s.take (i + 1))).all wsB → -((i + 1 : Nat) : Int) ≤ d' → d' ≤ ((i + 1 : Nat) : Int) →
    CI s (i + 1) d' g' (if P ∧ b = false then a ++ [(i : Int)] else a) (if P ∧ b = true then f ++ [(i : Int)] else f) := by
   intro P _ d' nr b' b hE g' hg hb h1 h2
   refine hI.step (Nat.lt_succ_self _) (by omega) h1 h2 (if P then [(b, s.drop i)] else []) ?_ ?_ ?_ (by split <;> simp)
   ·rw [hE, hg, hb]
   ·by_cases hP : P
    ·rw [if_pos hP, posC_one (by omega)]
     by_cases hb : b = false
     ·rw [if_pos ⟨hP, hb⟩, if_pos hb]
     ·rw [if_neg (fun h => hb h.2), if_neg hb, List.append_nil]
    ·rw [if_neg hP, if_neg (fun h => hP h.1)]; simp [posC]
   ·by_cases hP : P
    ·rw [if_pos hP, posC_one (by omega)]
     by_cases hb : b = true
     ·rw [if_pos ⟨hP, hb⟩, if_pos hb]
     ·rw [if_neg (fun h => hb h.2), if_neg hb, List.append_nil]
    ·rw [if_neg hP, if_neg (fun h => hP h.1)]; simp [posC]
  have ej : (((i + 1 : Nat) : Int) - 1) = (i : Int) := by omega
  by_cases c59 : c = 59
  ·
   subst c59
   rw [show decide ((59 : UInt8) = 59) = true from rfl, cond_true]
   obtain ⟨z1, z2, z3, z4, z5⟩ := line_end (s.drop i)
   rw [List.length_drop] at z1 z5
   have x1 : slOK (i : Int) (s.length : Int) s.length = true := slOK_iff.2 (by omega)
   have t1 : (s.drop (i : Int).toNat).take ((s.length : Int).toNat - (i : Int).toNat) = s.drop i := by
    simp only [Int.toNat_natCast]; exact List.take_of_length_le (by rw [List.length_drop]; omega)
   have hix : indexByteF (s.drop i) 10 = some (Lib.indexByte (s.drop i) 10) := by unfold indexByteF; rw [if_pos (by decide)]; rfl
   rw [x1, cond_true, t1, hix]
   simp only [Option.bind_some]
   obtain ⟨e, he⟩ : ∃ e, e = ((s.drop i).takeWhile n10).length := ⟨_, rfl⟩
   rw [← he] at z1 z2 z3 z4 z5
   have he1 : 1 ≤ e := by rw [he, hd, List.takeWhile_cons_of_pos (by decide)]; simp
   have hee : ∀ {A : Type} (F : ((List UInt8) × Unit × Unit × Int × Int × Int × Unit) × ((List Int) × (List Int) × Unit) → Option A),
     Option.bind (cond (decide (Lib.indexByte (s.drop i) 10 < 0)) (some ((s, (), (), dp, (i : Int), IntKind.wrap .i64 ((s.length : Int) - (i : Int)), ()), (a, f, ()))) (some ((s, (), (), dp, (i : Int), Lib.indexByte (s.drop i) 10, ()), (a, f, ())))) F = F ((s, (), (), dp, (i : Int), (e : Int), ()), (a, f, ())) := by
    intro A F
    by_cases hn : Lib.indexByte (s.drop i) 10 < 0
    ·have := z1 hn
     rw [decide_eq_true hn, cond_true, w64 (by omega) (by omega), show (s.length : Int) - (i : Int) = (e : Int) by omega]; rfl
    ·have := z2 (by omega)
     rw [decide_eq_false hn, cond_false, ← this]; rfl
   rw [hee]
   dsimp only
   have x2 : slOK 0 (i : Int) s.length = true := slOK_iff.2 (by omega)
   have t2 : (s.drop (0 : Int).toNat).take ((i : Int).toNat - (0 : Int).toNat) = s.take i := by simp
   obtain ⟨j, hj1, hj2, hj3⟩ := lastIdx_val (s := s.take i) (by rw [List.length_take]; omega)
   rw [List.length_take] at hj2
   rw [x2, cond_true, t2, hj1]
   simp only [Option.bind_some]
   have w1 : IntKind.wrap .i64 ((j : Int) - 1 + 1) = (j : Int) := by rw [w64 (by omega) (by omega)]; omega
   have x3 : slOK (j : Int) (i : Int) s.length = true := slOK_iff.2 (by omega)
   have t3 : (s.drop (j : Int).toNat).take ((i : Int).toNat - (j : Int).toNat) = aNL (s.take i) := by
    simp only [Int.toNat_natCast]
    rw [← hj3, List.drop_take]
   have hlen3 : (aNL (s.take i)).length ≤ 1000000000 := by rw [← hj3, List.length_drop, List.length_take]; omega
   rw [w1, x3, cond_true, t3, trimBF_val hlen3]
   have hb2 : (aNL (s.take (i + e))).all wsB = false := by
    rw [take_add', z4, aNL_bare]
    have h0 : (s.drop i).takeWhile n10 = 59 :: (s.drop (i + 1)).takeWhile n10 := by rw [hd]; exact List.takeWhile_cons_of_pos (by decide)
    rw [h0, bareF, if_neg (by decide)]
    have : ((aNL (s.take i)).all wsB && (decide ((59 : UInt8) = 32) || decide ((59 : UInt8) = 9))) = false := by cases (aNL (s.take i)).all wsB <;> rfl
    rw [this]
    exact bareF_false _ fun x hx => by have := takeWhile_all hx; simpa [n10] using this
   have hdr : s.drop (i + e) = lineE (s.drop i) := by rw [← z3, List.drop_drop]
   have hEV : EV dp (decide (0 ≤ g)) ((aNL (s.take i)).all wsB) (s.drop i) = (if dp = 0 ∧ (aNL (s.take i)).all wsB = true then [(false, s.drop i)] else []) ++ EV dp (decide ((0 : Int) ≤ -1)) ((aNL (s.take (i + e))).all wsB) (s.drop (i + e)) := by
    rw [hb2, hdr, hd, EV_cons, if_pos rfl]; rfl
   have w2 : IntKind.wrap .i64 ((i : Int) + IntKind.wrap .i64 ((e : Int) - 1)) = ((i + e : Nat) : Int) - 1 := by rw [w64 (show -9223372036854775808 ≤ (e : Int) - 1 by omega) (by omega), w64 (by omega) (by omega)]; omega
   have hCI : ∀ (a' : List Int), a' = (if dp = 0 ∧ (aNL (s.take i)).all wsB = true then a ++ [(i : Int)] else a) → CI s (i + e) dp (-1) a' f := by
    intro a' ha'
    refine hI.step (by omega) (by omega) (by omega) (by omega) _ hEV ?_ ?_ (by split <;> simp)
    ·rw [ha']
     by_cases hP : dp = 0 ∧ (aNL (s.take i)).all wsB = true
     ·rw [if_pos hP, if_pos hP, posC_one (by omega)]; rfl
     ·rw [if_neg hP, if_neg hP]; simp [posC]
    ·by_cases hP : dp = 0 ∧ (aNL (s.take i)).all wsB = true
     ·rw [if_pos hP, posC_one (by omega)]; simp
     ·rw [if_neg hP]; simp [posC]
   refine fin (i + e) dp (-1) (if dp = 0 ∧ (aNL (s.take i)).all wsB = true then a ++ [(i : Int)] else a) f _ ?_ (by omega) (hCI _ rfl)
   by_cases hdp : dp = 0
   ·rw [decide_eq_true hdp]
    simp only [cond_true, Option.bind_some]
    have ht := trimB_nil (aNL (s.take i))
    by_cases hb : (aNL (s.take i)).all wsB = true
    ·rw [decide_eq_true (ht.2 hb), if_pos ⟨hdp, hb⟩]
     simp only [cond_true, List.length_cons, List.length_nil]
     rw [decide_eq_true (by omega)]
     simp only [cond_true, Option.bind_some, w2]
    ·rw [decide_eq_false (fun h => hb (ht.1 h)), if_neg (fun h => hb h.2)]
     simp only [cond_false, Option.bind_some, w2]
   ·rw [decide_eq_false hdp, if_neg (fun h => hdp h.1)]
    simp only [cond_false, Option.bind_some, w2]
  ·rw [decide_eq_false c59, cond_false]
   by_cases c34 : c = 34
   ·
    subst c34
    rw [show decide ((34 : UInt8) = 34) = true from rfl, cond_true]
    have hEV0 : EV dp (decide (0 ≤ g)) ((aNL (s.take i)).all wsB) (s.drop i) = (if dp = 0 ∧ decide (0 ≤ g) = false then [(true, s.drop i)] else []) ++ EV dp false (bareF ((aNL (s.take i)).all wsB) ((s.drop i).take ((s.drop i).length - (qEnd (s.drop (i + 1))).length))) (qEnd (s.drop (i + 1))) := by
     rw [hd, EV_cons, if_neg (by decide), if_pos rfl]
    have hev : ∀ {A : Type} (F : ((List UInt8) × Unit × Unit × Int × Int × Unit) × ((List Int) × (List Int) × Unit) → Option A),
      Option.bind (cond (cond (decide (dp = 0)) (decide (g < 0)) false) (cond (decide ((f.length + ([(i : Int)]).length) * 8 ≤ 140737488355328)) (some ((s, (), (), dp, (i : Int), ()), (a, f ++ ([(i : Int)]), ()))) none) (some ((s, (), (), dp, (i : Int), ()), (a, f, ())))) F =
      F ((s, (), (), dp, (i : Int), ()), (a, (if dp = 0 ∧ decide (0 ≤ g) = false then f ++ [(i : Int)] else f), ())) := by
     intro A F
     simp only [List.length_cons, List.length_nil]
     rw [decide_eq_true (show (f.length + (0 + 1)) * 8 ≤ 140737488355328 by omega)]
     by_cases hdp : dp = 0
     ·by_cases hg : g < 0
      ·rw [decide_eq_true hdp, decide_eq_true hg, if_pos ⟨hdp, decide_eq_false (by omega)⟩]; rfl
      ·rw [decide_eq_true hdp, decide_eq_false hg, if_neg (by rintro ⟨_, h⟩; have := of_decide_eq_false h; omega)]; rfl
     ·rw [decide_eq_false hdp, if_neg (fun h => hdp h.1)]; rfl
    rw [hev]
    dsimp only
    rw [wrapN (show i < 4611686018427387904 by omega)]
    obtain ⟨f', hf'⟩ : ∃ f', f' = (if dp = 0 ∧ decide (0 ≤ g) = false then f ++ [(i : Int)] else f) := ⟨_, rfl⟩
    rw [← hf']
    have inner : ∃ v, Option.bind (loopM (L := ((List UInt8) × Unit × Unit × Int × Int × Unit) × ((List Int) × (List Int) × Unit)) (R := ((List UInt8) × Unit × Unit × Int × Int × Unit) × ((List Int) × (List Int) × Unit)) (fun d31 => (
 let l32 := d31.2.1
 let l33 := d31.2.2.1
 let v0_34 := d31.1.1
 let v4_35 := d31.1.2.2.2.1
 let v6_36 := d31.1.2.2.2.2.1
 cond ((ixOK v6_36 v0_34.length) || !(decide (v6_36 < (v0_34.length : Int)))) (cond (cond (decide (v6_36 < (v0_34.length : Int))) (!decide (byteAt v0_34 v6_36 = 34)) false) (Option.bind (α := ((List UInt8) × Unit × Unit × Int × Int × Unit) × ((List Int) × (List Int) × Unit))
 (cond (ixOK v6_36 v0_34.length) (cond (decide (byteAt v0_34 v6_36 = 92)) (some ((v0_34, (), (), v4_35, IntKind.wrap .i64 (v6_36 + 1), ()), (l32, l33, ()))) (some ((v0_34, (), (), v4_35, v6_36, ()), (l32, l33, ())))) none) fun d37 => (
 let l38 := d37.2.1
 let l39 := d37.2.2.1
 let v0_40 := d37.1.1
 let v4_41 := d37.1.2.2.2.1
 let v6_42 := d37.1.2.2.2.2.1
 some (Step.next ((v0_40, (), (), v4_41, IntKind.wrap .i64 (v6_42 + 1), ()), (l38, l39, ()))))) (some (Step.done ((v0_34, (), (), v4_35, v6_36, ()), (l32, l33, ()))))) none)) ((s, (), (), dp, ((i + 1 : Nat) : Int), ()), (a, f', ()))) (fun d43 : ((List UInt8) × Unit × Unit × Int × Int × Unit) × ((List Int) × (List Int) × Unit) => (
 let l44 := d43.2.1
 let l45 := d43.2.2.1
 let v0_46 := d43.1.1
 let v4_47 := d43.1.2.2.2.1
 let v6_48 := d43.1.2.2.2.2.1
 some (((v0_46, (), (), v4_47, (-1), v6_48, ()), (l44, l45, ())) : ((List UInt8) × Unit × Unit × Int × Int × Int × Unit) × ((List Int) × (List Int) × Unit)))) = some v ∧ ∃ j : Nat, v = ((s, (), (), dp, (-1), (j : Int), ()), (a, f', ())) ∧ i + 1 ≤ j ∧ j ≤ s.length + 1 ∧ s.drop (j + 1) = qEnd (s.drop (i + 1)) := by
     refine yloop (fun d => ∃ j : Nat, d = ((s, (), (), dp, (j : Int), ()), (a, f', ())) ∧ i + 1 ≤ j ∧ j ≤ s.length + 1 ∧ qEnd (s.drop j) = qEnd (s.drop (i + 1))) (fun d => s.length + 2 - d.1.2.2.2.2.1.toNat) _ ?_ ⟨i + 1, rfl, Nat.le_refl _, by omega, rfl⟩
     rintro d ⟨j, rfl, j1, j2, j3⟩
     dsimp only
     by_cases hj : j < s.length
     ·have y1 : decide ((j : Int) < (s.length : Int)) = true := by simp [hj]
      have y2 : ixOK (j : Int) s.length = true := ixOK_iff.2 (by omega)
      have hdj := ydrop hj
      have q34 : decide (((s[j].toNat : Nat) : Int) = 34) = decide (s[j] = 34) := ybyteD s[j] 34 (by decide)
      have q92 : decide (((s[j].toNat : Nat) : Int) = 92) = decide (s[j] = 92) := ybyteD s[j] 92 (by decide)
      rw [y1, y2, ybyte hj, q34, q92]
      simp only [Bool.true_or, cond_true]
      by_cases h34 : s[j] = 34
      ·right
       rw [decide_eq_true h34]
       refine ⟨_, rfl, _, rfl, j, rfl, j1, j2, ?_⟩
       rw [← j3, hdj, h34, qEnd_close]
      ·left
       rw [decide_eq_false h34]
       simp only [Bool.not_false, cond_true]
       by_cases h92 : s[j] = 92
       ·rw [decide_eq_true h92]
        simp only [cond_true, Option.bind_some]
        rw [wrapN (show j < 4611686018427387904 by omega), wrapN (show j + 1 < 4611686018427387904 by omega)]
        refine ⟨_, rfl, ⟨j + 1 + 1, rfl, by omega, by omega, ?_⟩, by simp only [Int.toNat_natCast]; omega⟩
        rw [← j3, hdj, h92]
        by_cases hj' : j + 1 < s.length
        ·rw [ydrop hj', qEnd, if_pos rfl]
        ·rw [List.drop_of_length_le (show s.length ≤ j + 1 by omega), List.drop_of_length_le (show s.length ≤ j + 1 + 1 by omega)]; rfl
       ·rw [decide_eq_false h92]
        simp only [cond_false, Option.bind_some]
        rw [wrapN (show j < 4611686018427387904 by omega)]
        refine ⟨_, rfl, ⟨j + 1, rfl, by omega, by omega, ?_⟩, by simp only [Int.toNat_natCast]; omega⟩
        rw [← j3, hdj, qEnd_plain h92 h34]
     ·have y1 : decide ((j : Int) < (s.length : Int)) = false := by apply decide_eq_false; omega
      rw [y1]
      simp only [Bool.not_false, Bool.or_true, cond_true, cond_false]
      right
      refine ⟨_, rfl, _, rfl, j, rfl, j1, j2, ?_⟩
      rw [List.drop_of_length_le (show s.length ≤ j by omega)] at j3
      rw [List.drop_of_length_le (show s.length ≤ j + 1 by omega), ← j3]; rfl
    obtain ⟨v, hv, j, rfl, j1, j2, j3⟩ := inner
    refine fin (j + 1) dp (-1) a f' _ ?_ (by omega) ?_
    ·rw [hv, show ((j + 1 : Nat) : Int) - 1 = (j : Int) by omega]
    ·refine hI.step (by omega) (by omega) (by omega) (by omega) (if dp = 0 ∧ decide (0 ≤ g) = false then [(true, s.drop i)] else []) ?_ ?_ ?_ (by split <;> simp)
     ·rw [hEV0, ← j3]
      congr 1
      by_cases hjl : j + 1 ≤ s.length
      ·have e5 : (s.drop i).length - (s.drop (j + 1)).length = j + 1 - i := by rw [List.length_drop, List.length_drop]; omega
       have e6 : (aNL (s.take (j + 1))).all wsB = bareF ((aNL (s.take i)).all wsB) ((s.drop i).take (j + 1 - i)) := by
        rw [← aNL_bare, ← take_add', show i + (j + 1 - i) = j + 1 by omega]
       rw [e5, e6]; rfl
      ·rw [List.drop_of_length_le (show s.length ≤ j + 1 by omega), EV_nil, EV_nil]
     ·by_cases hP : dp = 0 ∧ decide (0 ≤ g) = false
      ·rw [if_pos hP, posC_one (by omega)]; simp
      ·rw [if_neg hP]; simp [posC]
     ·rw [hf']
      by_cases hP : dp = 0 ∧ decide (0 ≤ g) = false
      ·rw [if_pos hP, if_pos hP, posC_one (by omega)]; rfl
      ·rw [if_neg hP, if_neg hP]; simp [posC]
   ·rw [decide_eq_false c34, cond_false]
    by_cases c40 : c = 40
    ·subst c40
     rw [show decide ((40 : UInt8) = 40) = true from rfl, cond_true]
     have hC := evOne (P := dp = 0) true (d' := dp + 1) (nr := false) (b' := false) (by rw [hd, EV_cons, if_neg (by decide), if_neg (by decide), if_pos rfl]) (-1) rfl (by rw [hstep, if_neg (by decide)]; cases (aNL (s.take i)).all wsB <;> rfl) (by omega) (by omega)
     rw [if_neg (by simp)] at hC
     refine fin (i + 1) (dp + 1) (-1) a _ _ ?_ (Nat.lt_succ_self _) hC
     rw [ej]
     simp only [List.length_cons, List.length_nil]
     rw [decide_eq_true (show (f.length + (0 + 1)) * 8 ≤ 140737488355328 by omega)]
     by_cases hdp : dp = 0
     ·rw [decide_eq_true hdp, if_pos (by simp [hdp])]
      simp only [cond_true, Option.bind_some]
      rw [w64 (by omega) (by omega)]
     ·rw [decide_eq_false hdp, if_neg (fun h => hdp h.1)]
      simp only [cond_false, Option.bind_some]
      rw [w64 (by omega) (by omega)]
    ·rw [decide_eq_false c40, cond_false]
     by_cases c41 : c = 41
     ·subst c41
      rw [show decide ((41 : UInt8) = 41) = true from rfl, cond_true]
      have hC := evNone (d' := dp - 1) (nr := false) (b' := false) (by rw [hd, EV_cons, if_neg (by decide), if_neg (by decide), if_neg (by decide), if_pos rfl]) (-1) rfl (by rw [hstep, if_neg (by decide)]; cases (aNL (s.take i)).all wsB <;> rfl) (by omega) (by omega)
      refine fin (i + 1) (dp - 1) (-1) a f _ ?_ (Nat.lt_succ_self _) hC
      rw [ej, w64 (by omega) (by omega)]
     ·rw [decide_eq_false c41, cond_false]
      by_cases cb : blankB c = true
      ·rw [cb, cond_true]
       have hC := evNone (d' := dp) (nr := false) (b' := if c = 10 then true else (aNL (s.take i)).all wsB) (by rw [hd, EV_cons, if_neg c59, if_neg c34, if_neg c40, if_neg c41, if_pos cb]) (-1) rfl (by
        rw [hstep]
        by_cases h10 : c = 10
        ·rw [if_pos h10, if_pos h10]
        ·rw [if_neg h10, if_neg h10]
         have hw : wsB c = true := by
          have h3 : c = 32 ∨ c = 9 ∨ c = 10 := by simpa [blankB] using cb
          rcases h3 with rfl | rfl | h
          ·decide
          ·decide
          ·exact absurd h h10
         rw [hw, Bool.and_true]) (by omega) (by omega)
       refine fin (i + 1) dp (-1) a f _ ?_ (Nat.lt_succ_self _) hC
       rw [ej]
      ·rw [eq_false_of_ne_true cb, cond_false]
       have hw : wsB c = false := wsB_not (by intro e; subst e; exact cb (by decide)) (by intro e; subst e; exact cb (by decide))
       have h10 : c ≠ 10 := by intro e; subst e; exact cb (by decide)
       have hbb : false = (aNL (s.take (i + 1))).all wsB := by rw [hstep, if_neg h10, hw, Bool.and_false]
       by_cases hg : 0 ≤ g
       ·rw [decide_eq_false (show ¬ g < 0 by omega), cond_false]
        have hC := evNone (d' := dp) (nr := true) (b' := false) (by rw [hd, EV_cons, if_neg c59, if_neg c34, if_neg c40, if_neg c41, if_neg cb, if_pos (decide_eq_true hg)]) g (decide_eq_true hg) hbb (by omega) (by omega)
        refine fin (i + 1) dp g a f _ ?_ (Nat.lt_succ_self _) hC
        rw [ej]
       ·rw [decide_eq_true (show g < 0 by omega), cond_true]
        have hC := evOne (P := dp = 0) true (d' := dp) (nr := true) (b' := false) (by rw [hd, EV_cons, if_neg c59, if_neg c34, if_neg c40, if_neg c41, if_neg cb, if_neg (by rw [decide_eq_false hg]; decide)]) (i : Int) (decide_eq_true (by omega)) hbb (by omega) (by omega)
        rw [if_neg (by simp)] at hC
        refine fin (i + 1) dp (i : Int) a _ _ ?_ (Nat.lt_succ_self _) hC
        rw [ej]
        simp only [List.length_cons, List.length_nil]
        rw [decide_eq_true (show (f.length + (0 + 1)) * 8 ≤ 140737488355328 by omega)]
        by_cases hdp : dp = 0
        ·rw [decide_eq_true hdp, if_pos (by simp [hdp])]; rfl
        ·rw [decide_eq_false hdp, if_neg (fun h => hdp h.1)]; rfl
 ·right
  have e1 : decide ((i : Int) < (s.length : Int)) = false := by apply decide_eq_false; omega
  rw [e1, cond_false]
  left
  refine ⟨_, rfl, .of ?_⟩
  have ha := hI.ea
  have hf := hI.ef
  rw [List.drop_of_length_le (show s.length ≤ i by omega), EV_nil] at ha hf
  have e0 : ∀ b, posC s.length b [] = [] := fun b => rfl
  rw [e0, List.append_nil] at ha hf
  dsimp only
  rw [ha, hf]
end Go.Ab
