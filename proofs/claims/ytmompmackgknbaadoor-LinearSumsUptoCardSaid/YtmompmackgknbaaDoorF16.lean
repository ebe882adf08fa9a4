/-
  THE REFERENCE's notion of a valid form is the reader's.
-/
import Derived.Test.YtmompmackgknbaaDoorF15
import Derived.Test.YtmompmackgknbaaDoorF12
set_option linter.unusedVariables false
set_option linter.unusedSimpArgs false
set_option maxRecDepth 100000
namespace Go.Ab
open Go Go.RowKit Go.Proofs

/-! ### Texts -/
def badB (c : UInt8) : Bool := !decide (c.toNat = 10) && (decide (c.toNat < 32) || decide (126 < c.toNat))
theorem get_at (s : List UInt8) (i : Nat) (h : i < s.length) : (⟨s.toArray⟩ : ByteArray).get! i = s[i] := by
  unfold ByteArray.get!
  simp [h]
theorem decode_low (s : List UInt8) (i : Nat) (h : i < s.length) (hb : s[i].toNat < 128) : Utf8.decode ⟨s.toArray⟩ i = (s[i].toNat, 1) := by
  unfold Utf8.decode
  simp only [Nat.add_zero, get_at s i h]
  rw [if_pos hb]
theorem decode_high (s : List UInt8) (i : Nat) (h : i < s.length) (hb : 128 ≤ s[i].toNat) : 126 < (Utf8.decode ⟨s.toArray⟩ i).1 := by
  unfold Utf8.decode
  simp only [Nat.add_zero, get_at s i h]
  rw [if_neg (by omega)]
  repeat' split
  all_goals first
    | (simp [Utf8.runeError]; done)
    | (simp_all; omega)
theorem idxR_bad (s : List UInt8) : ∀ (f pos : Nat), s.length < f + pos → (0 ≤ idxR badR s f pos ↔ (s.drop pos).any badB = true)
  | 0, pos, h => by
    simp only [idxR]
    rw [List.drop_of_length_le (by omega)]; simp
  | f + 1, pos, h => by
    simp only [idxR]
    by_cases hp : pos < s.length
    · rw [if_pos hp, List.drop_eq_getElem_cons hp, List.any_cons]
      by_cases hb : s[pos].toNat < 128
      · rw [decode_low s pos hp hb]
        have he : badR (s[pos].toNat : Int) = badB s[pos] := by
          rw [Bool.eq_iff_iff]; simp [badR, badB]; omega
        simp only [he]
        cases hbb : badB s[pos] with
        | true => simp
        | false =>
          simp only [Bool.false_eq_true, if_false, Bool.false_or]
          exact idxR_bad s f (pos + 1) (by omega)
      · have h1 := decode_high s pos hp (by omega)
        have he : badR ((Utf8.decode ⟨s.toArray⟩ pos).1 : Int) = true := by
          simp only [badR, Bool.and_eq_true, Bool.or_eq_true, Bool.not_eq_true', decide_eq_false_iff_not, decide_eq_true_eq]; omega
        have hbb : badB s[pos] = true := by
          simp only [badB, Bool.and_eq_true, Bool.or_eq_true, Bool.not_eq_true', decide_eq_false_iff_not, decide_eq_true_eq]; omega
        rw [if_pos he, hbb]; simp
    · rw [if_neg hp, List.drop_of_length_le (by omega)]; simp
theorem badT_any (t : List UInt8) : badT t = t.any badB := by
  have := idxR_bad t (t.length + 1) 0 (by omega)
  rw [List.drop_zero] at this
  unfold badT
  rw [Bool.eq_iff_iff, decide_eq_true_iff]
  exact this
theorem any_take {α : Type} (p : α → Bool) {u : List α} {i : Nat} (h : i < u.length) (ha : (u.take i).any p = false) : (u.take (i + 1)).any p = p u[i] := by
  rw [List.take_succ_eq_append_getElem h, List.any_append, ha]; simp
theorem any_hit {α : Type} (p : α → Bool) {u : List α} {i : Nat} (h : i < u.length) (hp : p u[i] = true) : u.any p = true := List.any_eq_true.2 ⟨u[i], List.getElem_mem h, hp⟩
theorem isText_call (t : List UInt8) (hl : t.length ≤ 4611686018427387904) : PCall CX 81 [.str t] (· = .ret (.bool (!badT t && decide (t.length ≤ 2000)))) := by
  rw [badT_any]
  refine pcall_mk 0 29 [.tmp 2] Tryd.func81 rfl (by decide) rfl rfl rfl ?_
  refine aw_sreg {} rfl rfl fun K KP hK hP => ?_
  simp only [go_sem, ↓reduceIte]
  apply hK; clear hK hP
  refine aw_seq ?_
  refine aw_sreg {} rfl rfl fun K KP hK hP => ?_
  simp only [go_sem, ↓reduceIte]
  apply hK; clear hK hP
  refine aw_block ?_
  refine aw_loop' (fun dd st => ∃ (i : Nat), (i ≤ t.length) ∧ ((t.take i).any badB = false) ∧ t.length - i = dd ∧ [] = st.σ ∧ st.env 0 = .str t ∧ st.env 3 = .int .i64 (i : Nat)) (fun dd st hJ => ?_) ?_
  ·
    obtain ⟨env0, σ0, nx0⟩ := st
    obtain ⟨i, hp0_0, hp0_1, hd0, hs0, e0_0, e0_3⟩ := hJ
    dsimp only at hs0  e0_0 e0_3
    subst hd0; subst hs0
    refine aw_forget' 0 rfl ?_
    refine aw_seq ?_
    refine aw_sreg {} rfl rfl fun K KP hK hP => ?_
    simp only [go_sem, ↓reduceIte, e0_0, e0_3]
    apply hK; clear hK hP
    refine aw_if (i < t.length) (by simp only [go_sem, ↓reduceIte, e0_0, e0_3]) (fun h2 => ?_) (fun h2 => ?_)
    ·
      have hw1 : IntKind.wrap .i64 ((i : Int) + 1) = ((i + 1 : Nat) : Int) := by rw [wrap64 (by omega) (by omega)]; omega
      have hx : t[i]? = some t[i] := List.getElem?_eq_getElem h2
      have hra := any_take badB h2 hp0_1
      refine aw_skip ?_
      refine athen_normal.2 ?_
      refine aw_seq ?_
      refine aw_block ?_
      refine aw_sregB {} 10 24 25 (.bool (decide (badB t[i] = true))) rfl rfl rfl (fun K KP hK hP => ?_) (fun junk4 => ?_)
      ·
        by_cases c4_0 : ((t[i].toNat : Nat) : Int) = 10
        ·
          simp only [go_sem, ↓reduceIte, e0_0, e0_3, h2, hx, hw1, c4_0]
          refine hK _ (by first | rfl | (simp only [go_sem, ↓reduceIte, e0_0, e0_3, h2, hx, hw1, c4_0])) rfl ?_
          simp only [go_sem, ↓reduceIte, Nat.reduceEqDiff, AV.bool.injEq]; rw [Bool.eq_iff_iff]; simp [badB]; omega
        ·
          by_cases c4_1 : ((t[i].toNat : Nat) : Int) < 32
          ·
            simp only [go_sem, ↓reduceIte, e0_0, e0_3, h2, hx, hw1, c4_0, c4_1]
            refine hK _ (by first | rfl | (simp only [go_sem, ↓reduceIte, e0_0, e0_3, h2, hx, hw1, c4_0, c4_1])) rfl ?_
            simp only [go_sem, ↓reduceIte, Nat.reduceEqDiff, AV.bool.injEq]; rw [Bool.eq_iff_iff]; simp [badB]; omega
          ·
            simp only [go_sem, ↓reduceIte, e0_0, e0_3, h2, hx, hw1, c4_0, c4_1]
            refine hK _ (by first | rfl | (simp only [go_sem, ↓reduceIte, e0_0, e0_3, h2, hx, hw1, c4_0, c4_1])) rfl ?_
            simp only [go_sem, ↓reduceIte, Nat.reduceEqDiff, AV.bool.injEq]; rw [Bool.eq_iff_iff]; simp [badB]; omega
      ·
        refine aw_if (badB t[i] = true) (by simp only [go_sem, ↓reduceIte, e0_0, e0_3, h2, hx, hw1]) (fun h4 => ?_) (fun h4 => ?_)
        ·
          refine aw_sreg {} rfl rfl fun K KP hK hP => ?_
          simp only [go_sem, ↓reduceIte, e0_0, e0_3, h2, hx, hw1]
          apply hK; clear hK hP
          refine aw_ret ?_
          refine ablock_ret.2 ?_
          refine athen_ret.2 ?_
          refine afor_zero ?_
          refine athen_ret.2 ?_
          refine ablock_ret.2 ?_
          refine athen_ret.2 ?_
          simp only [go_sem, ↓reduceIte, e0_0, e0_3, h2, hx, hw1, athen_ret] <;> (
            rw [any_hit badB h2 h4]; simp)
        ·
          refine aw_skip ?_
          refine ablock_normal.2 ?_
          refine athen_normal.2 ?_
          refine aw_lreg {} rfl rfl fun K KP hK hP => ?_
          simp only [go_sem, ↓reduceIte, e0_0, e0_3, h2, hx, hw1]
          apply hK; clear hK hP
          refine afor_zero ?_
          refine athen_normal.2 ?_
          refine ⟨_, ?_, i + 1, ?_, ?_, rfl, rfl, ?_, ?_⟩
          · omega
          · first | omega | trivial | assumption
          · rw [hra]; simpa using h4
          · simp only [go_sem, ↓reduceIte, e0_0, e0_3, h2, hx, hw1] <;> try rfl
          · simp only [go_sem, ↓reduceIte, e0_0, e0_3, h2, hx, hw1] <;> try rfl
    ·
      have hi : i = t.length := by omega
      rw [hi, List.take_length] at hp0_1
      refine aw_exit ?_
      refine athen_exit.2 ?_
      refine afor_zero ?_
      refine athen_exit.2 ?_
      refine ablock_here ?_
      refine athen_normal.2 ?_
      refine aw_sreg {} rfl rfl fun K KP hK hP => ?_
      simp only [go_sem, ↓reduceIte, e0_0, e0_3]
      apply hK; clear hK hP
      refine aw_ret ?_
      simp only [go_sem, ↓reduceIte, e0_0, e0_3, athen_ret] <;> (
        rw [hp0_1]; simp; omega)
  ·
    refine ⟨_, 0, ?_, ?_, rfl, ?_, ?_, ?_⟩
    · first | omega | trivial | assumption
    · rfl
    · first | rfl | (simp only [go_sem, ↓reduceIte])
    · simp only [go_sem, ↓reduceIte] <;> try rfl
    · simp only [go_sem, ↓reduceIte] <;> try rfl

/-! ### Fields, size, depth -/
mutual
def fieldsS : Fm → Bool
  | .mk k n t _ l => leafS k n t l && fieldsLS l
def fieldsLS : List Fm → Bool
  | [] => true
  | f :: r => fieldsS f && fieldsLS r
end
theorem fieldsLS_all : ∀ l : List Fm, fieldsLS l = l.all fieldsS
  | [] => by simp only [fieldsLS, List.all_nil]
  | f :: r => by simp only [fieldsLS, List.all_cons, fieldsLS_all r]
mutual
def Fm.depth : Fm → Nat
  | .mk k _ _ _ l => if k = 3 then 1 + Fm.depthL l else 1
def Fm.depthL : List Fm → Nat
  | [] => 0
  | f :: r => max f.depth (Fm.depthL r)
end
theorem depth_pos (f : Fm) : 1 ≤ f.depth := by cases f; simp only [Fm.depth]; split <;> omega
theorem depthL_le {l : List Fm} {d : Nat} : Fm.depthL l ≤ d ↔ ∀ f ∈ l, f.depth ≤ d := by
  induction l with
  | nil => simp [Fm.depthL]
  | cons f r ih => simp only [Fm.depthL, Nat.max_le, ih, List.mem_cons, forall_eq_or_imp]
theorem leafS_kids {k n : Int} {t : List UInt8} {l : List Fm} (h : leafS k n t l = true) (hk : ¬ k = 3) : l = [] := by
  unfold leafS at h
  split at h
  · simp at h; exact h.2.1
  · split at h
    · simp at h; exact h.2.2
    · split at h
      · simp at h; exact h.2.2.2
      · simp [hk] at h
theorem validLS_iff : ∀ l : List Fm, (∀ f ∈ l, ∀ p d : Int, 0 ≤ p → 0 ≤ d → ((validS f p d).1 = true ↔ fieldsS f = true ∧ (f.size : Int) ≤ p ∧ (f.depth : Int) ≤ d) ∧ ((validS f p d).1 = true → (validS f p d).2 = p - f.size)) →
    ∀ p d : Int, 0 ≤ p → 0 ≤ d → ((validLS l p d).1 = true ↔ fieldsLS l = true ∧ (Fm.sizeL l : Int) ≤ p ∧ (Fm.depthL l : Int) ≤ d) ∧ ((validLS l p d).1 = true → (validLS l p d).2 = p - Fm.sizeL l)
  | [], _, p, d, hp, hd => by simp only [validLS, fieldsLS, Fm.sizeL, Fm.depthL]; simp; omega
  | f :: r, ih, p, d, hp, hd => by
    obtain ⟨h1, h2⟩ := ih f (by simp) p d hp hd
    simp only [validLS, fieldsLS, Fm.sizeL, Fm.depthL]
    by_cases hf : (validS f p d).1 = true
    · rw [if_pos hf]
      have e2 := h2 hf
      have hf' := h1.1 hf
      have hp2 : 0 ≤ (validS f p d).2 := by omega
      obtain ⟨h3, h4⟩ := validLS_iff r (fun g hg => ih g (by simp [hg])) (validS f p d).2 d hp2 hd
      rw [e2] at h3 h4 ⊢
      refine ⟨?_, fun h => by rw [h4 h]; omega⟩
      rw [h3, hf'.1, Bool.true_and]
      constructor
      · rintro ⟨a, b, c⟩; exact ⟨a, by omega, by omega⟩
      · rintro ⟨a, b, c⟩; exact ⟨a, by omega, by omega⟩
    · rw [if_neg hf]
      refine ⟨?_, fun h => by cases h⟩
      constructor
      · intro h; cases h
      · rintro ⟨a, b, c⟩
        rw [Bool.and_eq_true] at a
        exact absurd (h1.2 ⟨a.1, by omega, by omega⟩) hf
theorem validS_iff : ∀ f : Fm, ∀ p d : Int, 0 ≤ p → 0 ≤ d → ((validS f p d).1 = true ↔ fieldsS f = true ∧ (f.size : Int) ≤ p ∧ (f.depth : Int) ≤ d) ∧ ((validS f p d).1 = true → (validS f p d).2 = p - f.size) := Fm.ind fun k n t nl l ih p d hp hd => by
  simp only [validS]
  by_cases hc : p - 1 < 0 ∨ d = 0 ∨ leafS k n t l = false
  · rw [if_pos hc]
    refine ⟨?_, fun h => by cases h⟩
    constructor
    · intro h; cases h
    · rintro ⟨a, b, c⟩
      have h1 := size_pos (.mk k n t nl l)
      have h2 := depth_pos (.mk k n t nl l)
      simp only [fieldsS, Bool.and_eq_true] at a
      rcases hc with hc | hc | hc
      · omega
      · omega
      · rw [a.1] at hc; cases hc
  · rw [if_neg hc]
    have hp1 : 0 ≤ p - 1 := by omega
    have hd1 : 0 ≤ d - 1 := by omega
    have hl : leafS k n t l = true := by
      cases h : leafS k n t l
      · exact absurd (.inr (.inr h)) hc
      · rfl
    obtain ⟨h3, h4⟩ := validLS_iff l ih (p - 1) (d - 1) hp1 hd1
    have hsz : Fm.size (.mk k n t nl l) = 1 + Fm.sizeL l ∧ Fm.depth (.mk k n t nl l) = 1 + Fm.depthL l := by
      simp only [Fm.size, Fm.depth]
      by_cases hk : k = 3
      · simp [hk]
      · have := leafS_kids hl hk
        subst this
        simp [hk, Fm.sizeL, Fm.depthL]
    rw [hsz.1, hsz.2]
    refine ⟨?_, fun h => by rw [h4 h]; omega⟩
    rw [h3]
    simp only [fieldsS, hl, Bool.true_and]
    constructor
    · rintro ⟨a, b, c⟩; exact ⟨a, by omega, by omega⟩
    · rintro ⟨a, b, c⟩; exact ⟨a, by omega, by omega⟩
theorem validF_eq (f : Fm) : validF f = (fieldsS f && (decide (f.size ≤ 20000) && decide (f.depth ≤ 100))) := by
  rw [Bool.eq_iff_iff]
  unfold validF
  rw [(validS_iff f 20000 100 (by decide) (by decide)).1]
  simp
  omega

theorem fieldsLS_take {l : List Fm} {i : Nat} (h : i < l.length) (ha : fieldsLS (l.take i) = true) : fieldsLS (l.take (i + 1)) = fieldsS l[i] := by
  rw [fieldsLS_all] at ha ⊢; exact all_take fieldsS h ha
theorem fieldsLS_bad {l : List Fm} {i : Nat} (h : i < l.length) (hp : fieldsS l[i] = false) : fieldsLS l = false := by
  rw [fieldsLS_all]; exact all_bad fieldsS h hp
theorem fields_first {k n : Int} {t : List UInt8} {nl : Bool} {l : List Fm} (h : ¬ (k = 0 ∨ n = 0) ∨ ¬ (k = 3 ∨ l = []) ∨ ¬ (k = 1 ∨ k = 2 ∨ t = [])) : fieldsS (.mk k n t nl l) = false := by
  have key : leafS k n t l = true → (k = 0 ∨ n = 0) ∧ (k = 3 ∨ l = []) ∧ (k = 1 ∨ k = 2 ∨ t = []) := by
    intro h
    unfold leafS at h
    split at h
    · rename_i hk; simp at h; exact ⟨.inl hk, .inr h.2.1, .inr (.inr h.1)⟩
    · split at h
      · rename_i hk; simp at h; exact ⟨.inr h.2.1, .inr h.2.2, .inl hk⟩
      · split at h
        · rename_i hk; simp at h; exact ⟨.inr h.2.2.1, .inr h.2.2.2, .inr (.inl hk)⟩
        · split at h
          · rename_i hk; simp at h; exact ⟨.inr h.2, .inl hk, .inr (.inr h.1)⟩
          · cases h
  have : leafS k n t l = false := by
    cases hl : leafS k n t l
    · rfl
    · have := key hl
      rcases h with h | h | h
      · exact absurd this.1 h
      · exact absurd this.2.1 h
      · exact absurd this.2.2 h
  simp [fieldsS, this]
theorem fields_call : ∀ f : Fm, f.big ≤ 4611686018427387904 → PCall CX 70 [f.av] (· = .ret (.bool (fieldsS f))) := Fm.ind fun k n t nl l ih hb => by
  have hlen := length_le_big l
  have hb1 : 1 + t.length + Fm.bigL l ≤ 4611686018427387904 := by simpa only [Fm.big] using hb
  refine pcall_mk 0 76 [.tmp 2] Tryd.func70 rfl (by decide) rfl rfl rfl ?_
  simp only [go_sem]
  refine aw_sreg {} rfl rfl fun K KP hK hP => ?_
  simp only [go_sem, ↓reduceIte]
  apply hK; clear hK hP
  refine aw_seq ?_
  refine aw_sregB {} 4 36 37 (.bool (decide (¬ (k = 0 ∨ n = 0) ∨ ¬ (k = 3 ∨ l = []) ∨ ¬ (k = 1 ∨ k = 2 ∨ t = [])))) rfl rfl rfl (fun K KP hK hP => ?_) (fun junk1 => ?_)
  ·
    simp only [go_sem, ↓reduceIte]
    repeat' (first | (refine hK _ (by first | rfl | (simp only [go_sem, ↓reduceIte]; done) | (simp only [go_sem, ↓reduceIte, *]; done)) rfl ?_) | ((refine gsel_cases (fun h => ?_) (fun h => ?_) <;> (try simp only [Bool.not_eq_true', Bool.not_eq_false', Bool.not_not, decide_eq_true_eq, decide_eq_false_iff_not, ite_eq_left_iff, ite_eq_right_iff] at h)) <;> simp only [go_sem, ↓reduceIte, *]) | (simp only [go_sem, ↓reduceIte]))
    all_goals (
        try simp only [go_sem, ↓reduceIte]
        all_goals first | (simp_all [List.length_pos_iff]; done) | (simp_all; omega))
  ·
    refine aw_if (¬ (k = 0 ∨ n = 0) ∨ ¬ (k = 3 ∨ l = []) ∨ ¬ (k = 1 ∨ k = 2 ∨ t = [])) (by simp only [go_sem, ↓reduceIte]) (fun h1 => ?_) (fun h1 => ?_)
    ·
      refine aw_sreg {} rfl rfl fun K KP hK hP => ?_
      simp only [go_sem, ↓reduceIte]
      apply hK; clear hK hP
      refine aw_ret ?_
      refine athen_ret.2 ?_
      simp only [go_sem, ↓reduceIte, athen_ret] <;> (
        rw [fields_first h1])
    ·
      refine aw_skip ?_
      refine athen_normal.2 ?_
      refine aw_seq ?_
      refine aw_sreg {} rfl rfl fun K KP hK hP => ?_
      simp only [go_sem, ↓reduceIte]
      apply hK; clear hK hP
      refine aw_block ?_
      refine aw_sreg {} rfl rfl fun K KP hK hP => ?_
      simp only [go_sem, ↓reduceIte]
      apply hK; clear hK hP
      refine aw_if (k = 0) (by simp only [go_sem, ↓reduceIte]) (fun h4 => ?_) (fun h4 => ?_)
      ·
        refine aw_sregB {} 42 49 2 (.bool (decide (-1152921504606846976 ≤ n ∧ n ≤ 1152921504606846976))) rfl rfl rfl (fun K KP hK hP => ?_) (fun junk5 => ?_)
        ·
          simp only [go_sem, ↓reduceIte]
          repeat' (first | (refine hK _ (by first | rfl | (simp only [go_sem, ↓reduceIte]; done) | (simp only [go_sem, ↓reduceIte, *]; done)) rfl ?_) | ((refine gsel_cases (fun h => ?_) (fun h => ?_) <;> (try simp only [Bool.not_eq_true', Bool.not_eq_false', Bool.not_not, decide_eq_true_eq, decide_eq_false_iff_not, ite_eq_left_iff, ite_eq_right_iff] at h)) <;> simp only [go_sem, ↓reduceIte, *]) | (simp only [go_sem, ↓reduceIte]))
          all_goals (
              try simp only [go_sem, ↓reduceIte]
              all_goals first | (simp_all [List.length_pos_iff]; done) | (simp_all; omega))
        ·
          refine aw_ret ?_
          refine ablock_ret.2 ?_
          refine athen_ret.2 ?_
          simp only [go_sem, ↓reduceIte, athen_ret] <;> (
            subst h4; simp at h1; simp [fieldsS, leafS, h1, fieldsLS, Bool.and_comm])
      ·
        refine aw_sreg {} rfl rfl fun K KP hK hP => ?_
        simp only [go_sem, ↓reduceIte]
        apply hK; clear hK hP
        refine aw_if (k = 1) (by simp only [go_sem, ↓reduceIte]) (fun h6 => ?_) (fun h6 => ?_)
        ·
          refine aw_sreg {} rfl rfl fun K KP hK hP => ?_
          simp only [go_sem, ↓reduceIte]
          refine CallP.ret (isWord_call t (by omega)) (by simp only [go_sem]) ?_
          try simp only [go_sem, ↓reduceIte]
          apply hK; clear hK hP
          refine aw_ret ?_
          refine ablock_ret.2 ?_
          refine athen_ret.2 ?_
          simp only [go_sem, ↓reduceIte, athen_ret] <;> (
            subst h6; simp at h1; simp [fieldsS, leafS, h1, fieldsLS])
        ·
          refine aw_sreg {} rfl rfl fun K KP hK hP => ?_
          simp only [go_sem, ↓reduceIte]
          apply hK; clear hK hP
          refine aw_if (k = 2) (by simp only [go_sem, ↓reduceIte]) (fun h8 => ?_) (fun h8 => ?_)
          ·
            refine aw_sreg {} rfl rfl fun K KP hK hP => ?_
            simp only [go_sem, ↓reduceIte]
            refine CallP.ret (isText_call t (by omega)) (by simp only [go_sem]) ?_
            try simp only [go_sem, ↓reduceIte]
            apply hK; clear hK hP
            refine aw_ret ?_
            refine ablock_ret.2 ?_
            refine athen_ret.2 ?_
            simp only [go_sem, ↓reduceIte, athen_ret] <;> (
              subst h8; simp at h1; simp [fieldsS, leafS, h1, fieldsLS, Bool.and_comm])
          ·
            refine aw_sreg {} rfl rfl fun K KP hK hP => ?_
            simp only [go_sem, ↓reduceIte]
            apply hK; clear hK hP
            refine aw_if (k = 3) (by simp only [go_sem, ↓reduceIte]) (fun h10 => ?_) (fun h10 => ?_)
            ·
              subst h10
              simp at h1
              have hfs : fieldsS (.mk 3 n t nl l) = fieldsLS l := by simp [fieldsS, leafS, h1]
              refine aw_seq ?_
              refine aw_sreg {} rfl rfl fun K KP hK hP => ?_
              simp only [go_sem, ↓reduceIte]
              apply hK; clear hK hP
              refine aw_block ?_
              refine aw_loop' (fun dd st => ∃ (i : Nat), (i ≤ l.length) ∧ (fieldsLS (l.take i) = true) ∧ l.length - i = dd ∧ [] = st.σ ∧ st.env 1 = .rptr [.int .i64 3, .int .i64 n, .str t, kidsA nl (l.map Fm.cells)] ∧ st.env 3 = .int .i64 (i : Nat)) (fun dd st hJ => ?_) ?_
              ·
                obtain ⟨env1, σ1, nx1⟩ := st
                obtain ⟨i, hp1_0, hp1_1, hd1, hs1, e1_1, e1_3⟩ := hJ
                dsimp only at hs1  e1_1 e1_3
                subst hd1; subst hs1
                refine aw_forget' 0 rfl ?_
                refine aw_seq ?_
                refine aw_sreg {} rfl rfl fun K KP hK hP => ?_
                simp only [go_sem, ↓reduceIte, e1_1, e1_3]
                apply hK; clear hK hP
                refine aw_if (i < l.length) (by simp only [go_sem, ↓reduceIte, e1_1, e1_3]) (fun h12 => ?_) (fun h12 => ?_)
                ·
                  have hw1 : IntKind.wrap .i64 ((i : Int) + 1) = ((i + 1 : Nat) : Int) := by rw [wrap64 (by omega) (by omega)]; omega
                  have hbi := big_mem (List.getElem_mem h12)
                  have hih := ih _ (List.getElem_mem h12) (by omega)
                  have hra := fieldsLS_take h12 hp1_1
                  refine aw_skip ?_
                  refine athen_normal.2 ?_
                  refine aw_seq ?_
                  refine aw_block ?_
                  refine aw_sreg {} rfl rfl fun K KP hK hP => ?_
                  simp only [go_sem, ↓reduceIte, e1_1, e1_3, h12, getD_cells h12, hw1]
                  refine CallP.ret hih (by simp only [go_sem]) ?_
                  try simp only [go_sem, ↓reduceIte, e1_1, e1_3, h12, getD_cells h12, hw1]
                  apply hK; clear hK hP
                  refine aw_if (¬ fieldsS l[i] = true) (by simp only [go_sem, ↓reduceIte, e1_1, e1_3, h12, getD_cells h12, hw1]) (fun h14 => ?_) (fun h14 => ?_)
                  ·
                    refine aw_sreg {} rfl rfl fun K KP hK hP => ?_
                    simp only [go_sem, ↓reduceIte, e1_1, e1_3, h12, getD_cells h12, hw1]
                    apply hK; clear hK hP
                    refine aw_ret ?_
                    refine ablock_ret.2 ?_
                    refine athen_ret.2 ?_
                    refine afor_zero ?_
                    refine athen_ret.2 ?_
                    refine ablock_ret.2 ?_
                    refine athen_ret.2 ?_
                    refine ablock_ret.2 ?_
                    refine athen_ret.2 ?_
                    simp only [go_sem, ↓reduceIte, e1_1, e1_3, h12, getD_cells h12, hw1, athen_ret] <;> (
                      rw [hfs, fieldsLS_bad h12 (by simpa using h14)])
                  ·
                    refine aw_skip ?_
                    refine ablock_normal.2 ?_
                    refine athen_normal.2 ?_
                    refine aw_lreg {} rfl rfl fun K KP hK hP => ?_
                    simp only [go_sem, ↓reduceIte, e1_1, e1_3, h12, getD_cells h12, hw1]
                    apply hK; clear hK hP
                    refine afor_zero ?_
                    refine athen_normal.2 ?_
                    refine ⟨_, ?_, i + 1, ?_, ?_, rfl, rfl, ?_, ?_⟩
                    · omega
                    · first | omega | trivial | assumption
                    · rw [hra]; simpa using h14
                    · simp only [go_sem, ↓reduceIte, e1_1, e1_3, h12, getD_cells h12, hw1] <;> try rfl
                    · simp only [go_sem, ↓reduceIte, e1_1, e1_3, h12, getD_cells h12, hw1] <;> try rfl
                ·
                  refine aw_exit ?_
                  refine athen_exit.2 ?_
                  refine afor_zero ?_
                  refine athen_exit.2 ?_
                  refine ablock_here ?_
                  refine athen_normal.2 ?_
                  refine aw_sreg {} rfl rfl fun K KP hK hP => ?_
                  simp only [go_sem, ↓reduceIte, e1_1, e1_3]
                  apply hK; clear hK hP
                  refine aw_ret ?_
                  refine ablock_ret.2 ?_
                  refine athen_ret.2 ?_
                  simp only [go_sem, ↓reduceIte, e1_1, e1_3, athen_ret] <;> (
                    have hi : i = l.length := by omega
                    rw [hi, List.take_length] at hp1_1
                    rw [hfs, hp1_1])
              ·
                refine ⟨_, 0, ?_, ?_, rfl, ?_, ?_, ?_⟩
                · first | omega | trivial | assumption
                · simp [fieldsLS]
                · first | rfl | (simp only [go_sem, ↓reduceIte])
                · simp only [go_sem, ↓reduceIte] <;> try rfl
                · simp only [go_sem, ↓reduceIte] <;> try rfl
            ·
              refine aw_skip ?_
              refine ablock_normal.2 ?_
              refine athen_normal.2 ?_
              refine aw_sreg {} rfl rfl fun K KP hK hP => ?_
              simp only [go_sem, ↓reduceIte]
              apply hK; clear hK hP
              refine aw_ret ?_
              simp only [go_sem, ↓reduceIte, athen_ret] <;> (
                simp [fieldsS, leafS, h4, h6, h8, h10])

/-! ### Depth, small, Valid, Head -/
theorem depth_le_size : ∀ f : Fm, f.depth ≤ f.size := Fm.ind fun k n t nl l ih => by
  have : Fm.depthL l ≤ Fm.sizeL l := depthL_le.2 fun f hf => Nat.le_trans (ih f hf) (size_mem hf)
  simp only [Fm.depth, Fm.size]
  split <;> omega
theorem depthL_take {l : List Fm} {i : Nat} (h : i < l.length) : Fm.depthL (l.take (i + 1)) = max (Fm.depthL (l.take i)) l[i].depth := by
  induction l generalizing i with
  | nil => simp at h
  | cons f r ih =>
    cases i with
    | zero => simp [Fm.depthL]
    | succ i => simp only [List.take_succ_cons, Fm.depthL, List.getElem_cons_succ]; rw [ih (by simpa using h)]; omega
theorem depthL_take_le (l : List Fm) (i : Nat) : Fm.depthL (l.take i) ≤ Fm.depthL l := depthL_le.2 fun f hf => depthL_le.1 (Nat.le_refl _) f (List.mem_of_mem_take hf)
theorem refDepth_call : ∀ f : Fm, f.size ≤ 4611686018427387904 → PCall CX 82 [f.av] (· = .ret (.int .i64 f.depth)) := Fm.ind fun k n t nl l ih hsz => by
  have hdp := depth_le_size (.mk k n t nl l)
  have hdl : k = 3 → Fm.depthL l ≤ Fm.sizeL l ∧ l.length ≤ Fm.sizeL l ∧ 1 + Fm.sizeL l ≤ 4611686018427387904 := fun hk => by
    simp only [Fm.size, hk, if_true] at hsz
    exact ⟨depthL_le.2 fun f hf => Nat.le_trans (depth_le_size f) (size_mem hf), length_le_size l, hsz⟩
  refine pcall_mk 0 27 [.tmp 2] Tryd.func82 rfl (by decide) rfl rfl rfl ?_
  simp only [go_sem]
  refine aw_sreg {} rfl rfl fun K KP hK hP => ?_
  simp only [go_sem, ↓reduceIte]
  apply hK; clear hK hP
  refine aw_sreg {} rfl rfl fun K KP hK hP => ?_
  simp only [go_sem, ↓reduceIte]
  apply hK; clear hK hP
  refine aw_seq ?_
  refine aw_sreg {} rfl rfl fun K KP hK hP => ?_
  simp only [go_sem, ↓reduceIte]
  apply hK; clear hK hP
  refine aw_block ?_
  refine aw_loop' (fun dd st => ∃ (i : Nat), (i ≤ l.length) ∧ ((k ≠ 3 → i = 0)) ∧ l.length - i = dd ∧ [] = st.σ ∧ st.env 1 = .rptr [.int .i64 k, .int .i64 n, .str t, kidsA nl (l.map Fm.cells)] ∧ st.env 3 = .int .i64 (Fm.depthL (l.take i) : Nat) ∧ st.env 4 = .int .i64 (i : Nat)) (fun dd st hJ => ?_) ?_
  ·
    obtain ⟨env0, σ0, nx0⟩ := st
    obtain ⟨i, hp0_0, hp0_1, hd0, hs0, e0_1, e0_3, e0_4⟩ := hJ
    dsimp only at hs0  e0_1 e0_3 e0_4
    subst hd0; subst hs0
    refine aw_forget' 0 rfl ?_
    refine aw_seq ?_
    refine aw_sregB {} 5 13 14 (.bool (decide (k = 3 ∧ i < l.length))) rfl rfl rfl (fun K KP hK hP => ?_) (fun junk3 => ?_)
    ·
      simp only [go_sem, ↓reduceIte, e0_1, e0_3, e0_4]
      repeat' (first | (refine hK _ (by first | rfl | (simp only [go_sem, ↓reduceIte, e0_1, e0_3, e0_4]; done) | (simp only [go_sem, ↓reduceIte, e0_1, e0_3, e0_4, *]; done)) rfl ?_) | ((refine gsel_cases (fun h => ?_) (fun h => ?_) <;> (try simp only [Bool.not_eq_true', Bool.not_eq_false', Bool.not_not, decide_eq_true_eq, decide_eq_false_iff_not, ite_eq_left_iff, ite_eq_right_iff] at h)) <;> simp only [go_sem, ↓reduceIte, e0_1, e0_3, e0_4, *]) | (simp only [go_sem, ↓reduceIte, e0_1, e0_3, e0_4]))
      all_goals (
          try simp only [go_sem, ↓reduceIte, e0_1, e0_3, e0_4]
          all_goals first | (simp_all [List.length_pos_iff]; done) | (simp_all; omega))
    ·
      refine aw_if (k = 3 ∧ i < l.length) (by simp only [go_sem, ↓reduceIte, e0_1, e0_3, e0_4]) (fun h3 => ?_) (fun h3 => ?_)
      ·
        obtain ⟨hk, hi⟩ := h3
        have hb := hdl hk
        have hw1 : IntKind.wrap .i64 ((i : Int) + 1) = ((i + 1 : Nat) : Int) := by rw [wrap64 (by omega) (by omega)]; omega
        have hsm := size_mem (List.getElem_mem hi)
        have hih := ih _ (List.getElem_mem hi) (by omega)
        refine aw_skip ?_
        refine athen_normal.2 ?_
        refine aw_seq ?_
        refine aw_block ?_
        refine aw_lreg {} rfl rfl fun K KP hK hP => ?_
        simp only [go_sem, ↓reduceIte, e0_1, e0_3, e0_4, hi, getD_cells hi, hw1]
        refine CallP.ret hih (by simp only [go_sem]) ?_
        try simp only [go_sem, ↓reduceIte, e0_1, e0_3, e0_4, hi, getD_cells hi, hw1]
        apply hK; clear hK hP
        refine ablock_normal.2 ?_
        refine athen_normal.2 ?_
        refine aw_lreg {} rfl rfl fun K KP hK hP => ?_
        simp only [go_sem, ↓reduceIte, e0_1, e0_3, e0_4, hi, getD_cells hi, hw1]
        apply hK; clear hK hP
        refine afor_zero ?_
        refine athen_normal.2 ?_
        refine ⟨_, ?_, i + 1, ?_, ?_, rfl, rfl, ?_, ?_, ?_⟩
        · omega
        · first | omega | trivial | assumption
        · exact fun h => absurd hk h
        · simp only [go_sem, ↓reduceIte, e0_1, e0_3, e0_4, hi, getD_cells hi, hw1] <;> try rfl
        · simp only [go_sem, ↓reduceIte, Nat.reduceEqDiff, e0_3, AV.int.injEq, true_and]; rw [depthL_take hi]; split <;> omega
        · simp only [go_sem, ↓reduceIte, e0_1, e0_3, e0_4, hi, getD_cells hi, hw1] <;> try rfl
      ·
        have hfin : Fm.depth (.mk k n t nl l) = 1 + Fm.depthL (l.take i) := by
          simp only [Fm.depth]
          by_cases hk : k = 3
          · have : i = l.length := by
              have : ¬ i < l.length := fun h => h3 ⟨hk, h⟩
              omega
            rw [if_pos hk, this, List.take_length]
          · rw [if_neg hk, hp0_1 hk]; simp [Fm.depthL]
        have hw2 : IntKind.wrap .i64 ((Fm.depthL (l.take i) : Int) + 1) = ((Fm.depthL (l.take i) + 1 : Nat) : Int) := by rw [wrap64 (by omega) (by omega)]; omega
        refine aw_exit ?_
        refine athen_exit.2 ?_
        refine afor_zero ?_
        refine athen_exit.2 ?_
        refine ablock_here ?_
        refine athen_normal.2 ?_
        refine aw_sreg {} rfl rfl fun K KP hK hP => ?_
        simp only [go_sem, ↓reduceIte, e0_1, e0_3, e0_4, hw2]
        apply hK; clear hK hP
        refine aw_ret ?_
        simp only [go_sem, ↓reduceIte, e0_1, e0_3, e0_4, hw2, athen_ret] <;> (
          rw [hfin]; congr 2; omega)
  ·
    refine ⟨_, 0, ?_, ?_, rfl, ?_, ?_, ?_, ?_⟩
    · first | omega | trivial | assumption
    · first | omega | trivial | assumption
    · first | rfl | (simp only [go_sem, ↓reduceIte])
    · simp only [go_sem, ↓reduceIte, Fm.depthL] <;> try rfl
    · simp only [go_sem, ↓reduceIte, Fm.depthL] <;> try rfl
    · simp only [go_sem, ↓reduceIte, Fm.depthL] <;> try rfl
theorem small_call (f : Fm) (hb : f.size ≤ 4611686018427387904) : PCall CX 71 [f.av] (· = .ret (.bool (decide (f.size ≤ 20000) && decide (f.depth ≤ 100)))) := by
  refine pcall_mk 0 11 [.tmp 2] Tryd.func71 rfl (by decide) rfl rfl rfl ?_
  refine aw_sreg {} rfl rfl fun K KP hK hP => ?_
  simp only [go_sem, ↓reduceIte]
  apply hK; clear hK hP
  by_cases c1_0 : ¬ ((f.size : Nat) : Int) ≤ 20000
  ·
    refine aw_sreg {} rfl rfl fun K KP hK hP => ?_
    simp only [go_sem, ↓reduceIte, c1_0]
    refine CallP.ret (refSize_call f hb) (by simp only [go_sem]) ?_
    try simp only [go_sem, ↓reduceIte, c1_0]
    apply hK; clear hK hP
    refine aw_ret ?_
    simp only [go_sem, ↓reduceIte, c1_0, athen_ret] <;> (
      have : ¬ f.size ≤ 20000 := by omega
      simp [this])
  ·
    replace c1_0 := Classical.not_not.1 c1_0
    refine aw_sreg {} rfl rfl fun K KP hK hP => ?_
    simp only [go_sem, ↓reduceIte, c1_0]
    refine CallP.ret (refSize_call f hb) (by simp only [go_sem]) ?_
    try simp only [go_sem, ↓reduceIte, c1_0]
    refine CallP.ret (refDepth_call f hb) (by simp only [go_sem]) ?_
    try simp only [go_sem, ↓reduceIte, c1_0]
    apply hK; clear hK hP
    refine aw_ret ?_
    simp only [go_sem, ↓reduceIte, c1_0, athen_ret] <;> (
      have h1 : f.size ≤ 20000 := by omega
      simp [h1]
      omega)
theorem refValid_call (f : Fm) (hb : f.big ≤ 4611686018427387904) : PCall CX 40 [f.av] (· = .ret (.bool (validF f))) := by
  have hs := size_le_big f
  refine pcall_mk 0 9 [.tmp 2] Tryd.func40 rfl (by decide) rfl rfl rfl ?_
  refine aw_sreg {} rfl rfl fun K KP hK hP => ?_
  simp only [go_sem, ↓reduceIte]
  apply hK; clear hK hP
  by_cases c1_0 : ¬ fieldsS f = true
  ·
    refine aw_sreg {} rfl rfl fun K KP hK hP => ?_
    simp only [go_sem, ↓reduceIte, c1_0, show fieldsS f = false by simpa using c1_0]
    refine CallP.ret (fields_call f hb) (by simp only [go_sem]) ?_
    try simp only [go_sem, ↓reduceIte, c1_0, show fieldsS f = false by simpa using c1_0]
    apply hK; clear hK hP
    refine aw_ret ?_
    simp only [go_sem, ↓reduceIte, c1_0, athen_ret] <;> (
      have : fieldsS f = false := by simpa using c1_0
      simp [validF_eq, this])
  ·
    replace c1_0 := Classical.not_not.1 c1_0
    refine aw_sreg {} rfl rfl fun K KP hK hP => ?_
    simp only [go_sem, ↓reduceIte, c1_0]
    refine CallP.ret (fields_call f hb) (by simp only [go_sem]) ?_
    try simp only [go_sem, ↓reduceIte, c1_0]
    refine CallP.ret (small_call f (by omega)) (by simp only [go_sem]) ?_
    try simp only [go_sem, ↓reduceIte, c1_0]
    apply hK; clear hK hP
    refine aw_ret ?_
    simp only [go_sem, ↓reduceIte, c1_0, athen_ret] <;> (
      simp [validF_eq, c1_0])
end Go.Ab
