/-
  TEXTS: the contracts of the functions of the packages strings and bytealg that the reader uses.
-/
import Derived.Test.YtmompmackgknbaaDoorF1
import Derived.Lib.Bytealg
set_option linter.unusedVariables false
set_option linter.unusedSimpArgs false
set_option maxRecDepth 100000
namespace Go.Ab
open Go Go.RowKit Go.Proofs

@[go_sem] theorem ofVal_string (l : List UInt8) : ofVal (.string ⟨l.toArray⟩) = .str l := by simp [ofVal]

theorem hasPrefix_call (s p : List UInt8) : PCall CX 117 [.str s, .str p] (· = .ret (.bool (decide (p.length ≤ s.length ∧ s.take p.length = p)))) := by
  refine pcall_mk 0 18 [.tmp 4] Tryd.func117 rfl (by decide) rfl rfl rfl ?_
  refine aw_sreg {} rfl rfl fun K KP hK hP => ?_
  simp only [go_sem, ↓reduceIte]
  apply hK; clear hK hP
  by_cases c1 : p.length ≤ s.length
  ·
    refine aw_sreg {} rfl rfl fun K KP hK hP => ?_
    simp only [go_sem, ↓reduceIte, c1]
    apply hK; clear hK hP
    refine aw_ret ?_
    simp only [go_sem, ↓reduceIte, c1, athen_ret] <;> (
      simp [c1])
  ·
    refine aw_sreg {} rfl rfl fun K KP hK hP => ?_
    simp only [go_sem, ↓reduceIte, c1]
    apply hK; clear hK hP
    refine aw_ret ?_
    simp only [go_sem, ↓reduceIte, c1, athen_ret] <;> (
      simp [c1])
theorem slTrimPrefix_call (s p : List UInt8) : PCall CX 103 [.str s, .str p] (· = .ret (.str (if p.length ≤ s.length ∧ s.take p.length = p then s.drop p.length else s))) := by
  refine pcall_mk 0 13 [.tmp 4] Tryd.func103 rfl (by decide) rfl rfl rfl ?_
  refine aw_sreg {} rfl rfl fun K KP hK hP => ?_
  simp only [go_sem, ↓reduceIte]
  apply hK; clear hK hP
  refine aw_seq ?_
  refine aw_sreg {} rfl rfl fun K KP hK hP => ?_
  simp only [go_sem, ↓reduceIte]
  refine CallP.ret (hasPrefix_call s p) (by simp only [go_sem]) ?_
  try simp only [go_sem, ↓reduceIte]
  apply hK; clear hK hP
  refine aw_if (p.length ≤ s.length ∧ s.take p.length = p) (by simp only [go_sem, ↓reduceIte]) (fun h1 => ?_) (fun h1 => ?_)
  ·
    refine aw_sreg {} rfl rfl fun K KP hK hP => ?_
    simp only [go_sem, ↓reduceIte, h1.1]
    apply hK; clear hK hP
    refine aw_ret ?_
    refine athen_ret.2 ?_
    simp only [go_sem, ↓reduceIte, athen_ret] <;> (
      rw [if_pos h1]; try (rw [List.take_of_length_le (by simp)]))
  ·
    refine aw_skip ?_
    refine athen_normal.2 ?_
    refine aw_sreg {} rfl rfl fun K KP hK hP => ?_
    simp only [go_sem, ↓reduceIte]
    apply hK; clear hK hP
    refine aw_ret ?_
    simp only [go_sem, ↓reduceIte, athen_ret] <;> (
      rw [if_neg h1])
theorem trimPrefix_call (s p : List UInt8) : PCall CX 96 [.str s, .str p] (· = .ret (.str (if p.length ≤ s.length ∧ s.take p.length = p then s.drop p.length else s))) := by
  refine pcall_mk 0 8 [.tmp 4] Tryd.func96 rfl (by decide) rfl rfl rfl ?_
  refine aw_sreg {} rfl rfl fun K KP hK hP => ?_
  simp only [go_sem, ↓reduceIte]
  apply hK; clear hK hP
  refine aw_sreg {} rfl rfl fun K KP hK hP => ?_
  simp only [go_sem, ↓reduceIte]
  refine CallP.ret (slTrimPrefix_call s p) (by simp only [go_sem]) ?_
  try simp only [go_sem, ↓reduceIte]
  apply hK; clear hK hP
  refine aw_ret ?_
  simp only [go_sem, ↓reduceIte, athen_ret]

/-! ### Sets of bytes -/
def setA (l : List UInt8) : List AV := (List.range 256).map fun c => .bool (decide (UInt8.ofNat c ∈ l))
@[go_sem] theorem length_setA (l : List UInt8) : (setA l).length = 256 := by simp [setA]
theorem setA_nil : setA [] = List.replicate 256 (.bool false) := by kernel_rfl
theorem setA_drop (l : List UInt8) (c : UInt8) : ((setA l).drop c.toNat).head? = some (.bool (decide (c ∈ l))) := by
  have hc : c.toNat < 256 := c.toNat_lt
  rw [List.head?_drop]
  simp [setA, hc]
theorem setA_get (l : List UInt8) (k : Nat) (h : k < 256) : (setA l)[k]? = some (.bool (decide (UInt8.ofNat k ∈ l))) := by simp [setA, h]
theorem setA_put (l : List UInt8) (c : UInt8) : (setA l).take c.toNat ++ .bool true :: (setA l).drop (c.toNat + 1) = setA (l ++ [c]) := by
  have hc : c.toNat < 256 := c.toNat_lt
  apply List.ext_getElem?
  intro k
  rcases Nat.lt_or_ge k 256 with hk | hk
  · rw [setA_get _ _ hk]
    rcases Nat.lt_trichotomy k c.toNat with h | h | h
    · rw [List.getElem?_append_left (by simp [length_setA]; omega), List.getElem?_take, if_pos h, setA_get _ _ hk]
      have : UInt8.ofNat k ≠ c := fun e => by
        have := congrArg UInt8.toNat e
        simp at this; omega
      simp [this]
    · subst h
      rw [List.getElem?_append_right (by simp [length_setA] <;> omega), show c.toNat - ((setA l).take c.toNat).length = 0 by simp [length_setA] <;> omega]
      simp
    · rw [List.getElem?_append_right (by simp [length_setA]; omega)]
      have e : k - ((setA l).take c.toNat).length = (k - c.toNat - 1) + 1 := by simp [length_setA]; omega
      rw [e, List.getElem?_cons_succ, List.getElem?_drop, show c.toNat + 1 + (k - c.toNat - 1) = k by omega, setA_get _ _ hk]
      have : UInt8.ofNat k ≠ c := fun e => by
        have := congrArg UInt8.toNat e
        simp at this; omega
      simp [this]
  · rw [List.getElem?_eq_none (by simp [length_setA]; omega), List.getElem?_eq_none (by simp [length_setA]; omega)]
theorem u8_lt (c : UInt8) : c.toNat < 256 := c.toNat_lt
theorem u8_lti (c : UInt8) : (c.toNat : Int) < 256 := by have := c.toNat_lt; omega

theorem contains_call (σ : Sto) (nx p nm : Nat) (l : List UInt8) (c : UInt8) (hs : sget σ p nm = some (.cells 127 (setA l))) : ACall CX 118 [.ref p nm 0, .int .u8 c.toNat] σ nx (Gets (.bool (decide (c ∈ l))) σ nx) := by
  refine acall_mk 10 [.tmp 4] Tryd.func118 rfl (by decide) rfl rfl rfl ?_
  have hc := u8_lti c
  have hc' := u8_lt c
  refine aw_sreg {} rfl rfl fun K KP hK hP => ?_
  simp only [go_sem, ↓reduceIte]
  apply hK; clear hK hP
  refine aw_sreg {} rfl rfl fun K KP hK hP => ?_
  simp only [go_sem, ↓reduceIte, hc, hc', hs, Nat.mul_one, setA_drop]
  apply hK; clear hK hP
  refine aw_ret ?_
  simp only [go_sem, ↓reduceIte, athen_ret]

/-! ### Trim -/
def trimRi (p : UInt8 → Bool) (s : List UInt8) : Nat → List UInt8
  | 0 => []
  | i + 1 => if p (s.getD i 0) then trimRi p s i else s.take (i + 1)
theorem trimRight_call (σ : Sto) (nx p nm : Nat) (l s : List UInt8) (hs : sget σ p nm = some (.cells 127 (setA l))) (hl : s.length ≤ 4611686018427387904) : ACall CX 108 [.str s, .ref p nm 0] σ nx (Gets (.str (trimRi (fun c => decide (c ∈ l)) s s.length)) σ nx) := by
  refine acall_mk 22 [.tmp 4] Tryd.func108 rfl (by decide) rfl rfl rfl ?_
  refine aw_sreg {} rfl rfl fun K KP hK hP => ?_
  simp only [go_sem, ↓reduceIte]
  apply hK; clear hK hP
  refine aw_seq ?_
  refine aw_block ?_
  refine aw_loop' (fun dd st => ∃ (i : Nat), (i ≤ s.length) ∧ (trimRi (fun c => decide (c ∈ l)) s i = trimRi (fun c => decide (c ∈ l)) s s.length) ∧ i = dd ∧ σ = st.σ ∧ nx = st.nx ∧ st.env 0 = .str (s.take i) ∧ st.env 1 = .ref p nm 0) (fun dd st hJ => ?_) ?_
  ·
    obtain ⟨env0, σ0, nx0⟩ := st
    obtain ⟨i, hp0_0, hp0_1, hd0, hs0, hn0, e0_0, e0_1⟩ := hJ
    dsimp only at hs0 hn0 e0_0 e0_1
    subst hd0; subst hs0; subst hn0
    have hlen : (s.take i).length = i := by simp; omega
    refine aw_seq ?_
    refine aw_sreg {} rfl rfl fun K KP hK hP => ?_
    simp only [go_sem, ↓reduceIte, e0_0, e0_1, hlen]
    apply hK; clear hK hP
    refine aw_if (0 < i) (by simp only [go_sem, ↓reduceIte, e0_0, e0_1, hlen]) (fun h1 => ?_) (fun h1 => ?_)
    ·
      have hx : s[i - 1]? = some (s.getD (i - 1) 0) := by simp [show i - 1 < s.length by omega]
      have hx1 : (s.take i)[i - 1]? = some (s.getD (i - 1) 0) := by rw [List.getElem?_take, if_pos (by omega)]; exact hx
      have hw : IntKind.wrap .i64 ((i : Int) - 1) = ((i - 1 : Nat) : Int) := by rw [wrap64 (by omega) (by omega)]; omega
      have hm : i - 1 ≤ i := by omega
      have ht : (s.take i).take (i - 1) = s.take (i - 1) := by rw [List.take_take]; congr 1; omega
      refine aw_skip ?_
      refine athen_normal.2 ?_
      refine aw_block ?_
      refine aw_seq ?_
      refine aw_sreg { ac := [14] } rfl rfl fun K KP hK hP => ?_
      simp only [go_sem, ↓reduceIte, e0_0, e0_1, hlen, hx1, hw, hm, ht]
      refine CallP.acall (contains_call σ nx p nm l _ hs) ?_
      try simp only [go_sem, ↓reduceIte, e0_0, e0_1, hlen, hx1, hw, hm, ht]
      apply hK; clear hK hP
      refine aw_if (¬ (s.getD (i - 1) 0) ∈ l) (by simp only [go_sem, ↓reduceIte, e0_0, e0_1, hlen, hx1, hw, hm, ht]) (fun h2 => ?_) (fun h2 => ?_)
      ·
        refine aw_exit ?_
        refine athen_exit.2 ?_
        refine ablock_pass rfl ?_
        refine athen_exit.2 ?_
        refine ablock_here ?_
        refine athen_normal.2 ?_
        refine aw_sreg {} rfl rfl fun K KP hK hP => ?_
        simp only [go_sem, ↓reduceIte, e0_0, e0_1, hlen, hx1, hw, hm, ht]
        apply hK; clear hK hP
        refine aw_ret ?_
        simp only [go_sem, ↓reduceIte, e0_0, e0_1, hlen, hx1, hw, hm, ht, athen_ret] <;> (
          rw [← hp0_1]
          cases i with
          | zero => simp [trimRi]
          | succ j => first | (exfalso; omega) | (simp only [trimRi]; rw [if_neg (by simpa using h2)]))
      ·
        refine aw_skip ?_
        refine athen_normal.2 ?_
        refine aw_lreg {} rfl rfl fun K KP hK hP => ?_
        simp only [go_sem, ↓reduceIte, e0_0, e0_1, hlen, hx1, hw, hm, ht]
        apply hK; clear hK hP
        refine ablock_normal.2 ?_
        refine athen_normal.2 ?_
        refine ⟨_, ?_, (i - 1), ?_, ?_, rfl, rfl, rfl, ?_, ?_⟩
        · omega
        · first | omega | trivial | assumption
        · rw [← hp0_1]
          cases i with
          | zero => rfl
          | succ j => simp only [Nat.add_sub_cancel, trimRi]; rw [if_pos (by simpa using h2)]
        · simp only [go_sem, ↓reduceIte, e0_0, e0_1, hlen, hx1, hw, hm, ht] <;> try rfl
        · simp only [go_sem, ↓reduceIte, e0_0, e0_1, hlen, hx1, hw, hm, ht] <;> try rfl
    ·
      refine aw_exit ?_
      refine athen_exit.2 ?_
      refine athen_exit.2 ?_
      refine ablock_here ?_
      refine athen_normal.2 ?_
      refine aw_sreg {} rfl rfl fun K KP hK hP => ?_
      simp only [go_sem, ↓reduceIte, e0_0, e0_1, hlen]
      apply hK; clear hK hP
      refine aw_ret ?_
      simp only [go_sem, ↓reduceIte, e0_0, e0_1, hlen, athen_ret] <;> (
        rw [← hp0_1]
        cases i with
        | zero => simp [trimRi]
        | succ j => first | (exfalso; omega) | (simp only [trimRi]; rw [if_neg (by simpa using h2)]))
  ·
    refine ⟨_, s.length, ?_, ?_, rfl, ?_, rfl, ?_, ?_⟩
    · first | omega | trivial | assumption
    · first | omega | trivial | assumption
    · first | rfl | (simp only [go_sem, ↓reduceIte])
    · simp only [go_sem, ↓reduceIte] <;> try rfl
    · simp only [go_sem, ↓reduceIte] <;> try rfl
theorem trimLeft_call (σ : Sto) (nx p nm : Nat) (l s : List UInt8) (hs : sget σ p nm = some (.cells 127 (setA l))) : ACall CX 107 [.str s, .ref p nm 0] σ nx (Gets (.str (s.dropWhile fun c => decide (c ∈ l))) σ nx) := by
  refine acall_mk 16 [.tmp 4] Tryd.func107 rfl (by decide) rfl rfl rfl ?_
  refine aw_sreg {} rfl rfl fun K KP hK hP => ?_
  simp only [go_sem, ↓reduceIte]
  apply hK; clear hK hP
  refine aw_seq ?_
  refine aw_block ?_
  refine aw_loop' (fun dd st => ∃ (r : List UInt8), (r.dropWhile (fun c => decide (c ∈ l)) = s.dropWhile fun c => decide (c ∈ l)) ∧ r.length = dd ∧ σ = st.σ ∧ nx = st.nx ∧ st.env 0 = .str r ∧ st.env 1 = .ref p nm 0) (fun dd st hJ => ?_) ?_
  ·
    obtain ⟨env0, σ0, nx0⟩ := st
    obtain ⟨r, hp0_0, hd0, hs0, hn0, e0_0, e0_1⟩ := hJ
    dsimp only at hs0 hn0 e0_0 e0_1
    subst hd0; subst hs0; subst hn0
    refine aw_seq ?_
    refine aw_sreg {} rfl rfl fun K KP hK hP => ?_
    simp only [go_sem, ↓reduceIte, e0_0, e0_1]
    apply hK; clear hK hP
    refine aw_if (0 < r.length) (by simp only [go_sem, ↓reduceIte, e0_0, e0_1]) (fun h1 => ?_) (fun h1 => ?_)
    ·
      obtain ⟨c, r', rfl⟩ : ∃ c r', r = c :: r' := by cases r with | nil => simp at h1 | cons c r' => exact ⟨c, r', rfl⟩
      have h11 : (1 : Int) ≤ ((r'.length + 1 : Nat) : Int) := by omega
      refine aw_skip ?_
      refine athen_normal.2 ?_
      refine aw_block ?_
      refine aw_seq ?_
      refine aw_sreg { ac := [11] } rfl rfl fun K KP hK hP => ?_
      simp only [go_sem, ↓reduceIte, e0_0, e0_1, h11]
      refine CallP.acall (contains_call σ nx p nm l _ hs) ?_
      try simp only [go_sem, ↓reduceIte, e0_0, e0_1, h11]
      apply hK; clear hK hP
      refine aw_if (¬ c ∈ l) (by simp only [go_sem, ↓reduceIte, e0_0, e0_1, h11]) (fun h2 => ?_) (fun h2 => ?_)
      ·
        refine aw_exit ?_
        refine athen_exit.2 ?_
        refine ablock_pass rfl ?_
        refine athen_exit.2 ?_
        refine ablock_here ?_
        refine athen_normal.2 ?_
        refine aw_sreg {} rfl rfl fun K KP hK hP => ?_
        simp only [go_sem, ↓reduceIte, e0_0, e0_1, h11]
        apply hK; clear hK hP
        refine aw_ret ?_
        simp only [go_sem, ↓reduceIte, e0_0, e0_1, h11, athen_ret] <;> (
          rw [← hp0_0]
          first | (cases r with | nil => rfl | cons => simp at h1) | (rw [List.dropWhile_cons, if_neg (by simpa using h2)]))
      ·
        refine aw_skip ?_
        refine athen_normal.2 ?_
        refine aw_lreg {} rfl rfl fun K KP hK hP => ?_
        simp only [go_sem, ↓reduceIte, e0_0, e0_1, h11]
        apply hK; clear hK hP
        refine ablock_normal.2 ?_
        refine athen_normal.2 ?_
        refine ⟨_, ?_, r', ?_, rfl, rfl, rfl, ?_, ?_⟩
        · simp
        · rw [← hp0_0, List.dropWhile_cons, if_pos (by simpa using h2)]
        · simp only [go_sem, ↓reduceIte, e0_0, e0_1, h11] <;> try rfl
        · simp only [go_sem, ↓reduceIte, e0_0, e0_1, h11] <;> try rfl
    ·
      refine aw_exit ?_
      refine athen_exit.2 ?_
      refine athen_exit.2 ?_
      refine ablock_here ?_
      refine athen_normal.2 ?_
      refine aw_sreg {} rfl rfl fun K KP hK hP => ?_
      simp only [go_sem, ↓reduceIte, e0_0, e0_1]
      apply hK; clear hK hP
      refine aw_ret ?_
      simp only [go_sem, ↓reduceIte, e0_0, e0_1, athen_ret] <;> (
        rw [← hp0_0]
        first | (cases r with | nil => rfl | cons => simp at h1) | (rw [List.dropWhile_cons, if_neg (by simpa using h2)]))
  ·
    refine ⟨_, s, ?_, rfl, ?_, rfl, ?_, ?_⟩
    · first | omega | trivial | assumption
    · first | rfl | (simp only [go_sem, ↓reduceIte])
    · simp only [go_sem, ↓reduceIte] <;> try rfl
    · simp only [go_sem, ↓reduceIte] <;> try rfl

theorem loadC_setA (l : List UInt8) : loadC Tryd.prog 127 (setA l) = some (.agg (setA l)) := by
  have h := length_setA l
  simp only [loadC, aggT_127, szT_127, h, Nat.le_refl, if_true]
  rw [List.take_of_length_le (by omega)]
theorem makeSet_call (s : List UInt8) (hs : ∀ c ∈ s, c < 128) (hl : s.length ≤ 4611686018427387904) : PCall CX 106 [.str s] (· = .ret (.tup [.agg (setA s), .bool true])) := by
  have hd : ∀ l, (setA l).drop 256 = [] := fun l => List.drop_of_length_le (by simp [length_setA])
  refine pcall_mk 0 21 [.cell 2 127, .tmp 3] Tryd.func106 rfl (by decide) rfl rfl rfl ?_
  refine aw_sreg {} rfl (by simp only [allocObjs, go_sem]; rfl) fun K KP hK hP => ?_
  simp only [go_sem, ↓reduceIte]
  apply hK; clear hK hP
  refine aw_seq ?_
  refine aw_sreg {} rfl rfl fun K KP hK hP => ?_
  simp only [go_sem, ↓reduceIte]
  apply hK; clear hK hP
  refine aw_block ?_
  refine aw_loop' (fun dd st => ∃ (i : Nat), (i ≤ s.length) ∧ s.length - i = dd ∧ [(0, .cells 127 (setA (s.take i)))] = st.σ ∧ st.env 0 = .str s ∧ st.env 2 = .ref 0 0 0 ∧ st.env 4 = .int .i64 (i : Nat)) (fun dd st hJ => ?_) ?_
  ·
    obtain ⟨env0, σ0, nx0⟩ := st
    obtain ⟨i, hp0_0, hd0, hs0, e0_0, e0_2, e0_4⟩ := hJ
    dsimp only at hs0  e0_0 e0_2 e0_4
    subst hd0; subst hs0
    refine aw_forget' 1 rfl ?_
    refine aw_seq ?_
    refine aw_sreg {} rfl rfl fun K KP hK hP => ?_
    simp only [go_sem, ↓reduceIte, e0_0, e0_2, e0_4]
    apply hK; clear hK hP
    refine aw_if (i < s.length) (by simp only [go_sem, ↓reduceIte, e0_0, e0_2, e0_4]) (fun h2 => ?_) (fun h2 => ?_)
    ·
      have hx : s[i]? = some s[i] := List.getElem?_eq_getElem h2
      have hlt := hs _ (List.getElem_mem h2)
      have hln : ¬ (128 : Int) ≤ (s[i].toNat : Int) := by have : s[i].toNat < 128 := hlt; omega
      have hc := u8_lti s[i]
      have hc' := u8_lt s[i]
      have hw : IntKind.wrap .i64 ((i : Int) + 1) = ((i + 1 : Nat) : Int) := by rw [wrap64 (by omega) (by omega)]; omega
      have ht : setA (s.take i ++ [s[i]]) = setA (s.take (i + 1)) := by rw [List.take_succ_eq_append_getElem h2]
      refine aw_skip ?_
      refine athen_normal.2 ?_
      refine aw_seq ?_
      refine aw_block ?_
      refine aw_sreg {} rfl rfl fun K KP hK hP => ?_
      simp only [go_sem, ↓reduceIte, e0_0, e0_2, e0_4, hx, hln, hc, hc', hw]
      apply hK; clear hK hP
      refine aw_seq ?_
      refine aw_sreg {} rfl rfl fun K KP hK hP => ?_
      simp only [go_sem, ↓reduceIte, e0_0, e0_2, e0_4, hx, hln, hc, hc', hw]
      apply hK; clear hK hP
      refine aw_if (False) (by simp only [go_sem, ↓reduceIte, e0_0, e0_2, e0_4, hx, hln, hc, hc', hw]) (fun h5 => ?_) (fun h5 => ?_)
      ·
        exact h5.elim
      ·
        refine aw_skip ?_
        refine athen_normal.2 ?_
        refine aw_lreg {} rfl rfl fun K KP hK hP => ?_
        simp only [go_sem, ↓reduceIte, e0_0, e0_2, e0_4, hx, hln, hc, hc', hw, Nat.mul_one, setA_put, ht, Nat.succ_le_of_lt hc']
        apply hK; clear hK hP
        refine ablock_normal.2 ?_
        refine athen_normal.2 ?_
        refine aw_lreg {} rfl rfl fun K KP hK hP => ?_
        simp only [go_sem, ↓reduceIte, e0_0, e0_2, e0_4, hx, hln, hc, hc', hw]
        apply hK; clear hK hP
        refine afor_one ?_
        refine athen_normal.2 ?_
        refine ⟨_, ?_, i + 1, ?_, rfl, rfl, ?_, ?_, ?_⟩
        · omega
        · first | omega | trivial | assumption
        · simp only [go_sem, ↓reduceIte, e0_0, e0_2, e0_4, hx, hln, hc, hc', hw] <;> try rfl
        · simp only [go_sem, ↓reduceIte, e0_0, e0_2, e0_4, hx, hln, hc, hc', hw] <;> try rfl
        · simp only [go_sem, ↓reduceIte, e0_0, e0_2, e0_4, hx, hln, hc, hc', hw] <;> try rfl
    ·
      refine aw_exit ?_
      refine athen_exit.2 ?_
      refine afor_one ?_
      refine athen_exit.2 ?_
      refine ablock_here ?_
      refine athen_normal.2 ?_
      refine aw_sreg {} rfl rfl fun K KP hK hP => ?_
      simp only [go_sem, ↓reduceIte, e0_0, e0_2, e0_4, loadC_setA, hd]
      apply hK; clear hK hP
      refine aw_ret ?_
      simp only [go_sem, ↓reduceIte, e0_0, e0_2, e0_4, athen_ret, loadC_setA] <;> (
        have hi : i = s.length := by omega
        subst hi
        simp only [List.take_length]
        refine ⟨?_, trivial⟩
        refine (RFL_iff _).2 fun x hx => ?_
        obtain ⟨c, _, rfl⟩ := List.mem_map.1 hx
        trivial)
  ·
    refine ⟨_, 0, ?_, rfl, ?_, ?_, ?_, ?_⟩
    · first | omega | trivial | assumption
    · simp only [List.take_zero, setA_nil]
    · simp only [go_sem, ↓reduceIte] <;> try rfl
    · simp only [go_sem, ↓reduceIte] <;> try rfl
    · simp only [go_sem, ↓reduceIte] <;> try rfl
def digitsL : List UInt8 := [48, 49, 50, 51, 52, 53, 54, 55, 56, 57]
def trimS (s : List UInt8) : List UInt8 := (trimRi (fun c => decide (c ∈ digitsL)) s s.length).dropWhile fun c => decide (c ∈ digitsL)
theorem trim_call (s : List UInt8) (hl : s.length ≤ 4611686018427387904) : PCall CX 97 [.str s, .str digitsL] (· = .ret (.str (trimS s))) := by
  have hdl : ((digitsL.length : Nat) : Int) = 10 := rfl
  have hne : digitsL ≠ [] := by decide
  refine pcall_mk 0 43 [.tmp 4] Tryd.func97 rfl (by decide) rfl rfl rfl ?_
  refine aw_sreg {} rfl rfl fun K KP hK hP => ?_
  simp only [go_sem, ↓reduceIte]
  apply hK; clear hK hP
  refine aw_seq ?_
  by_cases c1 : s = []
  ·
    refine aw_sreg {} rfl rfl fun K KP hK hP => ?_
    simp only [go_sem, ↓reduceIte, c1, hne]
    apply hK; clear hK hP
    refine aw_if (True) (by simp only [go_sem, ↓reduceIte, c1]) (fun h1 => ?_) (fun h1 => ?_)
    ·
      refine aw_sreg {} rfl rfl fun K KP hK hP => ?_
      simp only [go_sem, ↓reduceIte, c1]
      apply hK; clear hK hP
      refine aw_ret ?_
      refine athen_ret.2 ?_
      simp only [go_sem, ↓reduceIte, c1, athen_ret] <;> (
        simp [trimS, trimRi, c1])
    ·
      exact absurd trivial h1
  ·
    refine aw_sreg {} rfl rfl fun K KP hK hP => ?_
    simp only [go_sem, ↓reduceIte, c1, hne]
    apply hK; clear hK hP
    refine aw_if (False) (by simp only [go_sem, ↓reduceIte, c1]) (fun h1 => ?_) (fun h1 => ?_)
    ·
      exact h1.elim
    ·
      refine aw_skip ?_
      refine athen_normal.2 ?_
      refine aw_seq ?_
      refine aw_sreg {} rfl rfl fun K KP hK hP => ?_
      simp only [go_sem, ↓reduceIte, c1, hdl]
      apply hK; clear hK hP
      refine aw_if (False) (by simp only [go_sem, ↓reduceIte, c1]) (fun h3 => ?_) (fun h3 => ?_)
      ·
        exact h3.elim
      ·
        refine aw_skip ?_
        refine athen_normal.2 ?_
        refine aw_seq ?_
        refine aw_sreg {} rfl (by simp only [allocObjs, go_sem]; rfl) fun K KP hK hP => ?_
        simp only [go_sem, ↓reduceIte, c1]
        refine CallP.ret (makeSet_call digitsL (by decide) (by decide)) (by simp only [go_sem]) ?_
        try simp only [go_sem, ↓reduceIte, c1]
        apply hK; clear hK hP
        refine aw_sreg {} rfl rfl fun K KP hK hP => ?_
        simp only [go_sem, ↓reduceIte, c1]
        apply hK; clear hK hP
        refine aw_if (True) (by simp only [go_sem, ↓reduceIte, c1]) (fun h6 => ?_) (fun h6 => ?_)
        ·
          refine aw_sreg { ac := [36, 37] } rfl rfl fun K KP hK hP => ?_
          simp only [go_sem, ↓reduceIte, c1]
          refine CallP.acall (trimRight_call _ _ 0 0 digitsL s rfl hl) ?_
          try simp only [go_sem, ↓reduceIte, c1]
          refine CallP.acall (trimLeft_call _ _ 0 0 digitsL _ rfl) ?_
          try simp only [go_sem, ↓reduceIte, c1]
          apply hK; clear hK hP
          refine aw_ret ?_
          refine athen_ret.2 ?_
          simp only [go_sem, ↓reduceIte, c1, athen_ret] <;> (
            rfl)
        ·
          exact absurd trivial h6
theorem dropWhile_nil (p : UInt8 → Bool) : ∀ l : List UInt8, l.dropWhile p = [] ↔ ∀ c ∈ l, p c = true
  | [] => by simp
  | c :: l => by
    rw [List.dropWhile_cons]
    split
    · rename_i h; rw [dropWhile_nil p l]; simp [h]
    · rename_i h; simp [h]
theorem trimRi_nil (p : UInt8 → Bool) (s : List UInt8) : ∀ i, i ≤ s.length → ((trimRi p s i).dropWhile p = [] ↔ ∀ c ∈ s.take i, p c = true)
  | 0, _ => by simp [trimRi]
  | i + 1, h => by
    have hx : s.getD i 0 = s[i] := by simp [show i < s.length by omega]
    simp only [trimRi, hx]
    rw [List.take_succ_eq_append_getElem (by omega)]
    split
    · rename_i hp
      rw [trimRi_nil p s i (by omega)]
      constructor
      · intro h1 c hc
        rcases List.mem_append.1 hc with hc | hc
        · exact h1 c hc
        · simp at hc; subst hc; exact hp
      · intro h1 c hc; exact h1 c (List.mem_append.2 (.inl hc))
    · rename_i hp
      constructor
      · intro h1
        exact (dropWhile_nil p _).1 h1
      · intro h1
        exact absurd (h1 s[i] (List.mem_append.2 (.inr (by simp)))) hp
def digitB (c : UInt8) : Bool := decide (c ∈ digitsL)
theorem trimS_nil (s : List UInt8) : trimS s = [] ↔ s.all digitB = true := by
  unfold trimS
  rw [trimRi_nil _ _ _ (Nat.le_refl _), List.take_length, List.all_eq_true]
  rfl
/-- Digits, or - and digits. -/
def cutMinus (s : List UInt8) : List UInt8 := if s.head? = some 45 then s.tail else s
def numericS (s : List UInt8) : Bool := decide (cutMinus s ≠ []) && (cutMinus s).all digitB
theorem cutMinus_eq (s : List UInt8) [Decidable ([45].length ≤ s.length ∧ s.take [45].length = [45])] : (if [45].length ≤ s.length ∧ s.take [45].length = [45] then s.drop [45].length else s) = cutMinus s := by
  unfold cutMinus
  cases s with
  | nil => simp
  | cons c r => by_cases h : c = 45 <;> simp [h]
theorem cutMinus_length (s : List UInt8) : (cutMinus s).length ≤ s.length := by
  unfold cutMinus
  split
  · simp
  · exact Nat.le_refl _
theorem numeric_call (s : List UInt8) (hl : s.length ≤ 4611686018427387904) : PCall CX 87 [.str s] (· = .ret (.bool (numericS s))) := by
  have hcl := cutMinus_length s
  refine pcall_mk 0 12 [.tmp 2] Tryd.func87 rfl (by decide) rfl rfl rfl ?_
  refine aw_sreg {} rfl rfl fun K KP hK hP => ?_
  simp only [go_sem, ↓reduceIte]
  apply hK; clear hK hP
  refine aw_sreg {} rfl rfl fun K KP hK hP => ?_
  simp only [go_sem, ↓reduceIte]
  refine CallP.ret ((trimPrefix_call s [45]).mono fun o h => h.trans (congrArg (fun x => AOut.ret (.str x)) (cutMinus_eq s))) (by simp only [go_sem]) ?_
  try simp only [go_sem, ↓reduceIte]
  apply hK; clear hK hP
  by_cases c2 : cutMinus s = []
  ·
    refine aw_sreg {} rfl rfl fun K KP hK hP => ?_
    simp only [go_sem, ↓reduceIte, c2]
    apply hK; clear hK hP
    refine aw_ret ?_
    simp only [go_sem, ↓reduceIte, c2, athen_ret] <;> (
      simp [numericS, c2])
  ·
    refine aw_sreg {} rfl rfl fun K KP hK hP => ?_
    simp only [go_sem, ↓reduceIte, c2]
    refine CallP.ret (trim_call (cutMinus s) (by omega)) (by simp only [go_sem]) ?_
    try simp only [go_sem, ↓reduceIte, c2]
    apply hK; clear hK hP
    refine aw_ret ?_
    simp only [go_sem, ↓reduceIte, c2, athen_ret] <;> (
      have hb : decide (trimS (cutMinus s) = []) = (cutMinus s).all digitB := by rw [Bool.eq_iff_iff, decide_eq_true_iff]; exact trimS_nil _
      rw [hb]
      simp [numericS, c2])

/-! ### IndexByte -/
theorem indexString_call (s : List UInt8) (c : UInt8) : PCall CX 122 [.str s, .int .u8 c.toNat] (· = .ret (.int .i64 (Lib.indexByte s c))) := by
  intro kn w vs hk hr
  obtain ⟨v, vs', rfl, h1, hr'⟩ := hr.uncons
  obtain ⟨u, vs'', rfl, h2, hr''⟩ := hr'.uncons
  have : vs'' = [] := List.eq_nil_of_length_eq_zero hr''.1.symm
  subst this
  cases h1
  cases h2
  refine .inr ⟨.int .i64 (Lib.indexByte s c), w, ?_, .ret (.int .i64 (Lib.indexByte s c)), kn, rfl, .int _ _, hk, Below.refl _ _, fun _ _ => rfl⟩
  refine (run_callFunc_extern (P := CX.P) (e := Extern.BytealgIndexByte.indexByte) (fn := Tryd.f122) Tryd.func122 (by decide) rfl (by kernel_rfl) (by kernel_rfl) _ w).trans ?_
  have h := Lib.run_indexByteString (P := CX.P) ⟨s.toArray⟩ c.toNat w
  rw [show (#[Value.string ⟨s.toArray⟩, .int .u8 (c.toNat : Int)] : Array Value) = [Value.string ⟨s.toArray⟩, .int .u8 (c.toNat : Int)].toArray from rfl] at h
  rw [h]
  simp [Result.andThen]
theorem slIndexByte_call (s : List UInt8) (c : UInt8) : PCall CX 111 [.str s, .int .u8 c.toNat] (· = .ret (.int .i64 (Lib.indexByte s c))) := by
  refine pcall_mk 0 8 [.tmp 4] Tryd.func111 rfl (by decide) rfl rfl rfl ?_
  refine aw_sreg {} rfl rfl fun K KP hK hP => ?_
  simp only [go_sem, ↓reduceIte]
  apply hK; clear hK hP
  refine aw_sreg {} rfl rfl fun K KP hK hP => ?_
  simp only [go_sem, ↓reduceIte]
  refine CallP.ret (indexString_call s c) (by simp only [go_sem]) ?_
  try simp only [go_sem, ↓reduceIte]
  apply hK; clear hK hP
  refine aw_ret ?_
  simp only [go_sem, ↓reduceIte, athen_ret]
theorem indexByte_call (s : List UInt8) (c : UInt8) : PCall CX 98 [.str s, .int .u8 c.toNat] (· = .ret (.int .i64 (Lib.indexByte s c))) := by
  refine pcall_mk 0 8 [.tmp 4] Tryd.func98 rfl (by decide) rfl rfl rfl ?_
  refine aw_sreg {} rfl rfl fun K KP hK hP => ?_
  simp only [go_sem, ↓reduceIte]
  apply hK; clear hK hP
  refine aw_sreg {} rfl rfl fun K KP hK hP => ?_
  simp only [go_sem, ↓reduceIte]
  refine CallP.ret (slIndexByte_call s c) (by simp only [go_sem]) ?_
  try simp only [go_sem, ↓reduceIte]
  apply hK; clear hK hP
  refine aw_ret ?_
  simp only [go_sem, ↓reduceIte, athen_ret]
def outsideS (c : UInt8) : Bool := decide (c.toNat < 33) || decide (126 < c.toNat) || decide (c ∈ ([40, 41, 34, 59] : List UInt8))
theorem indexByte_four (c : UInt8) : (0 ≤ Lib.indexByte [40, 41, 34, 59] c) ↔ c ∈ ([40, 41, 34, 59] : List UInt8) := by
  revert c
  have : ∀ n : Fin 256, (0 ≤ Lib.indexByte [40, 41, 34, 59] (UInt8.ofFin n)) ↔ (UInt8.ofFin n) ∈ ([40, 41, 34, 59] : List UInt8) := by decide +kernel
  exact fun c => this c.toFin
theorem outside_call (c : UInt8) : PCall CX 88 [.int .u8 c.toNat] (· = .ret (.bool (outsideS c))) := by
  refine pcall_mk 0 14 [.tmp 2] Tryd.func88 rfl (by decide) rfl rfl rfl ?_
  refine aw_sreg {} rfl rfl fun K KP hK hP => ?_
  simp only [go_sem, ↓reduceIte]
  apply hK; clear hK hP
  by_cases c1_0 : ((c.toNat : Nat) : Int) < 33
  ·
    refine aw_sreg {} rfl rfl fun K KP hK hP => ?_
    simp only [go_sem, ↓reduceIte, c1_0]
    apply hK; clear hK hP
    refine aw_ret ?_
    simp only [go_sem, ↓reduceIte, c1_0, athen_ret] <;> (
      have : c.toNat < 33 := by omega
      simp [outsideS, this])
  ·
    by_cases c1_1 : 126 < ((c.toNat : Nat) : Int)
    ·
      refine aw_sreg {} rfl rfl fun K KP hK hP => ?_
      simp only [go_sem, ↓reduceIte, c1_0, c1_1]
      apply hK; clear hK hP
      refine aw_ret ?_
      simp only [go_sem, ↓reduceIte, c1_0, c1_1, athen_ret] <;> (
        have : 126 < c.toNat := by omega
        simp [outsideS, this])
    ·
      refine aw_sreg {} rfl rfl fun K KP hK hP => ?_
      simp only [go_sem, ↓reduceIte, c1_0, c1_1]
      refine CallP.ret (indexByte_call _ c) (by simp only [go_sem]) ?_
      try simp only [go_sem, ↓reduceIte, c1_0, c1_1]
      apply hK; clear hK hP
      refine aw_ret ?_
      simp only [go_sem, ↓reduceIte, c1_0, c1_1, athen_ret] <;> (
        have h1 : ¬ c.toNat < 33 := by omega
        have h2 : ¬ 126 < c.toNat := by omega
        have h3 : decide (0 ≤ Lib.indexByte [40, 41, 34, 59] c) = decide (c ∈ ([40, 41, 34, 59] : List UInt8)) := by rw [Bool.eq_iff_iff, decide_eq_true_iff, decide_eq_true_iff]; exact indexByte_four c
        rw [h3]
        simp [outsideS, h1, h2])
end Go.Ab
