/-
  FORMS: sizes and order. Plain laws.
-/
import Derived.Test.YtdagildojaagiaaGreatDoorZ10
import Derived.Lib.Bytealg
set_option linter.unusedVariables false
set_option linter.unusedSimpArgs false
set_option maxRecDepth 100000
namespace Go.Ab
open Go Go.RowKit Go.Proofs
@[go_sem] theorem ofVal_string (l : List UInt8) : ofVal (.string ⟨l.toArray⟩) = .str l := by simp [ofVal]
theorem hasPrefix_call (s p : List UInt8) : PCall CX 214 [.str s, .str p] (· = .ret (.bool (decide (p.length ≤ s.length ∧ s.take p.length = p)))) := by
 refine pcall_mk 0 18 [.tmp 4] Tryz.func214 rfl (by decide) rfl rfl rfl ?_
 refine aw_sreg {} rfl rfl fun K KP hK hP => ?_
 simp only [go_sem, ↓reduceIte]
 apply hK; clear hK hP
 by_cases c1 : p.length ≤ s.length
 ·
  refine aw_sreg {} rfl rfl fun K KP hK hP => ?_
  simp only [go_sem, ↓reduceIte, c1]
  apply hK; clear hK hP
  refine aw_ret ?_
  simp only [go_sem, ↓reduceIte, c1, athen_ret] <;> (
   simp [c1])
 ·
  refine aw_sreg {} rfl rfl fun K KP hK hP => ?_
  simp only [go_sem, ↓reduceIte, c1]
  apply hK; clear hK hP
  refine aw_ret ?_
  simp only [go_sem, ↓reduceIte, c1, athen_ret] <;> (
   simp [c1])
theorem slTrimPrefix_call (s p : List UInt8) : PCall CX 186 [.str s, .str p] (· = .ret (.str (if p.length ≤ s.length ∧ s.take p.length = p then s.drop p.length else s))) := by
 refine pcall_mk 0 13 [.tmp 4] Tryz.func186 rfl (by decide) rfl rfl rfl ?_
 refine aw_sreg {} rfl rfl fun K KP hK hP => ?_
 simp only [go_sem, ↓reduceIte]
 apply hK; clear hK hP
 refine aw_seq ?_
 refine aw_sreg {} rfl rfl fun K KP hK hP => ?_
 simp only [go_sem, ↓reduceIte]
 refine CallP.ret (hasPrefix_call s p) (by simp only [go_sem]) ?_
 try simp only [go_sem, ↓reduceIte]
 apply hK; clear hK hP
 refine aw_if (p.length ≤ s.length ∧ s.take p.length = p) (by simp only [go_sem, ↓reduceIte]) (fun h1 => ?_) (fun h1 => ?_)
 ·
  refine aw_sreg {} rfl rfl fun K KP hK hP => ?_
  simp only [go_sem, ↓reduceIte, h1.1]
  apply hK; clear hK hP
  refine aw_ret ?_
  refine athen_ret.2 ?_
  simp only [go_sem, ↓reduceIte, athen_ret] <;> (
   rw [if_pos h1]; try (rw [List.take_of_length_le (by simp)]))
 ·
  refine aw_skip ?_
  refine athen_normal.2 ?_
  refine aw_sreg {} rfl rfl fun K KP hK hP => ?_
  simp only [go_sem, ↓reduceIte]
  apply hK; clear hK hP
  refine aw_ret ?_
  simp only [go_sem, ↓reduceIte, athen_ret] <;> (
   rw [if_neg h1])
theorem trimPrefix_call (s p : List UInt8) : PCall CX 166 [.str s, .str p] (· = .ret (.str (if p.length ≤ s.length ∧ s.take p.length = p then s.drop p.length else s))) := by
 refine pcall_mk 0 8 [.tmp 4] Tryz.func166 rfl (by decide) rfl rfl rfl ?_
 refine aw_sreg {} rfl rfl fun K KP hK hP => ?_
 simp only [go_sem, ↓reduceIte]
 apply hK; clear hK hP
 refine aw_sreg {} rfl rfl fun K KP hK hP => ?_
 simp only [go_sem, ↓reduceIte]
 refine CallP.ret (slTrimPrefix_call s p) (by simp only [go_sem]) ?_
 try simp only [go_sem, ↓reduceIte]
 apply hK; clear hK hP
 refine aw_ret ?_
 simp only [go_sem, ↓reduceIte, athen_ret]
def setA (l : List UInt8) : List AV := (List.range 256).map fun c => .bool (decide (UInt8.ofNat c ∈ l))
@[go_sem] theorem length_setA (l : List UInt8) : (setA l).length = 256 := by simp [setA]
theorem setA_nil : setA [] = List.replicate 256 (.bool false) := by kernel_rfl
theorem setA_drop (l : List UInt8) (c : UInt8) : ((setA l).drop c.toNat).head? = some (.bool (decide (c ∈ l))) := by
 have hc : c.toNat < 256 := c.toNat_lt
 rw [List.head?_drop]
 simp [setA, hc]
theorem setA_get (l : List UInt8) (k : Nat) (h : k < 256) : (setA l)[k]? = some (.bool (decide (UInt8.ofNat k ∈ l))) := by simp [setA, h]
theorem setA_put (l : List UInt8) (c : UInt8) : (setA l).take c.toNat ++ .bool true :: (setA l).drop (c.toNat + 1) = setA (l ++ [c]) := by
 have hc : c.toNat < 256 := c.toNat_lt
 apply List.ext_getElem?
 intro k
 rcases Nat.lt_or_ge k 256 with hk | hk
 ·rw [setA_get _ _ hk]
  rcases Nat.lt_trichotomy k c.toNat with h | h | h
  ·rw [List.getElem?_append_left (by simp [length_setA]; omega), List.getElem?_take, if_pos h, setA_get _ _ hk]
   have : UInt8.ofNat k ≠ c := fun e => by
    have := congrArg UInt8.toNat e
    simp at this; omega
   simp [this]
  ·subst h
   rw [List.getElem?_append_right (by simp [length_setA] <;> omega), show c.toNat - ((setA l).take c.toNat).length = 0 by simp [length_setA] <;> omega]
   simp
  ·rw [List.getElem?_append_right (by simp [length_setA]; omega)]
   have e : k - ((setA l).take c.toNat).length = (k - c.toNat - 1) + 1 := by simp [length_setA]; omega
   rw [e, List.getElem?_cons_succ, List.getElem?_drop, show c.toNat + 1 + (k - c.toNat - 1) = k by omega, setA_get _ _ hk]
   have : UInt8.ofNat k ≠ c := fun e => by
    have := congrArg UInt8.toNat e
    simp at this; omega
   simp [this]
 ·rw [List.getElem?_eq_none (by simp [length_setA]; omega), List.getElem?_eq_none (by simp [length_setA]; omega)]
theorem u8_lt (c : UInt8) : c.toNat < 256 := c.toNat_lt
theorem u8_lti (c : UInt8) : (c.toNat : Int) < 256 := by have := c.toNat_lt; omega
theorem contains_call (σ : Sto) (nx p nm : Nat) (l : List UInt8) (c : UInt8) (hs : sget σ p nm = some (.cells 216 (setA l))) : ACall CX 215 [.ref p nm 0, .int .u8 c.toNat] σ nx (Gets (.bool (decide (c ∈ l))) σ nx) := by
 refine acall_mk 10 [.tmp 4] Tryz.func215 rfl (by decide) rfl rfl rfl ?_
 have hc := u8_lti c
 have hc' := u8_lt c
 refine aw_sreg {} rfl rfl fun K KP hK hP => ?_
 simp only [go_sem, ↓reduceIte]
 apply hK; clear hK hP
 refine aw_sreg {} rfl rfl fun K KP hK hP => ?_
 simp only [go_sem, ↓reduceIte, hc, hc', hs, Nat.mul_one, setA_drop]
 apply hK; clear hK hP
 refine aw_ret ?_
 simp only [go_sem, ↓reduceIte, athen_ret]
def trimRi (p : UInt8 → Bool) (s : List UInt8) : Nat → List UInt8
 | 0 => []
 | i + 1 => if p (s.getD i 0) then trimRi p s i else s.take (i + 1)
theorem trimRight_call (σ : Sto) (nx p nm : Nat) (l s : List UInt8) (hs : sget σ p nm = some (.cells 216 (setA l))) (hl : s.length ≤ 4611686018427387904) : ACall CX 191 [.str s, .ref p nm 0] σ nx (Gets (.str (trimRi (fun c => decide (c ∈ l)) s s.length)) σ nx) := by
 refine acall_mk 22 [.tmp 4] Tryz.func191 rfl (by decide) rfl rfl rfl ?_
 refine aw_sreg {} rfl rfl fun K KP hK hP => ?_
 simp only [go_sem, ↓reduceIte]
 apply hK; clear hK hP
 refine aw_seq ?_
 refine aw_block ?_
 refine aw_loop' (fun dd st => ∃ (i : Nat), (i ≤ s.length) ∧ (trimRi (fun c => decide (c ∈ l)) s i = trimRi (fun c => decide (c ∈ l)) s s.length) ∧ i = dd ∧ σ = st.σ ∧ nx = st.nx ∧ st.env 0 = .str (s.take i) ∧ st.env 1 = .ref p nm 0) (fun dd st hJ => ?_) ?_
 ·
  obtain ⟨env0, σ0, nx0⟩ := st
  obtain ⟨i, hp0_0, hp0_1, hd0, hs0, hn0, e0_0, e0_1⟩ := hJ
  dsimp only at hs0 hn0 e0_0 e0_1
  subst hd0; subst hs0; subst hn0
  have hlen : (s.take i).length = i := by simp; omega
  refine aw_seq ?_
  refine aw_sreg {} rfl rfl fun K KP hK hP => ?_
  simp only [go_sem, ↓reduceIte, e0_0, e0_1, hlen]
  apply hK; clear hK hP
  refine aw_if (0 < i) (by simp only [go_sem, ↓reduceIte, e0_0, e0_1, hlen]) (fun h1 => ?_) (fun h1 => ?_)
  ·
   have hx : s[i - 1]? = some (s.getD (i - 1) 0) := by simp [show i - 1 < s.length by omega]
   have hx1 : (s.take i)[i - 1]? = some (s.getD (i - 1) 0) := by rw [List.getElem?_take, if_pos (by omega)]; exact hx
   have hw : IntKind.wrap .i64 ((i : Int) - 1) = ((i - 1 : Nat) : Int) := by rw [wrap64 (by omega) (by omega)]; omega
   have hm : i - 1 ≤ i := by omega
   have ht : (s.take i).take (i - 1) = s.take (i - 1) := by rw [List.take_take]; congr 1; omega
   refine aw_skip ?_
   refine athen_normal.2 ?_
   refine aw_block ?_
   refine aw_seq ?_
   refine aw_sreg { ac := [14] } rfl rfl fun K KP hK hP => ?_
   simp only [go_sem, ↓reduceIte, e0_0, e0_1, hlen, hx1, hw, hm, ht]
   refine CallP.acall (contains_call σ nx p nm l _ hs) ?_
   try simp only [go_sem, ↓reduceIte, e0_0, e0_1, hlen, hx1, hw, hm, ht]
   apply hK; clear hK hP
   refine aw_if (¬ (s.getD (i - 1) 0) ∈ l) (by simp only [go_sem, ↓reduceIte, e0_0, e0_1, hlen, hx1, hw, hm, ht]) (fun h2 => ?_) (fun h2 => ?_)
   ·
    refine aw_exit ?_
    refine athen_exit.2 ?_
    refine ablock_pass rfl ?_
    refine athen_exit.2 ?_
    refine ablock_here ?_
    refine athen_normal.2 ?_
    refine aw_sreg {} rfl rfl fun K KP hK hP => ?_
    simp only [go_sem, ↓reduceIte, e0_0, e0_1, hlen, hx1, hw, hm, ht]
    apply hK; clear hK hP
    refine aw_ret ?_
    simp only [go_sem, ↓reduceIte, e0_0, e0_1, hlen, hx1, hw, hm, ht, athen_ret] <;> (
     rw [← hp0_1]
     cases i with
     | zero => simp [trimRi]
     | succ j => first | (exfalso; omega) | (simp only [trimRi]; rw [if_neg (by simpa using h2)]))
   ·
    refine aw_skip ?_
    refine athen_normal.2 ?_
    refine aw_lreg {} rfl rfl fun K KP hK hP => ?_
    simp only [go_sem, ↓reduceIte, e0_0, e0_1, hlen, hx1, hw, hm, ht]
    apply hK; clear hK hP
    refine ablock_normal.2 ?_
    refine athen_normal.2 ?_
    refine ⟨_, ?_, (i - 1), ?_, ?_, rfl, rfl, rfl, ?_, ?_⟩
    ·omega
    ·first | omega | trivial | assumption
    ·rw [← hp0_1]
     cases i with
     | zero => rfl
     | succ j => simp only [Nat.add_sub_cancel, trimRi]; rw [if_pos (by simpa using h2)]
    ·simp only [go_sem, ↓reduceIte, e0_0, e0_1, hlen, hx1, hw, hm, ht] <;> try rfl
    ·simp only [go_sem, ↓reduceIte, e0_0, e0_1, hlen, hx1, hw, hm, ht] <;> try rfl
  ·
   refine aw_exit ?_
   refine athen_exit.2 ?_
   refine athen_exit.2 ?_
   refine ablock_here ?_
   refine athen_normal.2 ?_
   refine aw_sreg {} rfl rfl fun K KP hK hP => ?_
   simp only [go_sem, ↓reduceIte, e0_0, e0_1, hlen]
   apply hK; clear hK hP
   refine aw_ret ?_
   simp only [go_sem, ↓reduceIte, e0_0, e0_1, hlen, athen_ret] <;> (
    rw [← hp0_1]
    cases i with
    | zero => simp [trimRi]
    | succ j => first | (exfalso; omega) | (simp only [trimRi]; rw [if_neg (by simpa using h2)]))
 ·
  refine ⟨_, s.length, ?_, ?_, rfl, ?_, rfl, ?_, ?_⟩
  ·first | omega | trivial | assumption
  ·first | omega | trivial | assumption
  ·first | rfl | (simp only [go_sem, ↓reduceIte])
  ·simp only [go_sem, ↓reduceIte] <;> try rfl
  ·simp only [go_sem, ↓reduceIte] <;> try rfl
theorem trimLeft_call (σ : Sto) (nx p nm : Nat) (l s : List UInt8) (hs : sget σ p nm = some (.cells 216 (setA l))) : ACall CX 190 [.str s, .ref p nm 0] σ nx (Gets (.str (s.dropWhile fun c => decide (c ∈ l))) σ nx) := by
 refine acall_mk 16 [.tmp 4] Tryz.func190 rfl (by decide) rfl rfl rfl ?_
 refine aw_sreg {} rfl rfl fun K KP hK hP => ?_
 simp only [go_sem, ↓reduceIte]
 apply hK; clear hK hP
 refine aw_seq ?_
 refine aw_block ?_
 refine aw_loop' (fun dd st => ∃ (r : List UInt8), (r.dropWhile (fun c => decide (c ∈ l)) = s.dropWhile fun c => decide (c ∈ l)) ∧ r.length = dd ∧ σ = st.σ ∧ nx = st.nx ∧ st.env 0 = .str r ∧ st.env 1 = .ref p nm 0) (fun dd st hJ => ?_) ?_
 ·
  obtain ⟨env0, σ0, nx0⟩ := st
  obtain ⟨r, hp0_0, hd0, hs0, hn0, e0_0, e0_1⟩ := hJ
  dsimp only at hs0 hn0 e0_0 e0_1
  subst hd0; subst hs0; subst hn0
  refine aw_seq ?_
  refine aw_sreg {} rfl rfl fun K KP hK hP => ?_
  simp only [go_sem, ↓reduceIte, e0_0, e0_1]
  apply hK; clear hK hP
  refine aw_if (0 < r.length) (by simp only [go_sem, ↓reduceIte, e0_0, e0_1]) (fun h1 => ?_) (fun h1 => ?_)
  ·
   obtain ⟨c, r', rfl⟩ : ∃ c r', r = c :: r' := by cases r with | nil => simp at h1 | cons c r' => exact ⟨c, r', rfl⟩
   have h11 : (1 : Int) ≤ ((r'.length + 1 : Nat) : Int) := by omega
   refine aw_skip ?_
   refine athen_normal.2 ?_
   refine aw_block ?_
   refine aw_seq ?_
   refine aw_sreg { ac := [11] } rfl rfl fun K KP hK hP => ?_
   simp only [go_sem, ↓reduceIte, e0_0, e0_1, h11]
   refine CallP.acall (contains_call σ nx p nm l _ hs) ?_
   try simp only [go_sem, ↓reduceIte, e0_0, e0_1, h11]
   apply hK; clear hK hP
   refine aw_if (¬ c ∈ l) (by simp only [go_sem, ↓reduceIte, e0_0, e0_1, h11]) (fun h2 => ?_) (fun h2 => ?_)
   ·
    refine aw_exit ?_
    refine athen_exit.2 ?_
    refine ablock_pass rfl ?_
    refine athen_exit.2 ?_
    refine ablock_here ?_
    refine athen_normal.2 ?_
    refine aw_sreg {} rfl rfl fun K KP hK hP => ?_
    simp only [go_sem, ↓reduceIte, e0_0, e0_1, h11]
    apply hK; clear hK hP
    refine aw_ret ?_
    simp only [go_sem, ↓reduceIte, e0_0, e0_1, h11, athen_ret] <;> (
     rw [← hp0_0]
     first | (cases r with | nil => rfl | cons => simp at h1) | (rw [List.dropWhile_cons, if_neg (by simpa using h2)]))
   ·
    refine aw_skip ?_
    refine athen_normal.2 ?_
    refine aw_lreg {} rfl rfl fun K KP hK hP => ?_
    simp only [go_sem, ↓reduceIte, e0_0, e0_1, h11]
    apply hK; clear hK hP
    refine ablock_normal.2 ?_
    refine athen_normal.2 ?_
    refine ⟨_, ?_, r', ?_, rfl, rfl, rfl, ?_, ?_⟩
    ·simp
    ·rw [← hp0_0, List.dropWhile_cons, if_pos (by simpa using h2)]
    ·simp only [go_sem, ↓reduceIte, e0_0, e0_1, h11] <;> try rfl
    ·simp only [go_sem, ↓reduceIte, e0_0, e0_1, h11] <;> try rfl
  ·
   refine aw_exit ?_
   refine athen_exit.2 ?_
   refine athen_exit.2 ?_
   refine ablock_here ?_
   refine athen_normal.2 ?_
   refine aw_sreg {} rfl rfl fun K KP hK hP => ?_
   simp only [go_sem, ↓reduceIte, e0_0, e0_1]
   apply hK; clear hK hP
   refine aw_ret ?_
   simp only [go_sem, ↓reduceIte, e0_0, e0_1, athen_ret] <;> (
    rw [← hp0_0]
    first | (cases r with | nil => rfl | cons => simp at h1) | (rw [List.dropWhile_cons, if_neg (by simpa using h2)]))
 ·
  refine ⟨_, s, ?_, rfl, ?_, rfl, ?_, ?_⟩
  ·first | omega | trivial | assumption
  ·first | rfl | (simp only [go_sem, ↓reduceIte])
  ·simp only [go_sem, ↓reduceIte] <;> try rfl
  ·simp only [go_sem, ↓reduceIte] <;> try rfl
theorem loadC_setA (l : List UInt8) : loadC Tryz.prog 216 (setA l) = some (.agg (setA l)) := by
 have h := length_setA l
 simp only [loadC, aggT_216, szT_216, h, Nat.le_refl, if_true]
 rw [List.take_of_length_le (by omega)]
theorem makeSet_call (s : List UInt8) (hs : ∀ c ∈ s, c < 128) (hl : s.length ≤ 4611686018427387904) : PCall CX 189 [.str s] (· = .ret (.tup [.agg (setA s), .bool true])) := by
 have hd : ∀ l, (setA l).drop 256 = [] := fun l => List.drop_of_length_le (by simp [length_setA])
 refine pcall_mk 0 21 [.cell 2 216, .tmp 3] Tryz.func189 rfl (by decide) rfl rfl rfl ?_
 refine aw_sreg {} rfl (by simp only [allocObjs, go_sem]; rfl) fun K KP hK hP => ?_
 simp only [go_sem, ↓reduceIte]
 apply hK; clear hK hP
 refine aw_seq ?_
 refine aw_sreg {} rfl rfl fun K KP hK hP => ?_
 simp only [go_sem, ↓reduceIte]
 apply hK; clear hK hP
 refine aw_block ?_
 refine aw_loop' (fun dd st => ∃ (i : Nat), (i ≤ s.length) ∧ s.length - i = dd ∧ [(0, .cells 216 (setA (s.take i)))] = st.σ ∧ st.env 0 = .str s ∧ st.env 2 = .ref 0 0 0 ∧ st.env 4 = .int .i64 (i : Nat)) (fun dd st hJ => ?_) ?_
 ·
  obtain ⟨env0, σ0, nx0⟩ := st
  obtain ⟨i, hp0_0, hd0, hs0, e0_0, e0_2, e0_4⟩ := hJ
  dsimp only at hs0  e0_0 e0_2 e0_4
  subst hd0; subst hs0
  refine aw_forget' 1 rfl ?_
  refine aw_seq ?_
  refine aw_sreg {} rfl rfl fun K KP hK hP => ?_
  simp only [go_sem, ↓reduceIte, e0_0, e0_2, e0_4]
  apply hK; clear hK hP
  refine aw_if (i < s.length) (by simp only [go_sem, ↓reduceIte, e0_0, e0_2, e0_4]) (fun h2 => ?_) (fun h2 => ?_)
  ·
   have hx : s[i]? = some s[i] := List.getElem?_eq_getElem h2
   have hlt := hs _ (List.getElem_mem h2)
   have hln : ¬ (128 : Int) ≤ (s[i].toNat : Int) := by have : s[i].toNat < 128 := hlt; omega
   have hc := u8_lti s[i]
   have hc' := u8_lt s[i]
   have hw : IntKind.wrap .i64 ((i : Int) + 1) = ((i + 1 : Nat) : Int) := by rw [wrap64 (by omega) (by omega)]; omega
   have ht : setA (s.take i ++ [s[i]]) = setA (s.take (i + 1)) := by rw [List.take_succ_eq_append_getElem h2]
   refine aw_skip ?_
   refine athen_normal.2 ?_
   refine aw_seq ?_
   refine aw_block ?_
   refine aw_sreg {} rfl rfl fun K KP hK hP => ?_
   simp only [go_sem, ↓reduceIte, e0_0, e0_2, e0_4, hx, hln, hc, hc', hw]
   apply hK; clear hK hP
   refine aw_seq ?_
   refine aw_sreg {} rfl rfl fun K KP hK hP => ?_
   simp only [go_sem, ↓reduceIte, e0_0, e0_2, e0_4, hx, hln, hc, hc', hw]
   apply hK; clear hK hP
   refine aw_if (False) (by simp only [go_sem, ↓reduceIte, e0_0, e0_2, e0_4, hx, hln, hc, hc', hw]) (fun h5 => ?_) (fun h5 => ?_)
   ·
    exact h5.elim
   ·
    refine aw_skip ?_
    refine athen_normal.2 ?_
    refine aw_lreg {} rfl rfl fun K KP hK hP => ?_
    simp only [go_sem, ↓reduceIte, e0_0, e0_2, e0_4, hx, hln, hc, hc', hw, Nat.mul_one, setA_put, ht, Nat.succ_le_of_lt hc']
    apply hK; clear hK hP
    refine ablock_normal.2 ?_
    refine athen_normal.2 ?_
    refine aw_lreg {} rfl rfl fun K KP hK hP => ?_
    simp only [go_sem, ↓reduceIte, e0_0, e0_2, e0_4, hx, hln, hc, hc', hw]
    apply hK; clear hK hP
    refine afor_one ?_
    refine athen_normal.2 ?_
    refine ⟨_, ?_, i + 1, ?_, rfl, rfl, ?_, ?_, ?_⟩
    ·omega
    ·first | omega | trivial | assumption
    ·simp only [go_sem, ↓reduceIte, e0_0, e0_2, e0_4, hx, hln, hc, hc', hw] <;> try rfl
    ·simp only [go_sem, ↓reduceIte, e0_0, e0_2, e0_4, hx, hln, hc, hc', hw] <;> try rfl
    ·simp only [go_sem, ↓reduceIte, e0_0, e0_2, e0_4, hx, hln, hc, hc', hw] <;> try rfl
  ·
   refine aw_exit ?_
   refine athen_exit.2 ?_
   refine afor_one ?_
   refine athen_exit.2 ?_
   refine ablock_here ?_
   refine athen_normal.2 ?_
   refine aw_sreg {} rfl rfl fun K KP hK hP => ?_
   simp only [go_sem, ↓reduceIte, e0_0, e0_2, e0_4, loadC_setA, hd]
   apply hK; clear hK hP
   refine aw_ret ?_
   simp only [go_sem, ↓reduceIte, e0_0, e0_2, e0_4, athen_ret, loadC_setA] <;> (
    have hi : i = s.length := by omega
    subst hi
    simp only [List.take_length]
    refine ⟨?_, trivial⟩
    refine (RFL_iff _).2 fun x hx => ?_
    obtain ⟨c, _, rfl⟩ := List.mem_map.1 hx
    trivial)
 ·
  refine ⟨_, 0, ?_, rfl, ?_, ?_, ?_, ?_⟩
  ·first | omega | trivial | assumption
  ·simp only [List.take_zero, setA_nil]
  ·simp only [go_sem, ↓reduceIte] <;> try rfl
  ·simp only [go_sem, ↓reduceIte] <;> try rfl
  ·simp only [go_sem, ↓reduceIte] <;> try rfl
def digitsL : List UInt8 := [48, 49, 50, 51, 52, 53, 54, 55, 56, 57]
def trimS (s : List UInt8) : List UInt8 := (trimRi (fun c => decide (c ∈ digitsL)) s s.length).dropWhile fun c => decide (c ∈ digitsL)
theorem trim_call (s : List UInt8) (hl : s.length ≤ 4611686018427387904) : PCall CX 167 [.str s, .str digitsL] (· = .ret (.str (trimS s))) := by
 have hdl : ((digitsL.length : Nat) : Int) = 10 := rfl
 have hne : digitsL ≠ [] := by decide
 refine pcall_mk 0 43 [.tmp 4] Tryz.func167 rfl (by decide) rfl rfl rfl ?_
 refine aw_sreg {} rfl rfl fun K KP hK hP => ?_
 simp only [go_sem, ↓reduceIte]
 apply hK; clear hK hP
 refine aw_seq ?_
 by_cases c1 : s = []
 ·
  refine aw_sreg {} rfl rfl fun K KP hK hP => ?_
  simp only [go_sem, ↓reduceIte, c1, hne]
  apply hK; clear hK hP
  refine aw_if (True) (by simp only [go_sem, ↓reduceIte, c1]) (fun h1 => ?_) (fun h1 => ?_)
  ·
   refine aw_sreg {} rfl rfl fun K KP hK hP => ?_
   simp only [go_sem, ↓reduceIte, c1]
   apply hK; clear hK hP
   refine aw_ret ?_
   refine athen_ret.2 ?_
   simp only [go_sem, ↓reduceIte, c1, athen_ret] <;> (
    simp [trimS, trimRi, c1])
  ·
   exact absurd trivial h1
 ·
  refine aw_sreg {} rfl rfl fun K KP hK hP => ?_
  simp only [go_sem, ↓reduceIte, c1, hne]
  apply hK; clear hK hP
  refine aw_if (False) (by simp only [go_sem, ↓reduceIte, c1]) (fun h1 => ?_) (fun h1 => ?_)
  ·
   exact h1.elim
  ·
   refine aw_skip ?_
   refine athen_normal.2 ?_
   refine aw_seq ?_
   refine aw_sreg {} rfl rfl fun K KP hK hP => ?_
   simp only [go_sem, ↓reduceIte, c1, hdl]
   apply hK; clear hK hP
   refine aw_if (False) (by simp only [go_sem, ↓reduceIte, c1]) (fun h3 => ?_) (fun h3 => ?_)
   ·
    exact h3.elim
   ·
    refine aw_skip ?_
    refine athen_normal.2 ?_
    refine aw_seq ?_
    refine aw_sreg {} rfl (by simp only [allocObjs, go_sem]; rfl) fun K KP hK hP => ?_
    simp only [go_sem, ↓reduceIte, c1]
    refine CallP.ret (makeSet_call digitsL (by decide) (by decide)) (by simp only [go_sem]) ?_
    try simp only [go_sem, ↓reduceIte, c1]
    apply hK; clear hK hP
    refine aw_sreg {} rfl rfl fun K KP hK hP => ?_
    simp only [go_sem, ↓reduceIte, c1]
    apply hK; clear hK hP
    refine aw_if (True) (by simp only [go_sem, ↓reduceIte, c1]) (fun h6 => ?_) (fun h6 => ?_)
    ·
     refine aw_sreg { ac := [36, 37] } rfl rfl fun K KP hK hP => ?_
     simp only [go_sem, ↓reduceIte, c1]
     refine CallP.acall (trimRight_call _ _ 0 0 digitsL s rfl hl) ?_
     try simp only [go_sem, ↓reduceIte, c1]
     refine CallP.acall (trimLeft_call _ _ 0 0 digitsL _ rfl) ?_
     try simp only [go_sem, ↓reduceIte, c1]
     apply hK; clear hK hP
     refine aw_ret ?_
     refine athen_ret.2 ?_
     simp only [go_sem, ↓reduceIte, c1, athen_ret] <;> (
      rfl)
    ·
     exact absurd trivial h6
theorem dropWhile_nil (p : UInt8 → Bool) : ∀ l : List UInt8, l.dropWhile p = [] ↔ ∀ c ∈ l, p c = true
 | [] => by simp
 | c :: l => by
  rw [List.dropWhile_cons]
  split
  ·rename_i h; rw [dropWhile_nil p l]; simp [h]
  ·rename_i h; simp [h]
theorem trimRi_nil (p : UInt8 → Bool) (s : List UInt8) : ∀ i, i ≤ s.length → ((trimRi p s i).dropWhile p = [] ↔ ∀ c ∈ s.take i, p c = true)
 | 0, _ => by simp [trimRi]
 | i + 1, h => by
  have hx : s.getD i 0 = s[i] := by simp [show i < s.length by omega]
  simp only [trimRi, hx]
  rw [List.take_succ_eq_append_getElem (by omega)]
  split
  ·rename_i hp
   rw [trimRi_nil p s i (by omega)]
   constructor
   ·intro h1 c hc
    rcases List.mem_append.1 hc with hc | hc
    ·exact h1 c hc
    ·simp at hc; subst hc; exact hp
   ·intro h1 c hc; exact h1 c (List.mem_append.2 (.inl hc))
  ·rename_i hp
   constructor
   ·intro h1
    exact (dropWhile_nil p _).1 h1
   ·intro h1
    exact absurd (h1 s[i] (List.mem_append.2 (.inr (by simp)))) hp
def digitB (c : UInt8) : Bool := decide (c ∈ digitsL)
theorem trimS_nil (s : List UInt8) : trimS s = [] ↔ s.all digitB = true := by
 unfold trimS
 rw [trimRi_nil _ _ _ (Nat.le_refl _), List.take_length, List.all_eq_true]
 rfl
def cutMinus (s : List UInt8) : List UInt8 := if s.head? = some 45 then s.tail else s
def numericS (s : List UInt8) : Bool := decide (cutMinus s ≠ []) && (cutMinus s).all digitB
theorem cutMinus_eq (s : List UInt8) [Decidable ([45].length ≤ s.length ∧ s.take [45].length = [45])] : (if [45].length ≤ s.length ∧ s.take [45].length = [45] then s.drop [45].length else s) = cutMinus s := by
 unfold cutMinus
 cases s with
 | nil => simp
 | cons c r => by_cases h : c = 45 <;> simp [h]
theorem cutMinus_length (s : List UInt8) : (cutMinus s).length ≤ s.length := by
 unfold cutMinus
 split
 ·simp
 ·exact Nat.le_refl _
theorem numeric_call (s : List UInt8) (hl : s.length ≤ 4611686018427387904) : PCall CX 140 [.str s] (· = .ret (.bool (numericS s))) := by
 have hcl := cutMinus_length s
 refine pcall_mk 0 12 [.tmp 2] Tryz.func140 rfl (by decide) rfl rfl rfl ?_
 refine aw_sreg {} rfl rfl fun K KP hK hP => ?_
 simp only [go_sem, ↓reduceIte]
 apply hK; clear hK hP
 refine aw_sreg {} rfl rfl fun K KP hK hP => ?_
 simp only [go_sem, ↓reduceIte]
 refine CallP.ret ((trimPrefix_call s [45]).mono fun o h => h.trans (congrArg (fun x => AOut.ret (.str x)) (cutMinus_eq s))) (by simp only [go_sem]) ?_
 try simp only [go_sem, ↓reduceIte]
 apply hK; clear hK hP
 by_cases c2 : cutMinus s = []
 ·
  refine aw_sreg {} rfl rfl fun K KP hK hP => ?_
  simp only [go_sem, ↓reduceIte, c2]
  apply hK; clear hK hP
  refine aw_ret ?_
  simp only [go_sem, ↓reduceIte, c2, athen_ret] <;> (
   simp [numericS, c2])
 ·
  refine aw_sreg {} rfl rfl fun K KP hK hP => ?_
  simp only [go_sem, ↓reduceIte, c2]
  refine CallP.ret (trim_call (cutMinus s) (by omega)) (by simp only [go_sem]) ?_
  try simp only [go_sem, ↓reduceIte, c2]
  apply hK; clear hK hP
  refine aw_ret ?_
  simp only [go_sem, ↓reduceIte, c2, athen_ret] <;> (
   have hb : decide (trimS (cutMinus s) = []) = (cutMinus s).all digitB := by rw [Bool.eq_iff_iff, decide_eq_true_iff]; exact trimS_nil _
   rw [hb]
   simp [numericS, c2])
theorem indexString_call (s : List UInt8) (c : UInt8) : PCall CX 213 [.str s, .int .u8 c.toNat] (· = .ret (.int .i64 (Lib.indexByte s c))) := by
 intro kn w vs hk hr
 obtain ⟨v, vs', rfl, h1, hr'⟩ := hr.uncons
 obtain ⟨u, vs'', rfl, h2, hr''⟩ := hr'.uncons
 have : vs'' = [] := List.eq_nil_of_length_eq_zero hr''.1.symm
 subst this
 cases h1
 cases h2
 refine .inr ⟨.int .i64 (Lib.indexByte s c), w, ?_, .ret (.int .i64 (Lib.indexByte s c)), kn, rfl, .int _ _, hk, Below.refl _ _, fun _ _ => rfl⟩
 refine (run_callFunc_extern (P := CX.P) (e := Extern.BytealgIndexByte.indexByte) (fn := Tryz.f213) Tryz.func213 (by decide) rfl (by kernel_rfl) (by kernel_rfl) _ w).trans ?_
 have h := Lib.run_indexByteString (P := CX.P) ⟨s.toArray⟩ c.toNat w
 rw [show (#[Value.string ⟨s.toArray⟩, .int .u8 (c.toNat : Int)] : Array Value) = [Value.string ⟨s.toArray⟩, .int .u8 (c.toNat : Int)].toArray from rfl] at h
 rw [h]
 simp [Result.andThen]
theorem slIndexByte_call (s : List UInt8) (c : UInt8) : PCall CX 185 [.str s, .int .u8 c.toNat] (· = .ret (.int .i64 (Lib.indexByte s c))) := by
 refine pcall_mk 0 8 [.tmp 4] Tryz.func185 rfl (by decide) rfl rfl rfl ?_
 refine aw_sreg {} rfl rfl fun K KP hK hP => ?_
 simp only [go_sem, ↓reduceIte]
 apply hK; clear hK hP
 refine aw_sreg {} rfl rfl fun K KP hK hP => ?_
 simp only [go_sem, ↓reduceIte]
 refine CallP.ret (indexString_call s c) (by simp only [go_sem]) ?_
 try simp only [go_sem, ↓reduceIte]
 apply hK; clear hK hP
 refine aw_ret ?_
 simp only [go_sem, ↓reduceIte, athen_ret]
theorem indexByte_call (s : List UInt8) (c : UInt8) : PCall CX 164 [.str s, .int .u8 c.toNat] (· = .ret (.int .i64 (Lib.indexByte s c))) := by
 refine pcall_mk 0 8 [.tmp 4] Tryz.func164 rfl (by decide) rfl rfl rfl ?_
 refine aw_sreg {} rfl rfl fun K KP hK hP => ?_
 simp only [go_sem, ↓reduceIte]
 apply hK; clear hK hP
 refine aw_sreg {} rfl rfl fun K KP hK hP => ?_
 simp only [go_sem, ↓reduceIte]
 refine CallP.ret (slIndexByte_call s c) (by simp only [go_sem]) ?_
 try simp only [go_sem, ↓reduceIte]
 apply hK; clear hK hP
 refine aw_ret ?_
 simp only [go_sem, ↓reduceIte, athen_ret]
def outsideS (c : UInt8) : Bool := decide (c.toNat < 33) || decide (126 < c.toNat) || decide (c ∈ ([40, 41, 34, 59] : List UInt8))
theorem indexByte_four (c : UInt8) : (0 ≤ Lib.indexByte [40, 41, 34, 59] c) ↔ c ∈ ([40, 41, 34, 59] : List UInt8) := by
 revert c
 have : ∀ n : Fin 256, (0 ≤ Lib.indexByte [40, 41, 34, 59] (UInt8.ofFin n)) ↔ (UInt8.ofFin n) ∈ ([40, 41, 34, 59] : List UInt8) := by decide +kernel
 exact fun c => this c.toFin
theorem outside_call (c : UInt8) : PCall CX 139 [.int .u8 c.toNat] (· = .ret (.bool (outsideS c))) := by
 refine pcall_mk 0 14 [.tmp 2] Tryz.func139 rfl (by decide) rfl rfl rfl ?_
 refine aw_sreg {} rfl rfl fun K KP hK hP => ?_
 simp only [go_sem, ↓reduceIte]
 apply hK; clear hK hP
 by_cases c1_0 : ((c.toNat : Nat) : Int) < 33
 ·
  refine aw_sreg {} rfl rfl fun K KP hK hP => ?_
  simp only [go_sem, ↓reduceIte, c1_0]
  apply hK; clear hK hP
  refine aw_ret ?_
  simp only [go_sem, ↓reduceIte, c1_0, athen_ret] <;> (
   have : c.toNat < 33 := by omega
   simp [outsideS, this])
 ·
  by_cases c1_1 : 126 < ((c.toNat : Nat) : Int)
  ·
   refine aw_sreg {} rfl rfl fun K KP hK hP => ?_
   simp only [go_sem, ↓reduceIte, c1_0, c1_1]
   apply hK; clear hK hP
   refine aw_ret ?_
   simp only [go_sem, ↓reduceIte, c1_0, c1_1, athen_ret] <;> (
    have : 126 < c.toNat := by omega
    simp [outsideS, this])
  ·
   refine aw_sreg {} rfl rfl fun K KP hK hP => ?_
   simp only [go_sem, ↓reduceIte, c1_0, c1_1]
   refine CallP.ret (indexByte_call _ c) (by simp only [go_sem]) ?_
   try simp only [go_sem, ↓reduceIte, c1_0, c1_1]
   apply hK; clear hK hP
   refine aw_ret ?_
   simp only [go_sem, ↓reduceIte, c1_0, c1_1, athen_ret] <;> (
    have h1 : ¬ c.toNat < 33 := by omega
    have h2 : ¬ 126 < c.toNat := by omega
    have h3 : decide (0 ≤ Lib.indexByte [40, 41, 34, 59] c) = decide (c ∈ ([40, 41, 34, 59] : List UInt8)) := by rw [Bool.eq_iff_iff, decide_eq_true_iff, decide_eq_true_iff]; exact indexByte_four c
    rw [h3]
    simp [outsideS, h1, h2])
end Go.Ab

set_option maxRecDepth 100000
namespace Go.Ab
open Go Go.RowKit Go.Proofs
def cloneF {α : Type} (b : Nat) (l : List α) : Option (Unit × List α × Unit) := cond (decide (l.length * b ≤ 140737488355328)) (some ((), (l, ()))) none
noncomputable def numericF (s : List UInt8) : Option Bool := if s.length ≤ 4611686018427387904 then some (numericS s) else none
noncomputable def S_numeric : Sig := .n [.d .str] (.d .bool) (fun x => numericF x.1)
theorem S_numeric_ok : SigOK CX 140 S_numeric := fun x r h => by
 have h : numericF x.1 = some r := h
 unfold numericF at h
 split at h
 ·rename_i hl; cases h; exact numeric_call x.1 hl
 ·cases h
noncomputable def outsideF (c : Int) : Option Bool := if 0 ≤ c ∧ c < 256 then some (outsideS (UInt8.ofNat c.toNat)) else none
noncomputable def S_outside : Sig := .n [.d (.int .u8)] (.d .bool) (fun x => outsideF x.1)
theorem u8_of {c : Int} (h : 0 ≤ c ∧ c < 256) : ((UInt8.ofNat c.toNat).toNat : Int) = c := by
 have e : c.toNat < 2 ^ 8 := by omega
 rw [UInt8.toNat_ofNat_of_lt' e]; omega
theorem outsideF_ok (c : Int) (r : Bool) (h : outsideF c = some r) : PCall CX 139 [.int .u8 c] (fun o => o = .ret (.bool r)) := by
 unfold outsideF at h
 split at h
 ·rename_i hl
  cases h
  have := outside_call (UInt8.ofNat c.toNat)
  rw [u8_of hl] at this
  exact this
 ·cases h
theorem S_outside_ok : SigOK CX 139 S_outside := fun x r h => outsideF_ok x.1 r h
end Go.Ab

set_option maxRecDepth 100000
namespace Go.Ab
open Go Go.RowKit Go.Proofs
noncomputable def G_sign (x0 : Bool) (x1 : Bool) : Option (Int) := (
 cond x0 (some (-1)) (cond x1 (some 1) (some 0)))
def A_sign : An := .leaf
def H_sign : Nat → RH := fun _ => {}
noncomputable def S_sign : Sig := .n [(.d .bool), (.d .bool)] (.d (.int .i64)) (fun x => G_sign x.1 x.2.1)
theorem S_sign_ok : SigOK CX 111 S_sign := sigN_of (l := []) trivial (hint := H_sign) (an := A_sign) (fun x => by kernel_rfl)
noncomputable def G_kids (x0 : Fm) : Option (List Fm) := (
 cond (decide (x0.k = 3)) (some x0.l) (some ([] : List Fm)))
def A_kids : An := .leaf
def H_kids : Nat → RH := fun _ => {}
noncomputable def S_kids : Sig := .n [(.d .form)] (.d (.slice .form)) (fun x => G_kids x.1)
theorem S_kids_ok : SigOK CX 80 S_kids := sigN_of (l := []) trivial (hint := H_kids) (an := A_kids) (fun x => by kernel_rfl)
noncomputable def G_head (x0 : Fm) : Option (List UInt8) := (
 Option.bind (α := List Fm) (G_kids (Fm.eta x0)) fun r1 => (
 cond ((ixOK 0 r1.length) || !(decide ((r1.length : Int) > 0))) (cond (cond (decide ((r1.length : Int) > 0)) (decide ((r1.getD (0 : Int).toNat (Fm.mk 0 0 [] [])).k = 1)) false) (cond (ixOK 0 r1.length) (some ((r1.getD (0 : Int).toNat (Fm.mk 0 0 [] [])).t)) none) (some ([]))) none))
def A_head : An := .leaf
def H_head : Nat → RH := fun _ => {}
noncomputable def S_head : Sig := .n [(.d .form)] (.d .str) (fun x => G_head x.1)
theorem S_head_ok : SigOK CX 41 S_head := sigN_of (l := [(80, S_kids)]) ⟨S_kids_ok, trivial⟩ (hint := H_head) (an := A_head) (fun x => by kernel_rfl)
noncomputable def G_isNaNi (x0 : Int) : Option (Bool) := (
 some (!decide (x0 = x0)))
def A_isNaNi : An := .leaf
def H_isNaNi : Nat → RH := fun _ => {}
noncomputable def S_isNaNi : Sig := .n [(.d (.int .i64))] (.d .bool) (fun x => G_isNaNi x.1)
theorem S_isNaNi_ok : SigOK CX 159 S_isNaNi := sigN_of (l := []) trivial (hint := H_isNaNi) (an := A_isNaNi) (fun x => by kernel_rfl)
noncomputable def G_isNaNs (x0 : List UInt8) : Option (Bool) := (
 some (!decide (x0 = x0)))
def A_isNaNs : An := .leaf
def H_isNaNs : Nat → RH := fun _ => {}
noncomputable def S_isNaNs : Sig := .n [(.d .str)] (.d .bool) (fun x => G_isNaNs x.1)
theorem S_isNaNs_ok : SigOK CX 160 S_isNaNs := sigN_of (l := []) trivial (hint := H_isNaNs) (an := A_isNaNs) (fun x => by kernel_rfl)
noncomputable def G_cmpi (x0 : Int) (x1 : Int) : Option (Int) := (
 Option.bind (α := Bool) (G_isNaNi x0) fun r1 => (
 Option.bind (α := Bool) (G_isNaNi x1) fun r2 => (
 cond r1 (cond r2 (some 0) (some (-1))) (cond r2 (some 1) (cond (decide (x0 < x1)) (some (-1)) (cond (decide (x0 > x1)) (some 1) (some 0)))))))
def A_cmpi : An := .leaf
def H_cmpi : Nat → RH := fun _ => {}
noncomputable def S_cmpi : Sig := .n [(.d (.int .i64)), (.d (.int .i64))] (.d (.int .i64)) (fun x => G_cmpi x.1 x.2.1)
theorem S_cmpi_ok : SigOK CX 128 S_cmpi := sigN_of (l := [(159, S_isNaNi)]) ⟨S_isNaNi_ok, trivial⟩ (hint := H_cmpi) (an := A_cmpi) (fun x => by kernel_rfl)
noncomputable def G_cmps (x0 : List UInt8) (x1 : List UInt8) : Option (Int) := (
 Option.bind (α := Bool) (G_isNaNs x0) fun r1 => (
 Option.bind (α := Bool) (G_isNaNs x1) fun r2 => (
 cond r1 (cond r2 (some 0) (some (-1))) (cond r2 (some 1) (cond (Op.bytesLess x0 x1) (some (-1)) (cond (!(Op.bytesLess x0 x1 || decide (x0 = x1))) (some 1) (some 0)))))))
def A_cmps : An := .leaf
def H_cmps : Nat → RH := fun _ => {}
noncomputable def S_cmps : Sig := .n [(.d .str), (.d .str)] (.d (.int .i64)) (fun x => G_cmps x.1 x.2.1)
theorem S_cmps_ok : SigOK CX 129 S_cmps := sigN_of (l := [(160, S_isNaNs)]) ⟨S_isNaNs_ok, trivial⟩ (hint := H_cmps) (an := A_cmps) (fun x => by kernel_rfl)
noncomputable def G_refCompare (k : Nat) (x0 : Fm) (x1 : Fm) : Option (Int) := match k with
| 0 => none
| k + 1 => (
 cond (!decide (x0.k = x1.k)) (Option.bind (α := Int) (G_sign (decide (x0.k < x1.k)) (decide (x0.k > x1.k))) fun r1 => (
 some r1)) (Option.bind (α := Step ((Unit) × (Unit)) (Int))
 (cond (decide (x0.k = 0)) (Option.bind (α := Int) (G_sign (decide (x0.n < x1.n)) (decide (x0.n > x1.n))) fun r2 => (
 some (Step.done r2))) (Option.bind (α := ((Int × Int × (List UInt8) × (List Fm) × Unit) × (Int × Int × (List UInt8) × (List Fm) × Unit) × Int × Bool × Unit) × (Unit))
 (cond (decide (x0.k = 1)) (some (((x0.k, x0.n, x0.t, x0.l, ()), (x1.k, x1.n, x1.t, x1.l, ()), x0.k, decide (x0.k = 1), ()), ())) (some (((x0.k, x0.n, x0.t, x0.l, ()), (x1.k, x1.n, x1.t, x1.l, ()), x0.k, decide (x0.k = 2), ()), ()))) fun d3 => (
 let v24_4 := d3.1.2.2.1
 let v38_5 := d3.1.2.2.2.1
 cond v38_5 (Option.bind (α := Int) (G_sign (Op.bytesLess d3.1.1.2.2.1 d3.1.2.1.2.2.1) (!(Op.bytesLess d3.1.1.2.2.1 d3.1.2.1.2.2.1 || decide (d3.1.1.2.2.1 = d3.1.2.1.2.2.1)))) fun r6 => (
 some (Step.done r6))) (cond (decide (v24_4 = 3)) (Option.bind (α := Step (((Int × Int × (List UInt8) × (List Fm) × Unit) × (Int × Int × (List UInt8) × (List Fm) × Unit) × Unit) × (Unit)) (Step ((Unit) × (Unit)) (Int)))
 (loopM (L := ((Int × Int × (List UInt8) × (List Fm) × Unit) × (Int × Int × (List UInt8) × (List Fm) × Unit) × Int × Unit) × (Unit)) (R := Step (((Int × Int × (List UInt8) × (List Fm) × Unit) × (Int × Int × (List UInt8) × (List Fm) × Unit) × Unit) × (Unit)) (Step ((Unit) × (Unit)) (Int))) (fun d7 => (
 let v5_8 := d7.1.2.2.1
 cond (cond (decide (v5_8 < (d7.1.1.2.2.2.1.length : Int))) (decide (v5_8 < (d7.1.2.1.2.2.2.1.length : Int))) false) (cond (ixOK v5_8 d7.1.1.2.2.2.1.length) (cond (ixOK v5_8 d7.1.2.1.2.2.2.1.length) (Option.bind (α := Int) (G_refCompare k (Fm.eta (d7.1.1.2.2.2.1.getD v5_8.toNat (Fm.mk 0 0 [] []))) (Fm.eta (d7.1.2.1.2.2.2.1.getD v5_8.toNat (Fm.mk 0 0 [] [])))) fun r9 => (
 cond (!decide (r9 = 0)) (some (Step.done (Step.done (Step.done r9)))) (some (Step.next (((d7.1.1.1, d7.1.1.2.1, d7.1.1.2.2.1, d7.1.1.2.2.2.1, ()), (d7.1.2.1.1, d7.1.2.1.2.1, d7.1.2.1.2.2.1, d7.1.2.1.2.2.2.1, ()), IntKind.wrap .i64 (v5_8 + 1), ()), ()))))) none) none) (some (Step.done (Step.next (((d7.1.1.1, d7.1.1.2.1, d7.1.1.2.2.1, d7.1.1.2.2.2.1, ()), (d7.1.2.1.1, d7.1.2.1.2.1, d7.1.2.1.2.2.1, d7.1.2.1.2.2.2.1, ()), ()), ())))))) (((d3.1.1.1, d3.1.1.2.1, d3.1.1.2.2.1, d3.1.1.2.2.2.1, ()), (d3.1.2.1.1, d3.1.2.1.2.1, d3.1.2.1.2.2.1, d3.1.2.1.2.2.2.1, ()), 0, ()), ())) fun qd10 => match qd10 with
 | .next d10 => (
 Option.bind (α := Int) (G_sign (decide ((d10.1.1.2.2.2.1.length : Int) < (d10.1.2.1.2.2.2.1.length : Int))) (decide ((d10.1.1.2.2.2.1.length : Int) > (d10.1.2.1.2.2.2.1.length : Int)))) fun r11 => (
 some (Step.done r11)))
 | .done r => some r) (some (Step.next ((), ()))))))) fun qd12 => match qd12 with
 | .next d12 => (
 some 0)
 | .done r => some r))
def A_refCompare : An := .seq (.leaf) (.seq (.leaf) (.join true { env := [], objs := [] } (.seq (.leaf) (.block (.seq (.leaf) (.cond (.leaf) (.join false { env := [(2, (.rptr [(.d (.int .i64)), (.d (.int .i64)), (.d .str), (.d (.slice .form))])), (3, (.rptr [(.d (.int .i64)), (.d (.int .i64)), (.d .str), (.d (.slice .form))])), (24, (.d (.int .i64))), (38, (.d .bool))], objs := [] } (.leaf) (.cond (.leaf) (.seq (.leaf) (.cond (.join true { env := [(2, (.rptr [(.d (.int .i64)), (.d (.int .i64)), (.d .str), (.d (.slice .form))])), (3, (.rptr [(.d (.int .i64)), (.d (.int .i64)), (.d .str), (.d (.slice .form))]))], objs := [] } (.seq (.leaf) (.block (.loop { env := [(2, (.rptr [(.d (.int .i64)), (.d (.int .i64)), (.d .str), (.d (.slice .form))])), (3, (.rptr [(.d (.int .i64)), (.d (.int .i64)), (.d .str), (.d (.slice .form))])), (5, (.d (.int .i64)))], objs := [] } (.leaf)))) (.leaf)) (.leaf))))))))) (.leaf)))
def H_refCompare : Nat → RH := fun r => match r with
 | 13 => { H := { pl := [69, 72, 74, 77] } }
 | _ => {}
noncomputable def S_refCompare (k : Nat) : Sig := .n [(.d .form), (.d .form)] (.d (.int .i64)) (fun x => G_refCompare k x.1 x.2.1)
theorem S_refCompare_rec : ∀ k, SigOK CX 64 (S_refCompare k)
| 0 => fun x r h => by cases h
| k + 1 => by
 have ih := S_refCompare_rec k
 exact sigN_of (l := [(111, S_sign), (64, (S_refCompare k))]) ⟨S_sign_ok, ih, trivial⟩ (hint := H_refCompare) (an := A_refCompare) (fun x => by kernel_rfl)
theorem S_refCompare_ok : ∀ k, SigOK CX 64 (S_refCompare k) := fun k => S_refCompare_rec k
noncomputable def L_refCompare (x0 : Fm) (x1 : Fm) : Option (Int) := limF fun k => G_refCompare k x0 x1
noncomputable def S_refCompare_l : Sig := .n [(.d .form), (.d .form)] (.d (.int .i64)) (fun x => L_refCompare x.1 x.2.1)
theorem S_refCompare_l_ok : SigOK CX 64 S_refCompare_l := SigOK.limN S_refCompare_ok fun x r h => limF_ex h
mutual
noncomputable def G_compare (k : Nat) (x0 : Fm) (x1 : Fm) : Option (Int) := match k with
| 0 => none
| k + 1 => (
 cond (!decide (x0.k = x1.k)) (Option.bind (α := Int) (G_cmpi x0.k x1.k) fun r1 => (
 some r1)) (cond (decide (x0.k = 0)) (Option.bind (α := Int) (G_cmpi x0.n x1.n) fun r2 => (
 some r2)) (Option.bind (α := ((Int × Int × (List UInt8) × (List Fm) × Unit) × (Int × Int × (List UInt8) × (List Fm) × Unit) × Int × Bool × Unit) × (Unit))
 (cond (decide (x0.k = 1)) (some (((x0.k, x0.n, x0.t, x0.l, ()), (x1.k, x1.n, x1.t, x1.l, ()), x0.k, decide (x0.k = 1), ()), ())) (some (((x0.k, x0.n, x0.t, x0.l, ()), (x1.k, x1.n, x1.t, x1.l, ()), x0.k, decide (x0.k = 2), ()), ()))) fun d3 => (
 let v16_4 := d3.1.2.2.1
 let v24_5 := d3.1.2.2.2.1
 cond v24_5 (Option.bind (α := Int) (G_cmps d3.1.1.2.2.1 d3.1.2.1.2.2.1) fun r6 => (
 some r6)) (cond (decide (v16_4 = 3)) (Option.bind (α := Int) (G_compareFunc k d3.1.1.2.2.2.1 d3.1.2.1.2.2.2.1 ()) fun r7 => (
 some r7)) (some 0))))))
noncomputable def G_compareFunc (k : Nat) (x0 : List Fm) (x1 : List Fm) (x2 : Unit) : Option (Int) := match k with
| 0 => none
| k + 1 => (
 Option.bind (α := Step (((List Fm) × (List Fm) × Unit) × (Unit)) (Int))
 (loopM (L := ((List Fm) × (List Fm) × Unit × (List Fm) × Int × Int × Unit) × (Unit)) (R := Step (((List Fm) × (List Fm) × Unit) × (Unit)) (Int)) (fun d1 => (
 let v0_2 := d1.1.1
 let v1_3 := d1.1.2.1
 let v11_4 := d1.1.2.2.2.1
 let v12_5 := d1.1.2.2.2.2.1
 let v13_6 := d1.1.2.2.2.2.2.1
 cond (decide (v13_6 < v12_5)) (cond (ixOK v13_6 v11_4.length) (cond (decide (v13_6 ≥ (v1_3.length : Int))) (some (Step.done (Step.done 1))) (cond (ixOK v13_6 v1_3.length) (Option.bind (α := Int) (G_compare k (Fm.eta (v11_4.getD v13_6.toNat (Fm.mk 0 0 [] []))) (Fm.eta (v1_3.getD v13_6.toNat (Fm.mk 0 0 [] [])))) fun r7 => (
 cond (!decide (r7 = 0)) (some (Step.done (Step.done r7))) (some (Step.next ((v0_2, v1_3, (), v11_4, v12_5, IntKind.wrap .i64 (v13_6 + 1), ()), ()))))) none)) none) (some (Step.done (Step.next ((v0_2, v1_3, ()), ())))))) ((x0, x1, (), x0, (x0.length : Int), 0, ()), ())) fun qd8 => match qd8 with
 | .next d8 => (
 let v0_9 := d8.1.1
 let v1_10 := d8.1.2.1
 cond (decide ((v0_9.length : Int) < (v1_10.length : Int))) (some (-1)) (some 0))
 | .done r => some r)
end
def A_compare : An := .seq (.leaf) (.seq (.leaf) (.seq (.seq (.leaf) (.block (.seq (.leaf) (.cond (.leaf) (.join false { env := [(2, (.rptr [(.d (.int .i64)), (.d (.int .i64)), (.d .str), (.d (.slice .form))])), (3, (.rptr [(.d (.int .i64)), (.d (.int .i64)), (.d .str), (.d (.slice .form))])), (16, (.d (.int .i64))), (24, (.d .bool))], objs := [] } (.leaf) (.leaf)))))) (.leaf)))
def H_compare : Nat → RH := fun _ => {}
noncomputable def S_compare (k : Nat) : Sig := .n [(.d .form), (.d .form)] (.d (.int .i64)) (fun x => G_compare k x.1 x.2.1)
def A_compareFunc : An := .seq (.leaf) (.join true { env := [(0, (.d (.slice .form))), (1, (.d (.slice .form)))], objs := [] } (.seq (.leaf) (.block (.loop { env := [(0, (.d (.slice .form))), (1, (.d (.slice .form))), (2, (.c (.fn (.func 84) [] []))), (11, (.d (.slice .form))), (12, (.d (.int .i64))), (13, (.d (.int .i64)))], objs := [] } (.leaf)))) (.leaf))
def H_compareFunc : Nat → RH := fun _ => {}
noncomputable def S_compareFunc (k : Nat) : Sig := .n [(.d (.slice .form)), (.d (.slice .form)), (.c (.fn (.func 84) [] []))] (.d (.int .i64)) (fun x => G_compareFunc k x.1 x.2.1 x.2.2.1)
theorem S_compare_compareFunc_rec : ∀ k, SigOK CX 84 (S_compare k) ∧ SigOK CX 130 (S_compareFunc k)
| 0 => ⟨(fun x r h => by cases h), (fun x r h => by cases h)⟩
| k + 1 => by
 have ih := S_compare_compareFunc_rec k
 obtain ⟨ih0, ih1⟩ := ih
 exact ⟨sigN_of (l := [(128, S_cmpi), (129, S_cmps), (130, (S_compareFunc k))]) ⟨S_cmpi_ok, S_cmps_ok, ih1, trivial⟩ (hint := H_compare) (an := A_compare) (fun x => by kernel_rfl),
  sigN_of (l := [(84, (S_compare k))]) ⟨ih0, trivial⟩ (hint := H_compareFunc) (an := A_compareFunc) (fun x => by kernel_rfl)⟩
theorem S_compare_ok : ∀ k, SigOK CX 84 (S_compare k) := fun k => (S_compare_compareFunc_rec k).1
noncomputable def L_compare (x0 : Fm) (x1 : Fm) : Option (Int) := limF fun k => G_compare k x0 x1
noncomputable def S_compare_l : Sig := .n [(.d .form), (.d .form)] (.d (.int .i64)) (fun x => L_compare x.1 x.2.1)
theorem S_compare_l_ok : SigOK CX 84 S_compare_l := SigOK.limN S_compare_ok fun x r h => limF_ex h
noncomputable def G_clone_ne (x0 : List Fm) : Option ((Unit) × ((List Fm) × Unit)) := (
 cond (!x0.isEmpty) (cond (decide ((([] : List Fm).length + x0.length) * 56 ≤ 140737488355328)) (some ((), (([] : List Fm) ++ x0, ()))) none) none)
def A_clone_ne : An := .leaf
def H_clone_ne : Nat → RH := fun r => match r with
 | 3 => { H := { mb := [5], ty := [(5, .form), (7, .form)] } }
 | _ => {}
noncomputable def S_clone_ne : Sig := .o { pre := [], args := [(.d (.slice .form))], post := [(false, .tg .form 26)], res := (.gs 0 .form), f := fun x => G_clone_ne x.1.1 }
theorem S_clone_ne_ok : SigOK CX 82 S_clone_ne := sigO_of (l := []) trivial (hint := H_clone_ne) (an := A_clone_ne) (by kernel_rfl) (fun x => by kernel_rfl)
noncomputable def G_clone_nil  : Option ((Unit) × ((List Fm) × Unit)) := (
 some ((), (([] : List Fm), ())))
def A_clone_nil : An := .leaf
def H_clone_nil : Nat → RH := fun _ => {}
noncomputable def S_clone_nil : Sig := .o { pre := [], args := [(.c (.base (.slice none 0 0)))], post := [(false, .tg .form 26)], res := (.gs 0 .form), f := fun x => G_clone_nil }
theorem S_clone_nil_ok : SigOK CX 82 S_clone_nil := sigO_of (l := []) trivial (hint := H_clone_nil) (an := A_clone_nil) (by kernel_rfl) (fun x => by kernel_rfl)
noncomputable def G_clone_emp  : Option ((Unit) × ((List Fm) × Unit)) := (
 cond (decide ((([] : List Fm).length + ([] : List Fm).length) * 56 ≤ 140737488355328)) (some ((), (([] : List Fm) ++ ([] : List Fm), ()))) none)
def A_clone_emp : An := .leaf
def H_clone_emp : Nat → RH := fun r => match r with
 | 3 => { H := { mb := [5], ty := [(5, .form), (7, .form)] } }
 | _ => {}
noncomputable def S_clone_emp (a : Addr) (cap : Nat) : Sig := .o { pre := [], args := [(.c (.base (.slice (some a) 0 cap)))], post := [(false, .tg .form 26)], res := (.gs 0 .form), f := fun x => G_clone_emp }
theorem S_clone_emp_ok (a : Addr) (cap : Nat) : SigOK CX 82 (S_clone_emp a cap) := sigO_of (l := []) trivial (hint := H_clone_emp) (an := A_clone_emp) (by kernel_rfl) (fun x => by kernel_rfl)
noncomputable def S_clone : Sig := .o { pre := [], args := [(.d (.slice .form))], post := [(false, .tg .form 26)], res := (.gs 0 .form), f := fun x => cloneF 56 x.1.1 }
theorem S_clone_ok : SigOK CX 82 S_clone := by
 refine ⟨by kernel_rfl, fun x r hr B kn m w vs hI hlay hargs => ?_⟩
 obtain ⟨⟨(l : List Fm), u1⟩, u2⟩ := x
 have hr : cloneF 56 l = some r := hr
 have hargs : RelL kn m [.tvec .form l] vs := hargs
 obtain ⟨v, vs1, rfl, hv, hvs⟩ := RelL.uncons hargs
 have : vs1 = [] := List.eq_nil_of_length_eq_zero hvs.1.symm
 subst this
 cases l with
 | cons a l => exact S_clone_ne_ok.2 (((a :: l), ()), ()) r (show G_clone_ne (a :: l) = some r by simpa [cloneF, G_clone_ne] using hr) B kn m w _ hI hlay hargs
 | nil =>
  cases hr
  have hv := rel_tvec.1 hv
  have one : ∀ u : Value, RelL kn m [.base u] [u] := fun u => .cons (.base u) (.nil _ _)
  generalize hrows : List.map (E.row .form) ([] : List Fm) = rows at hv
  cases hv with
  | vecNil _ a cap => exact (S_clone_emp_ok a cap).2 (((), ()), ()) _ rfl B kn m w _ hI hlay (one _)
  | vecNone => exact S_clone_nil_ok.2 (((), ()), ()) _ rfl B kn m w _ hI hlay (one _)
  | vec _ _ b o cap vals =>
   subst hrows
   exact (S_clone_emp_ok ⟨b, o, none⟩ cap).2 (((), ()), ()) _ rfl B kn m w _ hI hlay (one _)
end Go.Ab

namespace Go.Ab
open Go
theorem Fm.ind {P : Fm → Prop} (h : ∀ k n t l, (∀ f ∈ l, P f) → P (.mk k n t l)) : ∀ f, P f := fun f => Fm.rec (motive_1 := P) (motive_2 := fun l => ∀ f ∈ l, P f) (fun k n t l ih => h k n t l ih) (fun f hf => by cases hf) (fun f r hf hr g hg => by
  rcases List.mem_cons.1 hg with rfl | hg
  ·exact hf
  ·exact hr g hg) f
mutual
def Fm.big : Fm → Nat
 | .mk _ _ t l => 1 + t.length + Fm.bigL l
def Fm.bigL : List Fm → Nat
 | [] => 0
 | f :: r => f.big + Fm.bigL r
end
theorem big_mem {l : List Fm} {f : Fm} (h : f ∈ l) : f.big ≤ Fm.bigL l := by
 induction l with
 | nil => cases h
 | cons g r ih => rcases List.mem_cons.1 h with rfl | h <;> simp only [Fm.bigL] <;> first | omega | (have := ih h; omega)
theorem big_pos (f : Fm) : 1 ≤ f.big := by cases f; simp only [Fm.big]; omega
theorem big_kids (f : Fm) : Fm.bigL f.l < f.big := by cases f; simp only [Fm.big, Fm.l]; omega
theorem length_le_big (l : List Fm) : l.length ≤ Fm.bigL l := by
 induction l with
 | nil => simp [Fm.bigL]
 | cons f r ih => simp only [Fm.bigL, List.length_cons]; have := big_pos f; omega
def cmpI (a b : Int) : Int := if a < b then -1 else if b < a then 1 else 0
def cmpS (a b : List UInt8) : Int := if Op.bytesLess a b = true then -1 else if a = b then 0 else 1
mutual
def cmpF : Fm → Fm → Int
 | .mk k n t l, g => if ¬ k = g.k then cmpI k g.k else if k = 0 then cmpI n g.n else if k = 1 ∨ k = 2 then cmpS t g.t else if k = 3 then cmpL l g.l else 0
def cmpL : List Fm → List Fm → Int
 | [], m => if m = [] then 0 else -1
 | f :: r, m => match m with
  | [] => 1
  | g :: m => if ¬ cmpF f g = 0 then cmpF f g else cmpL r m
end
theorem cmpL_drop {l m : List Fm} {i : Nat} (h : i < l.length) (h' : i < m.length) : cmpL (l.drop i) (m.drop i) = if ¬ cmpF l[i] m[i] = 0 then cmpF l[i] m[i] else cmpL (l.drop (i + 1)) (m.drop (i + 1)) := by
 rw [List.drop_eq_getElem_cons h, List.drop_eq_getElem_cons h']; simp only [cmpL]
def Tri (x y z : Int) : Prop := (x ≤ 0 → y ≤ 0 → z ≤ 0) ∧ (x < 0 → y ≤ 0 → z < 0) ∧ (x ≤ 0 → y < 0 → z < 0) ∧ (x = 0 → z = y) ∧ (y = 0 → z = x)
theorem Tri.lex {x y z x' y' z' : Int} (h : Tri x y z) (h' : Tri x' y' z') : Tri (if ¬ x = 0 then x else x') (if ¬ y = 0 then y else y') (if ¬ z = 0 then z else z') := by
 unfold Tri at *
 split <;> split <;> split <;> omega
theorem cmpI_neg (a b : Int) : cmpI b a = - cmpI a b := by unfold cmpI; split <;> split <;> (try split) <;> omega
theorem cmpI_tri (a b c : Int) : Tri (cmpI a b) (cmpI b c) (cmpI a c) := by
 unfold cmpI Tri; split <;> split <;> split <;> (try split) <;> (try split) <;> (try split) <;> omega
theorem bytesLess_irrefl : ∀ a : List UInt8, Op.bytesLess a a = false
 | [] => rfl
 | a :: x => by simp [Op.bytesLess, bytesLess_irrefl x]
theorem u8lt_nat (a b : UInt8) : (a < b) = (a.toNat < b.toNat) := rfl
theorem u8eq_nat (a b : UInt8) : (a = b) ↔ (a.toNat = b.toNat) := ⟨fun h => by rw [h], fun h => UInt8.toNat_inj.1 h⟩
theorem cmpS_nil (b : List UInt8) : cmpS [] b = if b = [] then 0 else -1 := by
 cases b <;> simp [cmpS, Op.bytesLess]
theorem cmpS_nil' (b : List UInt8) : cmpS b [] = if b = [] then 0 else 1 := by
 cases b <;> simp [cmpS, Op.bytesLess]
theorem cmpS_cons (a b : UInt8) (x y : List UInt8) : cmpS (a :: x) (b :: y) = if ¬ cmpI a.toNat b.toNat = 0 then cmpI a.toNat b.toNat else cmpS x y := by
 unfold cmpS cmpI
 simp only [Op.bytesLess, Bool.or_eq_true, Bool.and_eq_true, decide_eq_true_eq, beq_iff_eq, List.cons.injEq, u8lt_nat, u8eq_nat]
 by_cases h1 : a.toNat < b.toNat
 ·simp [h1]
 ·by_cases h2 : b.toNat < a.toNat
  ·have : ¬ a.toNat = b.toNat := by omega
   simp [h1, h2, this]
  ·have e : a = b := UInt8.toNat_inj.1 (by omega)
   subst e
   simp
theorem cmpS_neg : ∀ a b : List UInt8, cmpS b a = - cmpS a b
 | [], b => by rw [cmpS_nil, cmpS_nil']; split <;> rfl
 | a :: x, [] => by rw [cmpS_nil, cmpS_nil']; rfl
 | a :: x, b :: y => by rw [cmpS_cons, cmpS_cons, cmpS_neg x y, cmpI_neg]; split <;> split <;> omega
theorem cmpS_tri : ∀ a b c : List UInt8, Tri (cmpS a b) (cmpS b c) (cmpS a c)
 | [], b, c => by
  rw [cmpS_nil, cmpS_nil]
  cases b with
  | nil => simp only [if_true, cmpS_nil]; unfold Tri; split <;> omega
  | cons b y => cases c with
   | nil => rw [cmpS_nil']; simp [Tri]
   | cons c z => simp [Tri]
 | a :: x, [], c => by
  rw [cmpS_nil, cmpS_nil']
  cases c <;> simp [Tri, cmpS_nil']
 | a :: x, b :: y, [] => by
  rw [cmpS_nil', cmpS_nil']; simp [Tri]
 | a :: x, b :: y, c :: z => by
  rw [cmpS_cons, cmpS_cons, cmpS_cons]
  exact (cmpI_tri _ _ _).lex (cmpS_tri x y z)
theorem cmpF_mk (k k' : Int) (n n' : Int) (t t' : List UInt8) (l l' : List Fm) : cmpF (.mk k n t l) (.mk k' n' t' l') = if k = k' then (if k = 0 then cmpI n n' else if k = 1 ∨ k = 2 then cmpS t t' else if k = 3 then cmpL l l' else 0) else cmpI k k' := by
 by_cases h : k = k'
 ·subst h; simp [cmpF, Fm.k, Fm.n, Fm.t, Fm.l]
 ·simp [cmpF, Fm.k, h]
theorem cmpL_neg_of : ∀ l m : List Fm, (∀ f ∈ l, ∀ g, cmpF g f = - cmpF f g) → cmpL m l = - cmpL l m
 | [], m, _ => by cases m <;> simp [cmpL]
 | f :: r, [], _ => by simp [cmpL]
 | f :: r, g :: m, h => by
  simp only [cmpL]
  rw [h f (by simp) g, cmpL_neg_of r m (fun f hf => h f (by simp [hf]))]
  split <;> split <;> omega
theorem cmpF_neg : ∀ f g : Fm, cmpF g f = - cmpF f g := Fm.ind fun k n t l ih g => by
 obtain ⟨k', n', t', l'⟩ := g
 rw [cmpF_mk, cmpF_mk]
 by_cases h : k = k'
 ·subst h
  simp only [if_true]
  split
  ·exact cmpI_neg _ _
  ·split
   ·exact cmpS_neg _ _
   ·split
    ·exact cmpL_neg_of l l' ih
    ·rfl
 ·rw [if_neg (show ¬ k' = k from fun e => h e.symm), if_neg h]; exact cmpI_neg _ _
theorem cmpL_tri_of : ∀ l m o : List Fm, (∀ f ∈ l, ∀ g h, Tri (cmpF f g) (cmpF g h) (cmpF f h)) → Tri (cmpL l m) (cmpL m o) (cmpL l o)
 | [], m, o, _ => by
  cases m with
  | nil => cases o <;> simp [cmpL, Tri]
  | cons g m => cases o with
   | nil => simp [cmpL, Tri]
   | cons h o => simp [cmpL, Tri]
 | f :: r, [], o, _ => by cases o <;> simp [cmpL, Tri]
 | f :: r, g :: m, [], _ => by simp [cmpL, Tri]
 | f :: r, g :: m, h :: o, ih => by
  simp only [cmpL]
  exact (ih f (by simp) g h).lex (cmpL_tri_of r m o (fun f hf => ih f (by simp [hf])))
theorem cmpI_ne {a b : Int} (h : ¬ a = b) : ¬ cmpI a b = 0 := by unfold cmpI; split <;> (try split) <;> omega
theorem cmpI_self (a : Int) : cmpI a a = 0 := by unfold cmpI; simp
theorem cmpF_tri : ∀ f g h : Fm, Tri (cmpF f g) (cmpF g h) (cmpF f h) := Fm.ind fun k n t l ih g h => by
 obtain ⟨k', n', t', l'⟩ := g
 obtain ⟨k'', n'', t'', l''⟩ := h
 have e : ∀ (k k' : Int) (n n' : Int) (t t' : List UInt8) (l l' : List Fm), cmpF (.mk k n t l) (.mk k' n' t' l') = if ¬ cmpI k k' = 0 then cmpI k k' else if k = 0 then cmpI n n' else if k = 1 ∨ k = 2 then cmpS t t' else if k = 3 then cmpL l l' else 0 := by
  intro k k' n n' t t' l l'
  rw [cmpF_mk]
  by_cases h : k = k'
  ·subst h; simp [cmpI_self]
  ·rw [if_neg h, if_pos (cmpI_ne h)]
 by_cases h1 : k = k'
 ·by_cases h2 : k' = k''
  ·subst h1; subst h2
   rw [e, e, e]
   refine (cmpI_tri _ _ _).lex ?_
   split
   ·exact cmpI_tri _ _ _
   ·split
    ·exact cmpS_tri _ _ _
    ·split
     ·exact cmpL_tri_of l l' l'' ih
     ·simp [Tri]
  ·subst h1
   rw [e, e k k'', e k k'']
   have := cmpI_ne h2
   rw [if_pos this, if_pos this, cmpI_self, if_neg (by simp)]
   unfold Tri
   omega
 ·have t := cmpI_tri k k' k''
  have := cmpI_ne h1
  by_cases h2 : k' = k''
  ·subst h2
   rw [e, e k' k', e k k', if_pos this, cmpI_self, if_neg (by simp)]
   unfold Tri
   omega
  ·have h3 := cmpI_ne h2
   rw [e, e k' k'', e k k'', if_pos this, if_pos h3]
   unfold Tri at *
   split
   ·omega
   ·rename_i h4
    have : cmpI k k'' = 0 := Classical.not_not.1 h4
    omega
theorem cmpL_self_of : ∀ l : List Fm, (∀ f ∈ l, cmpF f f = 0) → cmpL l l = 0
 | [], _ => by simp [cmpL]
 | f :: r, h => by simp only [cmpL, h f (by simp)]; simpa using cmpL_self_of r (fun f hf => h f (by simp [hf]))
theorem cmpS_self (a : List UInt8) : cmpS a a = 0 := by simp [cmpS, bytesLess_irrefl]
theorem cmpF_self : ∀ f : Fm, cmpF f f = 0 := Fm.ind fun k n t l ih => by
 rw [cmpF_mk, if_pos rfl]
 split
 ·exact cmpI_self _
 ·split
  ·exact cmpS_self _
  ·split
   ·exact cmpL_self_of l ih
   ·rfl
theorem cmpF_trans {f g h : Fm} (h1 : cmpF f g < 0) (h2 : cmpF g h < 0) : cmpF f h < 0 := (cmpF_tri f g h).2.1 h1 (Int.le_of_lt h2)
theorem cmpF_eq_l {f g : Fm} (h : cmpF f g = 0) (o : Fm) : cmpF f o = cmpF g o := (cmpF_tri f g o).2.2.2.1 h
def Up {R : Type} (N : Prop) (o : Option R) (v : R) : Prop := o = some v ∨ (o = none ∧ N)
theorem Up.mono {R : Type} {N N' : Prop} {o : Option R} {v : R} (h : Up N o v) (k : N → N') : Up N' o v := h.imp id fun h => ⟨h.1, k h.2⟩
theorem Up.of {R : Type} {N : Prop} {o : Option R} {v : R} (h : o = some v) : Up N o v := .inl h
theorem Up.bind {R S : Type} {N : Prop} {o : Option R} {v : R} {F : R → Option S} {u : S} (h : Up N o v) (k : Up N (F v) u) : Up N (Option.bind o F) u := by
 rcases h with h | ⟨h, n⟩
 ·rw [h]; exact k
 ·exact .inr ⟨by rw [h]; rfl, n⟩
theorem limF_up {R : Type} {f : Nat → Option R} {v : R} {b : Nat} (h : ∀ k, Up (k < b) (f k) v) : limF f = some v := by
 refine limF_eq ⟨b, ?_⟩ fun k r hr => ?_
 ·rcases h b with h | ⟨_, h⟩
  ·exact h
  ·omega
 ·rcases h k with h | ⟨h, _⟩
  ·rw [h] at hr; cases hr; rfl
  ·rw [h] at hr; cases hr
theorem loopM_none {L R : Type} {b : L → Option (Step L R)} {l : L} (h : b l = none) : loopM b l = none := by
 cases hx : loopM b l with
 | none => rfl
 | some r =>
  obtain ⟨d, hd⟩ := loopM_iff.1 hx
  cases d with
  | zero => cases hd
  | succ d => simp only [iterM, h] at hd; cases hd
theorem loop_ix {L R A : Type} {N : Prop} {b : L → Option (Step L R)} {F : R → Option A} (st : Nat → L) (res : Nat → A) (n : Nat)
  (hstep : ∀ i, i < n → (b (st i) = some (.next (st (i + 1))) ∧ res i = res (i + 1)) ∨ (∃ r, b (st i) = some (.done r) ∧ Up N (F r) (res i)) ∨ (b (st i) = none ∧ N))
  (hend : ∃ r, b (st n) = some (.done r) ∧ Up N (F r) (res n)) : Up N (Option.bind (loopM b (st 0)) F) (res 0) := by
 have key : ∀ j i, i + j = n → Up N (Option.bind (loopM b (st i)) F) (res i) := by
  intro j
  induction j with
  | zero =>
   intro i hi
   obtain rfl : i = n := by omega
   obtain ⟨r, h1, h2⟩ := hend
   rw [loopM_done h1]; exact h2
  | succ j ih =>
   intro i hi
   rcases hstep i (by omega) with ⟨h1, h2⟩ | ⟨r, h1, h2⟩ | ⟨h1, h2⟩
   ·rw [loopM_next h1, h2]; exact ih (i + 1) (by omega)
   ·rw [loopM_done h1]; exact h2
   ·rw [loopM_none h1]; exact .inr ⟨rfl, h2⟩
 exact key n 0 (by omega)
theorem wrapN {i : Nat} (h : i < 4611686018427387904) : IntKind.wrap .i64 ((i : Int) + 1) = ((i + 1 : Nat) : Int) := by
 rw [w64 (by omega) (by omega)]; rfl
theorem getD_in {α : Type} {l : List α} {i : Nat} (h : i < l.length) (d : α) : l.getD i d = l[i] := by simp [h]
theorem cmpi_val (a b : Int) : G_cmpi a b = some (cmpI a b) := by
 unfold G_cmpi G_isNaNi cmpI
 by_cases h : a < b
 ·simp [h]
 ·by_cases h' : b < a
  ·have : a > b := h'
   simp [h, this]
  ·have : ¬ a > b := h'
   simp [h, this]
theorem cmps_val (a b : List UInt8) : G_cmps a b = some (cmpS a b) := by
 unfold G_cmps G_isNaNs cmpS
 by_cases h : Op.bytesLess a b = true
 ·simp [h]
 ·by_cases h' : a = b
  ·subst h'; simp [bytesLess_irrefl]
  ·simp [h, h']
theorem sign_val (x y : Bool) : G_sign x y = some (if x = true then -1 else if y = true then 1 else 0) := by
 unfold G_sign; cases x <;> cases y <;> rfl
theorem compare_step (k : Nat) (hF : ∀ l m : List Fm, Fm.bigL l ≤ 4611686018427387000 → Up (k < 1 + 2 * Fm.bigL l) (G_compareFunc k l m ()) (cmpL l m)) (f g : Fm) (hb : f.big ≤ 4611686018427387000) : Up (k + 1 < 2 * f.big) (G_compare (k + 1) f g) (cmpF f g) := by
 obtain ⟨a, n, t, l⟩ := f
 obtain ⟨a', n', t', l'⟩ := g
 have hk := big_kids (.mk a n t l)
 simp only [Fm.l] at hk
 rw [cmpF_mk]
 unfold G_compare
 simp only [Fm.k, Fm.n, Fm.t, Fm.l, cmpi_val, cmps_val, Option.bind_some]
 by_cases h : a = a'
 ·subst h
  simp only [decide_true, Bool.not_true, cond_false, if_true]
  by_cases h0 : a = 0
  ·simp only [h0, decide_true, cond_true, if_true]; exact .of rfl
  ·simp only [h0, decide_false, cond_false, if_false]
   by_cases h1 : a = 1
   ·simp only [h1, decide_true, cond_true, Option.bind_some, true_or, if_true]; exact .of rfl
   ·simp only [h1, decide_false, cond_false, Option.bind_some, false_or]
    by_cases h2 : a = 2
    ·simp only [h2, decide_true, cond_true, if_true]; exact .of rfl
    ·simp only [h2, decide_false, cond_false, if_false]
     by_cases h3 : a = 3
     ·subst h3
      simp only [decide_true, cond_true, if_true]
      refine ((hF l l' (by omega)).mono fun h => by omega).bind (.of rfl)
     ·simp only [h3, decide_false, cond_false, if_false]; exact .of rfl
 ·simp only [h, decide_false, Bool.not_false, cond_true, if_false]; exact .of rfl
theorem compareFunc_step (k : Nat) (hF : ∀ f g : Fm, f.big ≤ 4611686018427387000 → Up (k < 2 * f.big) (G_compare k f g) (cmpF f g)) (l m : List Fm) (hb : Fm.bigL l ≤ 4611686018427387000) : Up (k + 1 < 1 + 2 * Fm.bigL l) (G_compareFunc (k + 1) l m ()) (cmpL l m) := by
 have hl := length_le_big l
 unfold G_compareFunc
 refine loop_ix (fun i => ((l, m, (), l, (l.length : Int), (i : Int), ()), ())) (fun i => cmpL (l.drop i) (m.drop i)) (min l.length m.length) (fun i hi => ?_) ?_
 ·have h1 : i < l.length := by omega
  have h2 : i < m.length := by omega
  have e1 : decide ((i : Int) < (l.length : Int)) = true := by simp [h1]
  have e2 : ixOK (i : Int) l.length = true := ixOK_iff.2 (by omega)
  have e3 : decide ((i : Int) ≥ (m.length : Int)) = false := by simp [h2]
  have e4 : ixOK (i : Int) m.length = true := ixOK_iff.2 (by omega)
  simp only [e1, e2, e3, e4, cond_true, cond_false, Int.toNat_natCast, getD_in h1, getD_in h2, Fm.eta_eq, wrapN (show i < 4611686018427387904 by omega), cmpL_drop h1 h2]
  have hm := big_mem (List.getElem_mem h1)
  rcases hF l[i] m[i] (by omega) with h | ⟨h, hn⟩
  ·rw [h]
   by_cases hc : cmpF l[i] m[i] = 0
   ·refine .inl ⟨by simp [hc], by simp [hc]⟩
   ·refine .inr (.inl ⟨.done (cmpF l[i] m[i]), by simp [hc], .of (by simp [hc])⟩)
  ·rw [h]
   exact .inr (.inr ⟨rfl, by omega⟩)
 ·by_cases hlm : l.length ≤ m.length
  ·rw [Nat.min_eq_left hlm]
   refine ⟨.next ((l, m, ()), ()), by simp, .of ?_⟩
   simp only [List.drop_length, cmpL]
   by_cases hd : m.drop l.length = []
   ·have := List.drop_eq_nil_iff.1 hd
    have e : ¬ ((l.length : Int) < (m.length : Int)) := by omega
    simp [hd, e]
   ·have : ¬ m.length ≤ l.length := fun h => hd (List.drop_eq_nil_iff.2 h)
    have e : (l.length : Int) < (m.length : Int) := by omega
    simp [hd, e]
  ·have h1 : m.length < l.length := by omega
   rw [Nat.min_eq_right (by omega)]
   have e2 : ixOK (m.length : Int) l.length = true := ixOK_iff.2 (by omega)
   have e1 : decide ((m.length : Int) < (l.length : Int)) = true := by simp; omega
   refine ⟨.done 1, by simp [e2, h1], .of ?_⟩
   simp only [List.drop_length]
   rw [List.drop_eq_getElem_cons h1]
   simp [cmpL]
theorem compare_up : ∀ k, (∀ f g : Fm, f.big ≤ 4611686018427387000 → Up (k < 2 * f.big) (G_compare k f g) (cmpF f g)) ∧ (∀ l m : List Fm, Fm.bigL l ≤ 4611686018427387000 → Up (k < 1 + 2 * Fm.bigL l) (G_compareFunc k l m ()) (cmpL l m))
 | 0 => ⟨fun f g hb => .inr ⟨by unfold G_compare; rfl, by have := big_pos f; omega⟩, fun l m hb => .inr ⟨by unfold G_compareFunc; rfl, by omega⟩⟩
 | k + 1 => ⟨compare_step k (compare_up k).2, compareFunc_step k (compare_up k).1⟩
theorem compare_val {f g : Fm} (hb : f.big ≤ 4611686018427387000) : L_compare f g = some (cmpF f g) := limF_up (b := 2 * f.big) fun k => (compare_up k).1 f g hb
end Go.Ab
