/-
  THE READER's functions over plain data: printed by a program of the author; the kernel checks that the code comes to them.
-/
import Derived.Test.YthbkbjlfghikfaaGreatDoorZ12
import Derived.Lib.Bytealg
import Derived.Lib.Builder
import Derived.Lib.UnsafeStr
import Derived.WalkKit
import Derived.Laws.Externs
import Derived.Shelf.RegionOpenPlain
set_option linter.unusedVariables false
set_option linter.unusedSimpArgs false
set_option maxRecDepth 100000
namespace Go.Ab
open Go Go.RowKit Go.Proofs
@[go_sem] theorem ofVal_string (l : List UInt8) : ofVal (.string ⟨l.toArray⟩) = .str l := by simp [ofVal]
theorem hasPrefix_call (s p : List UInt8) : PCall CX 136 [.str s, .str p] (· = .ret (.bool (decide (p.length ≤ s.length ∧ s.take p.length = p)))) := by
 refine pcall_mk 0 18 [.tmp 4] Tryz.func136 rfl (by decide) rfl rfl rfl ?_
 refine aw_sreg {} rfl rfl fun K KP hK hP => ?_
 simp only [go_sem, ↓reduceIte]
 apply hK; clear hK hP
 by_cases c1 : p.length ≤ s.length
 ·
  refine aw_sreg {} rfl rfl fun K KP hK hP => ?_
  simp only [go_sem, ↓reduceIte, c1]
  apply hK; clear hK hP
  refine aw_ret ?_
  simp only [go_sem, ↓reduceIte, c1, athen_ret] <;> (
   simp [c1])
 ·
  refine aw_sreg {} rfl rfl fun K KP hK hP => ?_
  simp only [go_sem, ↓reduceIte, c1]
  apply hK; clear hK hP
  refine aw_ret ?_
  simp only [go_sem, ↓reduceIte, c1, athen_ret] <;> (
   simp [c1])
theorem slTrimPrefix_call (s p : List UInt8) : PCall CX 144 [.str s, .str p] (· = .ret (.str (if p.length ≤ s.length ∧ s.take p.length = p then s.drop p.length else s))) := by
 refine pcall_mk 0 13 [.tmp 4] Tryz.func144 rfl (by decide) rfl rfl rfl ?_
 refine aw_sreg {} rfl rfl fun K KP hK hP => ?_
 simp only [go_sem, ↓reduceIte]
 apply hK; clear hK hP
 refine aw_seq ?_
 refine aw_sreg {} rfl rfl fun K KP hK hP => ?_
 simp only [go_sem, ↓reduceIte]
 refine CallP.ret (hasPrefix_call s p) (by simp only [go_sem]) ?_
 try simp only [go_sem, ↓reduceIte]
 apply hK; clear hK hP
 refine aw_if (p.length ≤ s.length ∧ s.take p.length = p) (by simp only [go_sem, ↓reduceIte]) (fun h1 => ?_) (fun h1 => ?_)
 ·
  refine aw_sreg {} rfl rfl fun K KP hK hP => ?_
  simp only [go_sem, ↓reduceIte, h1.1]
  apply hK; clear hK hP
  refine aw_ret ?_
  refine athen_ret.2 ?_
  simp only [go_sem, ↓reduceIte, athen_ret] <;> (
   rw [if_pos h1]; try (rw [List.take_of_length_le (by simp)]))
 ·
  refine aw_skip ?_
  refine athen_normal.2 ?_
  refine aw_sreg {} rfl rfl fun K KP hK hP => ?_
  simp only [go_sem, ↓reduceIte]
  apply hK; clear hK hP
  refine aw_ret ?_
  simp only [go_sem, ↓reduceIte, athen_ret] <;> (
   rw [if_neg h1])
theorem trimPrefix_call (s p : List UInt8) : PCall CX 129 [.str s, .str p] (· = .ret (.str (if p.length ≤ s.length ∧ s.take p.length = p then s.drop p.length else s))) := by
 refine pcall_mk 0 8 [.tmp 4] Tryz.func129 rfl (by decide) rfl rfl rfl ?_
 refine aw_sreg {} rfl rfl fun K KP hK hP => ?_
 simp only [go_sem, ↓reduceIte]
 apply hK; clear hK hP
 refine aw_sreg {} rfl rfl fun K KP hK hP => ?_
 simp only [go_sem, ↓reduceIte]
 refine CallP.ret (slTrimPrefix_call s p) (by simp only [go_sem]) ?_
 try simp only [go_sem, ↓reduceIte]
 apply hK; clear hK hP
 refine aw_ret ?_
 simp only [go_sem, ↓reduceIte, athen_ret]
def setA (l : List UInt8) : List AV := (List.range 256).map fun c => .bool (decide (UInt8.ofNat c ∈ l))
@[go_sem] theorem length_setA (l : List UInt8) : (setA l).length = 256 := by simp [setA]
theorem setA_nil : setA [] = List.replicate 256 (.bool false) := by kernel_rfl
theorem setA_drop (l : List UInt8) (c : UInt8) : ((setA l).drop c.toNat).head? = some (.bool (decide (c ∈ l))) := by
 have hc : c.toNat < 256 := c.toNat_lt
 rw [List.head?_drop]
 simp [setA, hc]
theorem setA_get (l : List UInt8) (k : Nat) (h : k < 256) : (setA l)[k]? = some (.bool (decide (UInt8.ofNat k ∈ l))) := by simp [setA, h]
theorem setA_put (l : List UInt8) (c : UInt8) : (setA l).take c.toNat ++ .bool true :: (setA l).drop (c.toNat + 1) = setA (l ++ [c]) := by
 have hc : c.toNat < 256 := c.toNat_lt
 apply List.ext_getElem?
 intro k
 rcases Nat.lt_or_ge k 256 with hk | hk
 ·rw [setA_get _ _ hk]
  rcases Nat.lt_trichotomy k c.toNat with h | h | h
  ·rw [List.getElem?_append_left (by simp [length_setA]; omega), List.getElem?_take, if_pos h, setA_get _ _ hk]
   have : UInt8.ofNat k ≠ c := fun e => by
    have := congrArg UInt8.toNat e
    simp at this; omega
   simp [this]
  ·subst h
   rw [List.getElem?_append_right (by simp [length_setA] <;> omega), show c.toNat - ((setA l).take c.toNat).length = 0 by simp [length_setA] <;> omega]
   simp
  ·rw [List.getElem?_append_right (by simp [length_setA]; omega)]
   have e : k - ((setA l).take c.toNat).length = (k - c.toNat - 1) + 1 := by simp [length_setA]; omega
   rw [e, List.getElem?_cons_succ, List.getElem?_drop, show c.toNat + 1 + (k - c.toNat - 1) = k by omega, setA_get _ _ hk]
   have : UInt8.ofNat k ≠ c := fun e => by
    have := congrArg UInt8.toNat e
    simp at this; omega
   simp [this]
 ·rw [List.getElem?_eq_none (by simp [length_setA]; omega), List.getElem?_eq_none (by simp [length_setA]; omega)]
theorem u8_lt (c : UInt8) : c.toNat < 256 := c.toNat_lt
theorem u8_lti (c : UInt8) : (c.toNat : Int) < 256 := by have := c.toNat_lt; omega
theorem contains_call (σ : Sto) (nx p nm : Nat) (l : List UInt8) (c : UInt8) (hs : sget σ p nm = some (.cells 131 (setA l))) : ACall CX 139 [.ref p nm 0, .int .u8 c.toNat] σ nx (Gets (.bool (decide (c ∈ l))) σ nx) := by
 refine acall_mk 10 [.tmp 4] Tryz.func139 rfl (by decide) rfl rfl rfl ?_
 have hc := u8_lti c
 have hc' := u8_lt c
 refine aw_sreg {} rfl rfl fun K KP hK hP => ?_
 simp only [go_sem, ↓reduceIte]
 apply hK; clear hK hP
 refine aw_sreg {} rfl rfl fun K KP hK hP => ?_
 simp only [go_sem, ↓reduceIte, hc, hc', hs, Nat.mul_one, setA_drop]
 apply hK; clear hK hP
 refine aw_ret ?_
 simp only [go_sem, ↓reduceIte, athen_ret]
def trimRi (p : UInt8 → Bool) (s : List UInt8) : Nat → List UInt8
 | 0 => []
 | i + 1 => if p (s.getD i 0) then trimRi p s i else s.take (i + 1)
theorem trimRight_call (σ : Sto) (nx p nm : Nat) (l s : List UInt8) (hs : sget σ p nm = some (.cells 131 (setA l))) (hl : s.length ≤ 4611686018427387904) : ACall CX 113 [.str s, .ref p nm 0] σ nx (Gets (.str (trimRi (fun c => decide (c ∈ l)) s s.length)) σ nx) := by
 refine acall_mk 22 [.tmp 4] Tryz.func113 rfl (by decide) rfl rfl rfl ?_
 refine aw_sreg {} rfl rfl fun K KP hK hP => ?_
 simp only [go_sem, ↓reduceIte]
 apply hK; clear hK hP
 refine aw_seq ?_
 refine aw_block ?_
 refine aw_loop' (fun dd st => ∃ (i : Nat), (i ≤ s.length) ∧ (trimRi (fun c => decide (c ∈ l)) s i = trimRi (fun c => decide (c ∈ l)) s s.length) ∧ i = dd ∧ σ = st.σ ∧ nx = st.nx ∧ st.env 0 = .str (s.take i) ∧ st.env 1 = .ref p nm 0) (fun dd st hJ => ?_) ?_
 ·
  obtain ⟨env0, σ0, nx0⟩ := st
  obtain ⟨i, hp0_0, hp0_1, hd0, hs0, hn0, e0_0, e0_1⟩ := hJ
  dsimp only at hs0 hn0 e0_0 e0_1
  subst hd0; subst hs0; subst hn0
  have hlen : (s.take i).length = i := by simp; omega
  refine aw_seq ?_
  refine aw_sreg {} rfl rfl fun K KP hK hP => ?_
  simp only [go_sem, ↓reduceIte, e0_0, e0_1, hlen]
  apply hK; clear hK hP
  refine aw_if (0 < i) (by simp only [go_sem, ↓reduceIte, e0_0, e0_1, hlen]) (fun h1 => ?_) (fun h1 => ?_)
  ·
   have hx : s[i - 1]? = some (s.getD (i - 1) 0) := by simp [show i - 1 < s.length by omega]
   have hx1 : (s.take i)[i - 1]? = some (s.getD (i - 1) 0) := by rw [List.getElem?_take, if_pos (by omega)]; exact hx
   have hw : IntKind.wrap .i64 ((i : Int) - 1) = ((i - 1 : Nat) : Int) := by rw [wrap64 (by omega) (by omega)]; omega
   have hm : i - 1 ≤ i := by omega
   have ht : (s.take i).take (i - 1) = s.take (i - 1) := by rw [List.take_take]; congr 1; omega
   refine aw_skip ?_
   refine athen_normal.2 ?_
   refine aw_block ?_
   refine aw_seq ?_
   refine aw_sreg { ac := [14] } rfl rfl fun K KP hK hP => ?_
   simp only [go_sem, ↓reduceIte, e0_0, e0_1, hlen, hx1, hw, hm, ht]
   refine CallP.acall (contains_call σ nx p nm l _ hs) ?_
   try simp only [go_sem, ↓reduceIte, e0_0, e0_1, hlen, hx1, hw, hm, ht]
   apply hK; clear hK hP
   refine aw_if (¬ (s.getD (i - 1) 0) ∈ l) (by simp only [go_sem, ↓reduceIte, e0_0, e0_1, hlen, hx1, hw, hm, ht]) (fun h2 => ?_) (fun h2 => ?_)
   ·
    refine aw_exit ?_
    refine athen_exit.2 ?_
    refine ablock_pass rfl ?_
    refine athen_exit.2 ?_
    refine ablock_here ?_
    refine athen_normal.2 ?_
    refine aw_sreg {} rfl rfl fun K KP hK hP => ?_
    simp only [go_sem, ↓reduceIte, e0_0, e0_1, hlen, hx1, hw, hm, ht]
    apply hK; clear hK hP
    refine aw_ret ?_
    simp only [go_sem, ↓reduceIte, e0_0, e0_1, hlen, hx1, hw, hm, ht, athen_ret] <;> (
     rw [← hp0_1]
     cases i with
     | zero => simp [trimRi]
     | succ j => first | (exfalso; omega) | (simp only [trimRi]; rw [if_neg (by simpa using h2)]))
   ·
    refine aw_skip ?_
    refine athen_normal.2 ?_
    refine aw_lreg {} rfl rfl fun K KP hK hP => ?_
    simp only [go_sem, ↓reduceIte, e0_0, e0_1, hlen, hx1, hw, hm, ht]
    apply hK; clear hK hP
    refine ablock_normal.2 ?_
    refine athen_normal.2 ?_
    refine ⟨_, ?_, (i - 1), ?_, ?_, rfl, rfl, rfl, ?_, ?_⟩
    ·omega
    ·first | omega | trivial | assumption
    ·rw [← hp0_1]
     cases i with
     | zero => rfl
     | succ j => simp only [Nat.add_sub_cancel, trimRi]; rw [if_pos (by simpa using h2)]
    ·simp only [go_sem, ↓reduceIte, e0_0, e0_1, hlen, hx1, hw, hm, ht] <;> try rfl
    ·simp only [go_sem, ↓reduceIte, e0_0, e0_1, hlen, hx1, hw, hm, ht] <;> try rfl
  ·
   refine aw_exit ?_
   refine athen_exit.2 ?_
   refine athen_exit.2 ?_
   refine ablock_here ?_
   refine athen_normal.2 ?_
   refine aw_sreg {} rfl rfl fun K KP hK hP => ?_
   simp only [go_sem, ↓reduceIte, e0_0, e0_1, hlen]
   apply hK; clear hK hP
   refine aw_ret ?_
   simp only [go_sem, ↓reduceIte, e0_0, e0_1, hlen, athen_ret] <;> (
    rw [← hp0_1]
    cases i with
    | zero => simp [trimRi]
    | succ j => first | (exfalso; omega) | (simp only [trimRi]; rw [if_neg (by simpa using h2)]))
 ·
  refine ⟨_, s.length, ?_, ?_, rfl, ?_, rfl, ?_, ?_⟩
  ·first | omega | trivial | assumption
  ·first | omega | trivial | assumption
  ·first | rfl | (simp only [go_sem, ↓reduceIte])
  ·simp only [go_sem, ↓reduceIte] <;> try rfl
  ·simp only [go_sem, ↓reduceIte] <;> try rfl
theorem trimLeft_call (σ : Sto) (nx p nm : Nat) (l s : List UInt8) (hs : sget σ p nm = some (.cells 131 (setA l))) : ACall CX 112 [.str s, .ref p nm 0] σ nx (Gets (.str (s.dropWhile fun c => decide (c ∈ l))) σ nx) := by
 refine acall_mk 16 [.tmp 4] Tryz.func112 rfl (by decide) rfl rfl rfl ?_
 refine aw_sreg {} rfl rfl fun K KP hK hP => ?_
 simp only [go_sem, ↓reduceIte]
 apply hK; clear hK hP
 refine aw_seq ?_
 refine aw_block ?_
 refine aw_loop' (fun dd st => ∃ (r : List UInt8), (r.dropWhile (fun c => decide (c ∈ l)) = s.dropWhile fun c => decide (c ∈ l)) ∧ r.length = dd ∧ σ = st.σ ∧ nx = st.nx ∧ st.env 0 = .str r ∧ st.env 1 = .ref p nm 0) (fun dd st hJ => ?_) ?_
 ·
  obtain ⟨env0, σ0, nx0⟩ := st
  obtain ⟨r, hp0_0, hd0, hs0, hn0, e0_0, e0_1⟩ := hJ
  dsimp only at hs0 hn0 e0_0 e0_1
  subst hd0; subst hs0; subst hn0
  refine aw_seq ?_
  refine aw_sreg {} rfl rfl fun K KP hK hP => ?_
  simp only [go_sem, ↓reduceIte, e0_0, e0_1]
  apply hK; clear hK hP
  refine aw_if (0 < r.length) (by simp only [go_sem, ↓reduceIte, e0_0, e0_1]) (fun h1 => ?_) (fun h1 => ?_)
  ·
   obtain ⟨c, r', rfl⟩ : ∃ c r', r = c :: r' := by cases r with | nil => simp at h1 | cons c r' => exact ⟨c, r', rfl⟩
   have h11 : (1 : Int) ≤ ((r'.length + 1 : Nat) : Int) := by omega
   refine aw_skip ?_
   refine athen_normal.2 ?_
   refine aw_block ?_
   refine aw_seq ?_
   refine aw_sreg { ac := [11] } rfl rfl fun K KP hK hP => ?_
   simp only [go_sem, ↓reduceIte, e0_0, e0_1, h11]
   refine CallP.acall (contains_call σ nx p nm l _ hs) ?_
   try simp only [go_sem, ↓reduceIte, e0_0, e0_1, h11]
   apply hK; clear hK hP
   refine aw_if (¬ c ∈ l) (by simp only [go_sem, ↓reduceIte, e0_0, e0_1, h11]) (fun h2 => ?_) (fun h2 => ?_)
   ·
    refine aw_exit ?_
    refine athen_exit.2 ?_
    refine ablock_pass rfl ?_
    refine athen_exit.2 ?_
    refine ablock_here ?_
    refine athen_normal.2 ?_
    refine aw_sreg {} rfl rfl fun K KP hK hP => ?_
    simp only [go_sem, ↓reduceIte, e0_0, e0_1, h11]
    apply hK; clear hK hP
    refine aw_ret ?_
    simp only [go_sem, ↓reduceIte, e0_0, e0_1, h11, athen_ret] <;> (
     rw [← hp0_0]
     first | (cases r with | nil => rfl | cons => simp at h1) | (rw [List.dropWhile_cons, if_neg (by simpa using h2)]))
   ·
    refine aw_skip ?_
    refine athen_normal.2 ?_
    refine aw_lreg {} rfl rfl fun K KP hK hP => ?_
    simp only [go_sem, ↓reduceIte, e0_0, e0_1, h11]
    apply hK; clear hK hP
    refine ablock_normal.2 ?_
    refine athen_normal.2 ?_
    refine ⟨_, ?_, r', ?_, rfl, rfl, rfl, ?_, ?_⟩
    ·simp
    ·rw [← hp0_0, List.dropWhile_cons, if_pos (by simpa using h2)]
    ·simp only [go_sem, ↓reduceIte, e0_0, e0_1, h11] <;> try rfl
    ·simp only [go_sem, ↓reduceIte, e0_0, e0_1, h11] <;> try rfl
  ·
   refine aw_exit ?_
   refine athen_exit.2 ?_
   refine athen_exit.2 ?_
   refine ablock_here ?_
   refine athen_normal.2 ?_
   refine aw_sreg {} rfl rfl fun K KP hK hP => ?_
   simp only [go_sem, ↓reduceIte, e0_0, e0_1]
   apply hK; clear hK hP
   refine aw_ret ?_
   simp only [go_sem, ↓reduceIte, e0_0, e0_1, athen_ret] <;> (
    rw [← hp0_0]
    first | (cases r with | nil => rfl | cons => simp at h1) | (rw [List.dropWhile_cons, if_neg (by simpa using h2)]))
 ·
  refine ⟨_, s, ?_, rfl, ?_, rfl, ?_, ?_⟩
  ·first | omega | trivial | assumption
  ·first | rfl | (simp only [go_sem, ↓reduceIte])
  ·simp only [go_sem, ↓reduceIte] <;> try rfl
  ·simp only [go_sem, ↓reduceIte] <;> try rfl
theorem loadC_setA (l : List UInt8) : loadC Tryz.prog 131 (setA l) = some (.agg (setA l)) := by
 have h := length_setA l
 simp only [loadC, aggT_131, szT_131, h, Nat.le_refl, if_true]
 rw [List.take_of_length_le (by omega)]
theorem makeSet_call (s : List UInt8) (hs : ∀ c ∈ s, c < 128) (hl : s.length ≤ 4611686018427387904) : PCall CX 111 [.str s] (· = .ret (.tup [.agg (setA s), .bool true])) := by
 have hd : ∀ l, (setA l).drop 256 = [] := fun l => List.drop_of_length_le (by simp [length_setA])
 refine pcall_mk 0 21 [.cell 2 131, .tmp 3] Tryz.func111 rfl (by decide) rfl rfl rfl ?_
 refine aw_sreg {} rfl (by simp only [allocObjs, go_sem]; rfl) fun K KP hK hP => ?_
 simp only [go_sem, ↓reduceIte]
 apply hK; clear hK hP
 refine aw_seq ?_
 refine aw_sreg {} rfl rfl fun K KP hK hP => ?_
 simp only [go_sem, ↓reduceIte]
 apply hK; clear hK hP
 refine aw_block ?_
 refine aw_loop' (fun dd st => ∃ (i : Nat), (i ≤ s.length) ∧ s.length - i = dd ∧ [(0, .cells 131 (setA (s.take i)))] = st.σ ∧ st.env 0 = .str s ∧ st.env 2 = .ref 0 0 0 ∧ st.env 4 = .int .i64 (i : Nat)) (fun dd st hJ => ?_) ?_
 ·
  obtain ⟨env0, σ0, nx0⟩ := st
  obtain ⟨i, hp0_0, hd0, hs0, e0_0, e0_2, e0_4⟩ := hJ
  dsimp only at hs0  e0_0 e0_2 e0_4
  subst hd0; subst hs0
  refine aw_forget' 1 rfl ?_
  refine aw_seq ?_
  refine aw_sreg {} rfl rfl fun K KP hK hP => ?_
  simp only [go_sem, ↓reduceIte, e0_0, e0_2, e0_4]
  apply hK; clear hK hP
  refine aw_if (i < s.length) (by simp only [go_sem, ↓reduceIte, e0_0, e0_2, e0_4]) (fun h2 => ?_) (fun h2 => ?_)
  ·
   have hx : s[i]? = some s[i] := List.getElem?_eq_getElem h2
   have hlt := hs _ (List.getElem_mem h2)
   have hln : ¬ (128 : Int) ≤ (s[i].toNat : Int) := by have : s[i].toNat < 128 := hlt; omega
   have hc := u8_lti s[i]
   have hc' := u8_lt s[i]
   have hw : IntKind.wrap .i64 ((i : Int) + 1) = ((i + 1 : Nat) : Int) := by rw [wrap64 (by omega) (by omega)]; omega
   have ht : setA (s.take i ++ [s[i]]) = setA (s.take (i + 1)) := by rw [List.take_succ_eq_append_getElem h2]
   refine aw_skip ?_
   refine athen_normal.2 ?_
   refine aw_seq ?_
   refine aw_block ?_
   refine aw_sreg {} rfl rfl fun K KP hK hP => ?_
   simp only [go_sem, ↓reduceIte, e0_0, e0_2, e0_4, hx, hln, hc, hc', hw]
   apply hK; clear hK hP
   refine aw_seq ?_
   refine aw_sreg {} rfl rfl fun K KP hK hP => ?_
   simp only [go_sem, ↓reduceIte, e0_0, e0_2, e0_4, hx, hln, hc, hc', hw]
   apply hK; clear hK hP
   refine aw_if (False) (by simp only [go_sem, ↓reduceIte, e0_0, e0_2, e0_4, hx, hln, hc, hc', hw]) (fun h5 => ?_) (fun h5 => ?_)
   ·
    exact h5.elim
   ·
    refine aw_skip ?_
    refine athen_normal.2 ?_
    refine aw_lreg {} rfl rfl fun K KP hK hP => ?_
    simp only [go_sem, ↓reduceIte, e0_0, e0_2, e0_4, hx, hln, hc, hc', hw, Nat.mul_one, setA_put, ht, Nat.succ_le_of_lt hc']
    apply hK; clear hK hP
    refine ablock_normal.2 ?_
    refine athen_normal.2 ?_
    refine aw_lreg {} rfl rfl fun K KP hK hP => ?_
    simp only [go_sem, ↓reduceIte, e0_0, e0_2, e0_4, hx, hln, hc, hc', hw]
    apply hK; clear hK hP
    refine afor_one ?_
    refine athen_normal.2 ?_
    refine ⟨_, ?_, i + 1, ?_, rfl, rfl, ?_, ?_, ?_⟩
    ·omega
    ·first | omega | trivial | assumption
    ·simp only [go_sem, ↓reduceIte, e0_0, e0_2, e0_4, hx, hln, hc, hc', hw] <;> try rfl
    ·simp only [go_sem, ↓reduceIte, e0_0, e0_2, e0_4, hx, hln, hc, hc', hw] <;> try rfl
    ·simp only [go_sem, ↓reduceIte, e0_0, e0_2, e0_4, hx, hln, hc, hc', hw] <;> try rfl
  ·
   refine aw_exit ?_
   refine athen_exit.2 ?_
   refine afor_one ?_
   refine athen_exit.2 ?_
   refine ablock_here ?_
   refine athen_normal.2 ?_
   refine aw_sreg {} rfl rfl fun K KP hK hP => ?_
   simp only [go_sem, ↓reduceIte, e0_0, e0_2, e0_4, loadC_setA, hd]
   apply hK; clear hK hP
   refine aw_ret ?_
   simp only [go_sem, ↓reduceIte, e0_0, e0_2, e0_4, athen_ret, loadC_setA] <;> (
    have hi : i = s.length := by omega
    subst hi
    simp only [List.take_length]
    refine ⟨?_, trivial⟩
    refine (RFL_iff _).2 fun x hx => ?_
    obtain ⟨c, _, rfl⟩ := List.mem_map.1 hx
    trivial)
 ·
  refine ⟨_, 0, ?_, rfl, ?_, ?_, ?_, ?_⟩
  ·first | omega | trivial | assumption
  ·simp only [List.take_zero, setA_nil]
  ·simp only [go_sem, ↓reduceIte] <;> try rfl
  ·simp only [go_sem, ↓reduceIte] <;> try rfl
  ·simp only [go_sem, ↓reduceIte] <;> try rfl
def digitsL : List UInt8 := [48, 49, 50, 51, 52, 53, 54, 55, 56, 57]
def trimS (s : List UInt8) : List UInt8 := (trimRi (fun c => decide (c ∈ digitsL)) s s.length).dropWhile fun c => decide (c ∈ digitsL)
theorem trim_call (s : List UInt8) (hl : s.length ≤ 4611686018427387904) : PCall CX 75 [.str s, .str digitsL] (· = .ret (.str (trimS s))) := by
 have hdl : ((digitsL.length : Nat) : Int) = 10 := rfl
 have hne : digitsL ≠ [] := by decide
 refine pcall_mk 0 43 [.tmp 4] Tryz.func75 rfl (by decide) rfl rfl rfl ?_
 refine aw_sreg {} rfl rfl fun K KP hK hP => ?_
 simp only [go_sem, ↓reduceIte]
 apply hK; clear hK hP
 refine aw_seq ?_
 by_cases c1 : s = []
 ·
  refine aw_sreg {} rfl rfl fun K KP hK hP => ?_
  simp only [go_sem, ↓reduceIte, c1, hne]
  apply hK; clear hK hP
  refine aw_if (True) (by simp only [go_sem, ↓reduceIte, c1]) (fun h1 => ?_) (fun h1 => ?_)
  ·
   refine aw_sreg {} rfl rfl fun K KP hK hP => ?_
   simp only [go_sem, ↓reduceIte, c1]
   apply hK; clear hK hP
   refine aw_ret ?_
   refine athen_ret.2 ?_
   simp only [go_sem, ↓reduceIte, c1, athen_ret] <;> (
    simp [trimS, trimRi, c1])
  ·
   exact absurd trivial h1
 ·
  refine aw_sreg {} rfl rfl fun K KP hK hP => ?_
  simp only [go_sem, ↓reduceIte, c1, hne]
  apply hK; clear hK hP
  refine aw_if (False) (by simp only [go_sem, ↓reduceIte, c1]) (fun h1 => ?_) (fun h1 => ?_)
  ·
   exact h1.elim
  ·
   refine aw_skip ?_
   refine athen_normal.2 ?_
   refine aw_seq ?_
   refine aw_sreg {} rfl rfl fun K KP hK hP => ?_
   simp only [go_sem, ↓reduceIte, c1, hdl]
   apply hK; clear hK hP
   refine aw_if (False) (by simp only [go_sem, ↓reduceIte, c1]) (fun h3 => ?_) (fun h3 => ?_)
   ·
    exact h3.elim
   ·
    refine aw_skip ?_
    refine athen_normal.2 ?_
    refine aw_seq ?_
    refine aw_sreg {} rfl (by simp only [allocObjs, go_sem]; rfl) fun K KP hK hP => ?_
    simp only [go_sem, ↓reduceIte, c1]
    refine CallP.ret (makeSet_call digitsL (by decide) (by decide)) (by simp only [go_sem]) ?_
    try simp only [go_sem, ↓reduceIte, c1]
    apply hK; clear hK hP
    refine aw_sreg {} rfl rfl fun K KP hK hP => ?_
    simp only [go_sem, ↓reduceIte, c1]
    apply hK; clear hK hP
    refine aw_if (True) (by simp only [go_sem, ↓reduceIte, c1]) (fun h6 => ?_) (fun h6 => ?_)
    ·
     refine aw_sreg { ac := [36, 37] } rfl rfl fun K KP hK hP => ?_
     simp only [go_sem, ↓reduceIte, c1]
     refine CallP.acall (trimRight_call _ _ 0 0 digitsL s rfl hl) ?_
     try simp only [go_sem, ↓reduceIte, c1]
     refine CallP.acall (trimLeft_call _ _ 0 0 digitsL _ rfl) ?_
     try simp only [go_sem, ↓reduceIte, c1]
     apply hK; clear hK hP
     refine aw_ret ?_
     refine athen_ret.2 ?_
     simp only [go_sem, ↓reduceIte, c1, athen_ret] <;> (
      rfl)
    ·
     exact absurd trivial h6
theorem dropWhile_nil (p : UInt8 → Bool) : ∀ l : List UInt8, l.dropWhile p = [] ↔ ∀ c ∈ l, p c = true
 | [] => by simp
 | c :: l => by
  rw [List.dropWhile_cons]
  split
  ·rename_i h; rw [dropWhile_nil p l]; simp [h]
  ·rename_i h; simp [h]
theorem trimRi_nil (p : UInt8 → Bool) (s : List UInt8) : ∀ i, i ≤ s.length → ((trimRi p s i).dropWhile p = [] ↔ ∀ c ∈ s.take i, p c = true)
 | 0, _ => by simp [trimRi]
 | i + 1, h => by
  have hx : s.getD i 0 = s[i] := by simp [show i < s.length by omega]
  simp only [trimRi, hx]
  rw [List.take_succ_eq_append_getElem (by omega)]
  split
  ·rename_i hp
   rw [trimRi_nil p s i (by omega)]
   constructor
   ·intro h1 c hc
    rcases List.mem_append.1 hc with hc | hc
    ·exact h1 c hc
    ·simp at hc; subst hc; exact hp
   ·intro h1 c hc; exact h1 c (List.mem_append.2 (.inl hc))
  ·rename_i hp
   constructor
   ·intro h1
    exact (dropWhile_nil p _).1 h1
   ·intro h1
    exact absurd (h1 s[i] (List.mem_append.2 (.inr (by simp)))) hp
def digitB (c : UInt8) : Bool := decide (c ∈ digitsL)
theorem trimS_nil (s : List UInt8) : trimS s = [] ↔ s.all digitB = true := by
 unfold trimS
 rw [trimRi_nil _ _ _ (Nat.le_refl _), List.take_length, List.all_eq_true]
 rfl
def cutMinus (s : List UInt8) : List UInt8 := if s.head? = some 45 then s.tail else s
def numericS (s : List UInt8) : Bool := decide (cutMinus s ≠ []) && (cutMinus s).all digitB
theorem cutMinus_eq (s : List UInt8) [Decidable ([45].length ≤ s.length ∧ s.take [45].length = [45])] : (if [45].length ≤ s.length ∧ s.take [45].length = [45] then s.drop [45].length else s) = cutMinus s := by
 unfold cutMinus
 cases s with
 | nil => simp
 | cons c r => by_cases h : c = 45 <;> simp [h]
theorem cutMinus_length (s : List UInt8) : (cutMinus s).length ≤ s.length := by
 unfold cutMinus
 split
 ·simp
 ·exact Nat.le_refl _
theorem numeric_call (s : List UInt8) (hl : s.length ≤ 4611686018427387904) : PCall CX 94 [.str s] (· = .ret (.bool (numericS s))) := by
 have hcl := cutMinus_length s
 refine pcall_mk 0 12 [.tmp 2] Tryz.func94 rfl (by decide) rfl rfl rfl ?_
 refine aw_sreg {} rfl rfl fun K KP hK hP => ?_
 simp only [go_sem, ↓reduceIte]
 apply hK; clear hK hP
 refine aw_sreg {} rfl rfl fun K KP hK hP => ?_
 simp only [go_sem, ↓reduceIte]
 refine CallP.ret ((trimPrefix_call s [45]).mono fun o h => h.trans (congrArg (fun x => AOut.ret (.str x)) (cutMinus_eq s))) (by simp only [go_sem]) ?_
 try simp only [go_sem, ↓reduceIte]
 apply hK; clear hK hP
 by_cases c2 : cutMinus s = []
 ·
  refine aw_sreg {} rfl rfl fun K KP hK hP => ?_
  simp only [go_sem, ↓reduceIte, c2]
  apply hK; clear hK hP
  refine aw_ret ?_
  simp only [go_sem, ↓reduceIte, c2, athen_ret] <;> (
   simp [numericS, c2])
 ·
  refine aw_sreg {} rfl rfl fun K KP hK hP => ?_
  simp only [go_sem, ↓reduceIte, c2]
  refine CallP.ret (trim_call (cutMinus s) (by omega)) (by simp only [go_sem]) ?_
  try simp only [go_sem, ↓reduceIte, c2]
  apply hK; clear hK hP
  refine aw_ret ?_
  simp only [go_sem, ↓reduceIte, c2, athen_ret] <;> (
   have hb : decide (trimS (cutMinus s) = []) = (cutMinus s).all digitB := by rw [Bool.eq_iff_iff, decide_eq_true_iff]; exact trimS_nil _
   rw [hb]
   simp [numericS, c2])
theorem indexString_call (s : List UInt8) (c : UInt8) : PCall CX 138 [.str s, .int .u8 c.toNat] (· = .ret (.int .i64 (Lib.indexByte s c))) := by
 intro kn w vs hk hr
 obtain ⟨v, vs', rfl, h1, hr'⟩ := hr.uncons
 obtain ⟨u, vs'', rfl, h2, hr''⟩ := hr'.uncons
 have : vs'' = [] := List.eq_nil_of_length_eq_zero hr''.1.symm
 subst this
 cases h1
 cases h2
 refine .inr ⟨.int .i64 (Lib.indexByte s c), w, ?_, .ret (.int .i64 (Lib.indexByte s c)), kn, rfl, .int _ _, hk, Below.refl _ _, fun _ _ => rfl⟩
 refine (run_callFunc_extern (P := CX.P) (e := Extern.BytealgIndexByte.indexByte) (fn := Tryz.f138) Tryz.func138 (by decide) rfl (by kernel_rfl) (by kernel_rfl) _ w).trans ?_
 have h := Lib.run_indexByteString (P := CX.P) ⟨s.toArray⟩ c.toNat w
 rw [show (#[Value.string ⟨s.toArray⟩, .int .u8 (c.toNat : Int)] : Array Value) = [Value.string ⟨s.toArray⟩, .int .u8 (c.toNat : Int)].toArray from rfl] at h
 rw [h]
 simp [Result.andThen]
theorem slIndexByte_call (s : List UInt8) (c : UInt8) : PCall CX 107 [.str s, .int .u8 c.toNat] (· = .ret (.int .i64 (Lib.indexByte s c))) := by
 refine pcall_mk 0 8 [.tmp 4] Tryz.func107 rfl (by decide) rfl rfl rfl ?_
 refine aw_sreg {} rfl rfl fun K KP hK hP => ?_
 simp only [go_sem, ↓reduceIte]
 apply hK; clear hK hP
 refine aw_sreg {} rfl rfl fun K KP hK hP => ?_
 simp only [go_sem, ↓reduceIte]
 refine CallP.ret (indexString_call s c) (by simp only [go_sem]) ?_
 try simp only [go_sem, ↓reduceIte]
 apply hK; clear hK hP
 refine aw_ret ?_
 simp only [go_sem, ↓reduceIte, athen_ret]
theorem indexByte_call (s : List UInt8) (c : UInt8) : PCall CX 73 [.str s, .int .u8 c.toNat] (· = .ret (.int .i64 (Lib.indexByte s c))) := by
 refine pcall_mk 0 8 [.tmp 4] Tryz.func73 rfl (by decide) rfl rfl rfl ?_
 refine aw_sreg {} rfl rfl fun K KP hK hP => ?_
 simp only [go_sem, ↓reduceIte]
 apply hK; clear hK hP
 refine aw_sreg {} rfl rfl fun K KP hK hP => ?_
 simp only [go_sem, ↓reduceIte]
 refine CallP.ret (slIndexByte_call s c) (by simp only [go_sem]) ?_
 try simp only [go_sem, ↓reduceIte]
 apply hK; clear hK hP
 refine aw_ret ?_
 simp only [go_sem, ↓reduceIte, athen_ret]
def outsideS (c : UInt8) : Bool := decide (c.toNat < 33) || decide (126 < c.toNat) || decide (c ∈ ([40, 41, 34, 59] : List UInt8))
theorem indexByte_four (c : UInt8) : (0 ≤ Lib.indexByte [40, 41, 34, 59] c) ↔ c ∈ ([40, 41, 34, 59] : List UInt8) := by
 revert c
 have : ∀ n : Fin 256, (0 ≤ Lib.indexByte [40, 41, 34, 59] (UInt8.ofFin n)) ↔ (UInt8.ofFin n) ∈ ([40, 41, 34, 59] : List UInt8) := by decide +kernel
 exact fun c => this c.toFin
theorem outside_call (c : UInt8) : PCall CX 95 [.int .u8 c.toNat] (· = .ret (.bool (outsideS c))) := by
 refine pcall_mk 0 14 [.tmp 2] Tryz.func95 rfl (by decide) rfl rfl rfl ?_
 refine aw_sreg {} rfl rfl fun K KP hK hP => ?_
 simp only [go_sem, ↓reduceIte]
 apply hK; clear hK hP
 by_cases c1_0 : ((c.toNat : Nat) : Int) < 33
 ·
  refine aw_sreg {} rfl rfl fun K KP hK hP => ?_
  simp only [go_sem, ↓reduceIte, c1_0]
  apply hK; clear hK hP
  refine aw_ret ?_
  simp only [go_sem, ↓reduceIte, c1_0, athen_ret] <;> (
   have : c.toNat < 33 := by omega
   simp [outsideS, this])
 ·
  by_cases c1_1 : 126 < ((c.toNat : Nat) : Int)
  ·
   refine aw_sreg {} rfl rfl fun K KP hK hP => ?_
   simp only [go_sem, ↓reduceIte, c1_0, c1_1]
   apply hK; clear hK hP
   refine aw_ret ?_
   simp only [go_sem, ↓reduceIte, c1_0, c1_1, athen_ret] <;> (
    have : 126 < c.toNat := by omega
    simp [outsideS, this])
  ·
   refine aw_sreg {} rfl rfl fun K KP hK hP => ?_
   simp only [go_sem, ↓reduceIte, c1_0, c1_1]
   refine CallP.ret (indexByte_call _ c) (by simp only [go_sem]) ?_
   try simp only [go_sem, ↓reduceIte, c1_0, c1_1]
   apply hK; clear hK hP
   refine aw_ret ?_
   simp only [go_sem, ↓reduceIte, c1_0, c1_1, athen_ret] <;> (
    have h1 : ¬ c.toNat < 33 := by omega
    have h2 : ¬ 126 < c.toNat := by omega
    have h3 : decide (0 ≤ Lib.indexByte [40, 41, 34, 59] c) = decide (c ∈ ([40, 41, 34, 59] : List UInt8)) := by rw [Bool.eq_iff_iff, decide_eq_true_iff, decide_eq_true_iff]; exact indexByte_four c
    rw [h3]
    simp [outsideS, h1, h2])
end Go.Ab

namespace Go.Ab
open Go Go.RowKit Go.Proofs
theorem uPB : Tryz.prog.underlying 45 = some (.pointer 48) := by kernel_rfl
theorem uUP : Tryz.prog.underlying 104 = some .unsafePointer := by kernel_rfl
theorem iB : ∃ j, Tryz.prog.info? 48 = some j ∧ j.size = 2 := by
 have h : (Tryz.prog.info? 48).map (·.size) = some 2 := by kernel_rfl
 exact Option.map_eq_some_iff.1 h
set_option maxHeartbeats 1000000 in
set_option maxRecDepth 100000 in
theorem copyCheck_used (b : Nat) (w : World) (h0 : w.cell? ⟨b, 0, none⟩ = some (.pointer (some ⟨b, 0, none⟩))) :
  Calls Tryz.prog 51 #[.pointer (some ⟨b, 0, none⟩)] w fun e w' => e = .returned (.tuple #[]) ∧ w' = w := by
 obtain ⟨j, hj, _⟩ := iB
 go_enter Tryz.func51, Tryz.ntmps51
 go_wp2
 rw [Lib.run_neq_ptr_same w _ uPB hj]
 go_wp2
 go_end0
 exact ⟨rfl, rfl⟩
set_option maxHeartbeats 1000000 in
set_option maxRecDepth 100000 in
theorem copyCheck_fresh (b : Nat) (w : World) (h0 : w.cell? ⟨b, 0, none⟩ = some (.pointer none)) (hsh : w.shape? b = some (48, 2)) (hfz : w.frozen? ⟨b, 0, none⟩ = false) :
  Calls Tryz.prog 51 #[.pointer (some ⟨b, 0, none⟩)] w fun e w' => e = .returned (.tuple #[]) ∧ w' = w.setCell ⟨b, 0, none⟩ (.pointer (some ⟨b, 0, none⟩)) := by
 obtain ⟨j, hj, hjs⟩ := iB
 go_enter Tryz.func51, Tryz.ntmps51
 go_wp2
 rw [Lib.run_to_unsafe w ⟨b, 0, none⟩ uPB uUP hj (by rw [hjs]; decide) hsh (Nat.zero_lt_succ 1)]
 simp only [Result.andThen]
 rw [Oper.upon_value]
 go_wp2
 rw [run_callFunc_extern Tryz.func78 (by kernel_rfl) (by kernel_rfl) (by kernel_rfl) (e := Extern.AbiNoEscape.same) (by kernel_rfl)]
 rw [Lib.run_noEscape]
 simp only [Result.andThen]
 rw [Oper.upon_value]
 go_wp2
 rw [Lib.run_from_unsafe w ⟨b, 0, none⟩ uUP uPB hj hsh (by kernel_rfl)]
 simp only [Result.andThen]
 rw [Oper.upon_value]
 go_wp2
 go_end0
 exact ⟨rfl, rfl⟩
theorem Inv.nxup {C : Cx} {B : Base} {kn : Kn} {m : Mp} {σ : Sto} {nx nx' : Nat} {w : World} (h : Inv C B kn m σ nx w) (hn : nx ≤ nx') : Inv C B kn m σ nx' w :=
 ⟨h.knok, h.size, h.os, h.tape, h.output, h.old, h.obj, h.own, h.dist, fun n q => h.dom n (Nat.le_trans hn q), fun p nm ob e => Nat.lt_of_lt_of_le (h.lt p nm ob e) hn, h.uniq, h.stk1, h.glob, h.tab⟩
abbrev bldCells : List Sh := [.mref 0 0, .gs 1 (.int .u8)]
abbrev bldO (k : Bool) : Slots := [(k, .cells 48 bldCells), (k, .tg (.int .u8) 5)]
def S_copyCheck : Sig := .o ⟨bldO false, [.ref 0 0], bldO true, .tup [], fun x => some ((), ((true, (), ()), x.2.2.1, ()))⟩
theorem S_copyCheck_ok : SigOK CX 51 S_copyCheck := by
 refine ⟨by kernel_rfl, fun x r hr B kn m w vs hI hlay hargs => ?_⟩
 cases hr
 obtain ⟨loc, hm⟩ := hlay 0 (by decide)
 obtain ⟨xa, ⟨⟨b0, u1, u2⟩, l, u3⟩⟩ := x
 have hp : (osto 0 (bldO false) ((b0, u1, u2), l, u3))[0]? = some (0, .cells 48 [.mref 0 0 0 b0, .gs 1 1 (.int .u8) l.length]) := rfl
 have hob := hI.obj _ _ _ hp
 simp only [ObjRel, hm] at hob
 obtain ⟨hnl, h0, arr, hw, hrl, hone⟩ := hob
 obtain ⟨v0, vs0, ha0, hr0, hrl⟩ := hrl.uncons
 obtain ⟨v1, vs1, rfl, hr1, hrl⟩ := hrl.uncons
 have : vs1 = [] := List.eq_nil_of_length_eq_zero hrl.1.symm
 subst this
 have harr : arr = #[v0, v1] := by rw [← Array.toArray_toList (xs := arr), ha0]
 subst harr
 obtain ⟨a, as1, rfl, hra, hargs⟩ := RelL.uncons hargs
 have : as1 = [] := List.eq_nil_of_length_eq_zero hargs.1.symm
 subst this
 have hra : Rel kn m (.ref 0 0 0) a := hra
 cases hra with
 | ref _ _ _ loc' hm' =>
  rw [hm] at hm'; cases hm'
  rw [h0]
  refine .inl ⟨by kernel_rfl, ?_⟩
  have fin : ∀ w', w'.heap.size = w.heap.size → w'.os = w.os → w'.tape = w.tape → w'.output = w.output → (∀ b, b ≠ loc.blk → w'.heap[b]? = w.heap[b]?) → w'.heap[loc.blk]? = some (.cells #[.pointer (some ⟨loc.blk, 0, none⟩), v1] 48 (0, 0)) →
    ∃ kn' m', KnLe kn kn' ∧ Inv CX B kn' m' (osto 2 (bldO true) ((true, (), ()), l, ())) (2 + 2) w' ∧ (∀ i, i < 2 → m' i = m i) ∧ (∀ j, j < 2 → ∃ loc, m' (nameOf 2 j (bldO true)) = some loc) ∧ RelOut kn' m' (.ret (.tup [])) (.returned (.tuple #[])) := fun w' q1 q2 q3 q4 q5 q6 => by
   obtain ⟨k1, k2⟩ := hI.write (ob' := .cells 48 [.mref 0 0 0 true, .gs 1 1 (.int .u8) l.length]) hp trivial hm hnl q1 q2 q3 q4 q5 (by
    simp only [ObjRel, hm]
    refine ⟨hnl, h0, _, q6, .cons ?_ (.cons hr1 (.nil _ _)), fun v hv => ?_⟩
    ·have := Rel.mrefSome (kn := kn) 0 0 0 loc hm
     rw [h0] at this
     exact this
    ·simp at hv
     rcases hv with rfl | rfl
     ·rfl
     ·exact hone _ (by rw [ha0]; simp))
   refine ⟨kn, m, KnLe.refl _, k1.nxup (by show 0 + 2 ≤ 4; omega), fun _ _ => rfl, fun j hj => ?_, .tup [] #[] rfl (fun i x v e => by simp at e)⟩
   have hj2 : nameOf 2 j (bldO true) = j := by
    match j, hj with
    | 0, _ => rfl
    | 1, _ => rfl
   rw [hj2]
   exact hlay j hj
  have hr0 : Rel kn m (.mref 0 0 0 b0) v0 := hr0
  cases hr0 with
  | mrefSome _ _ _ loc' hm' =>
   rw [hm] at hm'; cases hm'
   rw [h0] at hw
   refine (copyCheck_used loc.blk w (by rw [Lib.cell_of_heap hw]; rfl)).mono fun e w' ⟨he, hw'⟩ => ?_
   subst he; rw [hw']
   exact fin w rfl rfl rfl rfl (fun _ _ => rfl) hw
  | mrefNil =>
   refine (copyCheck_fresh loc.blk w (by rw [Lib.cell_of_heap hw]; rfl) (by simp [World.shape?, hw]) (Lib.frozen_of_heap hw 0)).mono fun e w' ⟨he, hw'⟩ => ?_
   subst he; rw [hw']
   exact fin _ (by simp [World.setCell]) rfl rfl rfl (fun b hb => Below.heap_setCell _ _ _ _ hb) (by simp [World.setCell, Array.getElem?_modify, hw])
theorem liesAt_off {P : Program} {e : TypeId} (hc : P.cellsOf e = 1) (count o n : Nat) (hn : o + n ≤ count) : liesAt P P.depth e count o e n = true := by
 have hd : P.depth = (2 * (P.types.size + Made.depth) + 1) + 1 := rfl
 rw [hd]
 simp only [liesAt, Bool.or_eq_true]
 left
 rw [hd]
 simp [rowAt, hc, hn, sameLayout, Nat.mod_one]
theorem run_unsafeString_off {P : Program} (w : World) (pt it ty e : TypeId) (hp : P.underlying pt = some (.pointer e)) (hc : P.cellsOf e = 1) (g o cells : Nat) (hsh : w.shape? g = some (e, cells)) (l : List UInt8) (h0 : l ≠ []) (hn : o + l.length ≤ cells) (h63 : l.length ≤ 9223372036854775807)
  (hcell : ∀ j x, l[j]? = some x → w.cell? ((⟨g, o, none⟩ : Addr).add j) = some (.int .u8 x.toNat)) :
  (Builtin.unsafeString_ #[pt, it] ty #[.pointer (some ⟨g, o, none⟩), .int .i64 l.length]).run P w = .ok (.string ⟨l.toArray⟩) (w.freeze ⟨g, o, none⟩ l.length) := by
 have hl : l.length ≠ 0 := by simpa using h0
 have hlb := Lib.run_loadBytes (P := P) w l ⟨g, o, none⟩ .empty hcell
 have hlies := liesAt_off (P := P) hc (cells / P.cellsOf e) o l.length (by rw [hc]; simpa using hn)
 have h63' : ¬ (9223372036854775807 : Int) < (l.length : Int) := by omega
 have hdef : Builtin.unsafeString_ #[pt, it] ty #[.pointer (some ⟨g, o, none⟩), .int .i64 l.length] =
   (do
    let n ← asInt (.int .i64 l.length)
    if n < 0 then runtimePanic (.error "unsafe.String: len out of range")
    if n > IntKind.i64.max then unsupported (.unsafePointer "String: a length above the largest int")
    if n = 0 then pure (.string .empty)
    else if ← variablesAt ⟨g, o, none⟩ (← elemOf pt) n.toNat then do
     let s ← loadBytes ⟨g, o, none⟩ .empty n.toNat
     freeze ⟨g, o, none⟩ n.toNat
     pure (.string s)
    else unsupported (.unsafePointer "String: not so many bytes at ptr")) := rfl
 rw [hdef]
 have hmax : IntKind.i64.max = 9223372036854775807 := rfl
 have hneg : ¬ (l.length : Int) < 0 := by omega
 simp [asInt, asIntOf, hmax, h63', hneg, hl, variablesAt, hsh, elemOf, run_underlying hp, hlies, hlb]
theorem uPU : Tryz.prog.underlying 81 = some (.pointer 5) := by kernel_rfl
theorem cU8 : Tryz.prog.cellsOf 5 = 1 := by kernel_rfl
abbrev Same (w w' : World) (g : Nat) : Prop := w.heap.size ≤ w'.heap.size ∧ w'.os = w.os ∧ w'.tape = w.tape ∧ w'.output = w.output ∧ ∀ b, b < w.heap.size → b ≠ g → w'.heap[b]? = w.heap[b]?
theorem same_drew (w : World) (g : Nat) : Same w w.drew g := ⟨Nat.le_refl _, rfl, rfl, rfl, fun _ _ _ => rfl⟩
theorem same_freeze (w : World) (g o n : Nat) : Same w (w.drew.freeze ⟨g, o, none⟩ n) g := by
 obtain ⟨k1, k2, k3, k4, _⟩ := Lib.below_freeze (Below.drew (Below.refl g w)) (p := ⟨g, o, none⟩) (Nat.le_refl g) n
 refine ⟨k4, k1, k2, k3, fun b hb hne => ?_⟩
 unfold World.freeze
 split
 ·rfl
 ·show (Array.modify _ _ _)[b]? = _
  rw [Array.getElem?_modify, if_neg (fun e => hne e.symm)]
  rfl
theorem same_alloc (w : World) (g : Nat) (ob : Obj) : Same w (w.drew.alloc ob) g := ⟨by simp, rfl, rfl, rfl, fun b hb _ => Below.heap_alloc _ _ _ hb⟩
theorem mixedO : Tryz.prog.follows .mixedOrders = true := by kernel_rfl
set_option maxHeartbeats 2000000 in
set_option maxRecDepth 100000 in
theorem string_row (b g o cap : Nat) (cur : Array Value) (w : World) (l : List UInt8) (p : Value) (h0 : l ≠ []) (hbk : w.heap[b]? = some (.cells #[p, .slice (some ⟨g, o, none⟩) l.length cap] 48 (0, 0)))
  (hg : w.heap[g]? = some (.cells cur 5 (0, 0))) (hnc : l.length ≤ cap) (hcs : o + cap ≤ cur.size) (hcm : cap ≤ maxLen) (hcell : ∀ j x, l[j]? = some x → w.cell? ((⟨g, o, none⟩ : Addr).add j) = some (.int .u8 x.toNat)) :
  Calls Tryz.prog 26 #[.pointer (some ⟨b, 0, none⟩)] w fun e w' => e = .returned (.string ⟨l.toArray⟩) ∧ Same w w' g := by
 have hl0 : l.length ≠ 0 := by simpa using h0
 have mixed := mixedO
 have c1 : w.drew.cell? ⟨b, 1, none⟩ = some (.slice (some ⟨g, o, none⟩) l.length cap) := by
  have : w.drew.heap[b]? = some (.cells #[p, .slice (some ⟨g, o, none⟩) l.length cap] 48 (0, 0)) := hbk
  rw [Lib.cell_of_heap this]; rfl
 have c0 : w.cell? ⟨b, 1, none⟩ = some (.slice (some ⟨g, o, none⟩) l.length cap) := c1
 have hSD : (Builtin.unsafeSliceData_ #[46] 81 #[.slice (some ⟨g, o, none⟩) l.length cap]).run Tryz.prog w.drew = .ok (.pointer (some ⟨g, o, none⟩)) w.drew :=
  Lib.run_unsafeSliceData_row _ _ _ _ _ _ (by omega)
 have hUS : (Builtin.unsafeString_ #[81, 3] 9 #[.pointer (some ⟨g, o, none⟩), .int .i64 l.length]).run Tryz.prog w.drew = .ok (.string ⟨l.toArray⟩) (w.drew.freeze ⟨g, o, none⟩ l.length) := by
  refine run_unsafeString_off w.drew 81 3 9 5 uPU cU8 g o cur.size (by have hg' : w.drew.heap[g]? = some (.cells cur 5 (0, 0)) := hg; simp [World.shape?, hg']) l h0 (by omega) (by unfold maxLen at hcm; omega) hcell
 have hfin := same_freeze w g o l.length
 go_enter Tryz.func26, Tryz.ntmps26
 go_wp2
 go_region_o
 all_goals (go_wp2; go_ret; exact ⟨rfl, hfin⟩)
set_option maxHeartbeats 2000000 in
set_option maxRecDepth 100000 in
theorem string_nil (b g : Nat) (w : World) (p : Value) (hbk : w.heap[b]? = some (.cells #[p, .slice none 0 0] 48 (0, 0))) :
  Calls Tryz.prog 26 #[.pointer (some ⟨b, 0, none⟩)] w fun e w' => e = .returned (.string ⟨#[]⟩) ∧ Same w w' g := by
 have mixed := mixedO
 have c1 : w.drew.cell? ⟨b, 1, none⟩ = some (.slice none 0 0) := by
  have : w.drew.heap[b]? = some (.cells #[p, .slice none 0 0] 48 (0, 0)) := hbk
  rw [Lib.cell_of_heap this]; rfl
 have c0 : w.cell? ⟨b, 1, none⟩ = some (.slice none 0 0) := c1
 have hSD : (Builtin.unsafeSliceData_ #[46] 81 #[.slice none 0 0]).run Tryz.prog w.drew = .ok (.pointer none) w.drew := rfl
 have hUS : (Builtin.unsafeString_ #[81, 3] 9 #[.pointer none, .int .i64 0]).run Tryz.prog w.drew = .ok (.string ⟨#[]⟩) w.drew := Lib.run_unsafeString_none w.drew _ _ _ none
 have hfin := same_drew w g
 go_enter Tryz.func26, Tryz.ntmps26
 go_wp2
 go_region_o
 all_goals (go_wp2; go_ret; exact ⟨rfl, hfin⟩)
set_option maxHeartbeats 2000000 in
set_option maxRecDepth 100000 in
theorem string_room (b g g' o cap : Nat) (w : World) (p : Value) (hc : cap ≠ 0) (hbk : w.heap[b]? = some (.cells #[p, .slice (some ⟨g', o, none⟩) 0 cap] 48 (0, 0))) :
  Calls Tryz.prog 26 #[.pointer (some ⟨b, 0, none⟩)] w fun e w' => e = .returned (.string ⟨#[]⟩) ∧ Same w w' g := by
 have mixed := mixedO
 have c1 : w.drew.cell? ⟨b, 1, none⟩ = some (.slice (some ⟨g', o, none⟩) 0 cap) := by
  have : w.drew.heap[b]? = some (.cells #[p, .slice (some ⟨g', o, none⟩) 0 cap] 48 (0, 0)) := hbk
  rw [Lib.cell_of_heap this]; rfl
 have c0 : w.cell? ⟨b, 1, none⟩ = some (.slice (some ⟨g', o, none⟩) 0 cap) := c1
 have hSD : (Builtin.unsafeSliceData_ #[46] 81 #[.slice (some ⟨g', o, none⟩) 0 cap]).run Tryz.prog w.drew = .ok (.pointer (some ⟨g', o, none⟩)) w.drew :=
  Lib.run_unsafeSliceData_row _ _ _ _ _ _ hc
 have hUS : (Builtin.unsafeString_ #[81, 3] 9 #[.pointer (some ⟨g', o, none⟩), .int .i64 0]).run Tryz.prog w.drew = .ok (.string ⟨#[]⟩) w.drew := Lib.run_unsafeString_none w.drew _ _ _ _
 have hfin := same_drew w g
 go_enter Tryz.func26, Tryz.ntmps26
 go_wp2
 go_region_o
 all_goals (go_wp2; go_ret; exact ⟨rfl, hfin⟩)
set_option maxHeartbeats 2000000 in
set_option maxRecDepth 100000 in
theorem string_noroom (b g g' o : Nat) (cur : Array Value) (w : World) (p : Value) (hbk : w.heap[b]? = some (.cells #[p, .slice (some ⟨g', o, none⟩) 0 0] 48 (0, 0))) (hg : w.heap[g']? = some (.cells cur 5 (0, 0))) :
  Calls Tryz.prog 26 #[.pointer (some ⟨b, 0, none⟩)] w fun e w' => e = .returned (.string ⟨#[]⟩) ∧ Same w w' g := by
 have mixed := mixedO
 have hlt : b < w.heap.size := by
  rcases Nat.lt_or_ge b w.heap.size with h' | h'
  ·exact h'
  ·simp [Array.getElem?_eq_none h'] at hbk
 have c1 : w.drew.cell? ⟨b, 1, none⟩ = some (.slice (some ⟨g', o, none⟩) 0 0) := by
  have : w.drew.heap[b]? = some (.cells #[p, .slice (some ⟨g', o, none⟩) 0 0] 48 (0, 0)) := hbk
  rw [Lib.cell_of_heap this]; rfl
 have hSD : (Builtin.unsafeSliceData_ #[46] 81 #[.slice (some ⟨g', o, none⟩) 0 0]).run Tryz.prog w.drew = .ok (.pointer (some ⟨w.drew.heap.size, 0, none⟩)) (w.drew.alloc (.view ⟨g', o, none⟩ 5)) :=
  Lib.run_unsafeSliceData_zero w.drew _ _ 5 uPU ⟨g', o, none⟩ 0 (5, cur.size) (by have hg' : w.drew.heap[g']? = some (.cells cur 5 (0, 0)) := hg; simp [World.shape?, hg'])
 have c2 : (w.drew.alloc (.view ⟨g', o, none⟩ 5)).cell? ⟨b, 1, none⟩ = some (.slice (some ⟨g', o, none⟩) 0 0) := by
  have : (w.drew.alloc (.view ⟨g', o, none⟩ 5)).heap[b]? = _ := (Lib.alloc_old w.drew _ b hlt).trans hbk
  rw [Lib.cell_of_heap this]; rfl
 have c3 : (w.alloc (.view ⟨g', o, none⟩ 5)).drew.cell? ⟨b, 1, none⟩ = some (.slice (some ⟨g', o, none⟩) 0 0) := c2
 have c0 : w.cell? ⟨b, 1, none⟩ = some (.slice (some ⟨g', o, none⟩) 0 0) := c1
 have hUS : ∀ (W : World) (q : Option Addr), (Builtin.unsafeString_ #[81, 3] 9 #[.pointer q, .int .i64 0]).run Tryz.prog W = .ok (.string ⟨#[]⟩) W := fun W q => Lib.run_unsafeString_none W _ _ _ q
 have hfin := same_alloc w g (.view ⟨g', o, none⟩ 5)
 go_enter Tryz.func26, Tryz.ntmps26
 go_wp2
 go_region_o
 all_goals (go_wp2; go_ret; exact ⟨rfl, hfin⟩)
end Go.Ab

namespace Go.Ab
open Go Go.RowKit Go.Proofs
theorem Inv.forget {C : Cx} {B : Base} {kn : Kn} {m : Mp} {σ : Sto} {nx nx' : Nat} {w w' : World} {g : Nat} (h : Inv C B kn m σ nx w) (hs : Same w w' g) (hn : nx ≤ nx') (hg : (B.w.heap.size ≤ g ∨ B.own g) ∧ ∀ o, kn g o = none) : Inv C B kn m [] nx' w' := by
 obtain ⟨h1, h2, h3, h4, h5⟩ := hs
 refine ⟨fun b o v e => ?_, Nat.le_trans h.size h1, h2.trans h.os, h3.trans h.tape, h4.trans h.output, fun b hb hob => ?_, fun p nm ob e => by simp at e, fun p nm ob loc e => by simp at e, fun p nm ob loc p' nm' ob' loc' e => by simp at e, fun n q => h.dom n (Nat.le_trans hn q), fun p nm ob e => by simp at e, fun p p' nm ob ob' e => by simp at e, fun p p' nm nm' ob ob' e => by simp at e, h.glob, h.tab⟩
 ·have hlt := h.kn_lt e
  have hne : b ≠ g := fun q => by rw [q, hg.2 o] at e; cases e
  have := h.knok b o v e
  unfold World.cell? at this ⊢
  rw [h5 b hlt hne]; exact this
 ·have hlt := Nat.lt_of_lt_of_le hb h.size
  have hne : b ≠ g := fun q => by
   subst q
   rcases hg.1 with q | q
   ·omega
   ·exact hob q
  exact ⟨(h5 b hlt hne).trans (h.old b hb hob).1, (h.old b hb hob).2⟩
theorem addr_add (g o j : Nat) : (⟨g, o, none⟩ : Addr).add j = ⟨g, o + j, none⟩ := by
 unfold Addr.add
 by_cases h : j = 0
 ·subst h; simp
 ·simp [h]
def bytesOf (l : List Int) : Option (List UInt8) := if (l.all fun n => decide (0 ≤ n ∧ n < 256)) = true then some (l.map fun n => UInt8.ofNat n.toNat) else none
def S_string : Sig := .o ⟨bldO false, [.ref 0 0], [], .d .str, fun x => (bytesOf x.2.2.1).map fun s => (s, ())⟩
theorem rowsU8_get (l : List Int) {j : Nat} {n : Int} (h : l[j]? = some n) : (List.map (E.row (.int .u8)) l)[j]? = some [.int .u8 n] :=
 show (List.map (fun n : Int => [AV.int .u8 n]) l)[j]? = _ from by rw [List.getElem?_map, h]; rfl
theorem rowsU8_len (l : List Int) : (List.map (E.row (.int .u8)) l).length = l.length := List.length_map ..
theorem string_over (b0 : Bool) (l : List Int) (r : List UInt8) (hr : bytesOf l = some r) (B : Base) (kn : Kn) (m : Mp) (w : World) (vs : List Value) (hI : Inv CX B kn m (osto 0 (bldO false) ((b0, (), ()), l, ())) 2 w)
  (hlay : ∀ i, i < 2 → ∃ loc, m i = some loc) (hargs : RelL kn m [.ref 0 0 0] vs) : Does CX.P 26 vs.toArray w fun e w' => ∃ kn' m', KnLe kn kn' ∧ Inv CX B kn' m' [] 2 w' ∧ (∀ i, i < 2 → m' i = m i) ∧ RelOut kn' m' (.ret (.str r)) e := by
 obtain ⟨loc, hm⟩ := hlay 0 (by decide)
 obtain ⟨loc1, hm1⟩ := hlay 1 (by decide)
 have hp : (osto 0 (bldO false) ((b0, (), ()), l, ()))[0]? = some (0, .cells 48 [.mref 0 0 0 b0, .gs 1 1 (.int .u8) l.length]) := rfl
 have hp1 : (osto 0 (bldO false) ((b0, (), ()), l, ()))[1]? = some (1, .tg (.int .u8) 5 l) := rfl
 have hob := hI.obj _ _ _ hp
 have hob1 := hI.obj _ _ _ hp1
 simp only [ObjRel, hm] at hob
 obtain ⟨hnl, h0, arr, hw, hrl, hone⟩ := hob
 obtain ⟨v0, vs0, ha0, hr0, hrl⟩ := hrl.uncons
 obtain ⟨v1, vs1, rfl, hr1, hrl⟩ := hrl.uncons
 have : vs1 = [] := List.eq_nil_of_length_eq_zero hrl.1.symm
 subst this
 have harr : arr = #[v0, v1] := by rw [← Array.toArray_toList (xs := arr), ha0]
 subst harr
 obtain ⟨a, as1, rfl, hra, hargs⟩ := RelL.uncons hargs
 have : as1 = [] := List.eq_nil_of_length_eq_zero hargs.1.symm
 subst this
 have hra : Rel kn m (.ref 0 0 0) a := hra
 obtain ⟨q1, q2, q3⟩ := hI.own 0 0 _ loc hp trivial hm hnl
 unfold bytesOf at hr
 split at hr
 ·rename_i hall
  cases hr
  cases hra with
  | ref _ _ _ loc' hm' =>
   rw [hm] at hm'; cases hm'
   rw [h0]
   refine .inl ⟨by kernel_rfl, ?_⟩
   have fin : ∀ (g : Nat) (w' : World), Same w w' g → ((B.w.heap.size ≤ g ∨ B.own g) ∧ ∀ o, kn g o = none) →
     ∃ kn' m', KnLe kn kn' ∧ Inv CX B kn' m' [] 2 w' ∧ (∀ i, i < 2 → m' i = m i) ∧ RelOut kn' m' (.ret (.str (l.map fun n => UInt8.ofNat n.toNat))) (.returned (.string ⟨(l.map fun n => UInt8.ofNat n.toNat).toArray⟩)) := fun g w' hs hg =>
    ⟨kn, m, KnLe.refl _, hI.forget hs (Nat.le_refl _) hg, fun _ _ => rfl, .str _⟩
   have hgv : GvRel kn m w 1 1 5 (l.map (E.row (.int .u8))) := hob1
   obtain ⟨locx, hx, hlen, hgv⟩ := hgv
   rw [hm1] at hx; cases hx
   have hr1 : Rel kn m (.gs 1 1 (.int .u8) l.length) v1 := hr1
   cases hr1 with
   | gs _ _ _ _ _ locy hy hly hsl =>
    rw [hm1] at hy; cases hy
    have hsl : Rel kn m (.sref 1 1 1 0 l.length) v1 := hsl
    generalize hn : l.length = n at hsl
    cases hsl with
    | srefNil _ _ _ locz hz hznil =>
     have hl : l = [] := List.eq_nil_of_length_eq_zero hn
     subst hl
     exact (string_nil loc.blk loc.blk w v0 hw).mono fun e w' ⟨he, hs⟩ => (by subst he; exact fin loc.blk w' hs ⟨q2, q3 rfl⟩)
    | sref _ _ _ _ _ locz hz hznil hze hzl hzm =>
     rw [hm1] at hz; cases hz
     rcases hgv with ⟨hnil, _⟩ | ⟨_, hesz, arr1, hw1, hsz, hcap, hmax, hone1, hrow, hrel⟩
     ·rw [hnil] at hznil; cases hznil
     obtain ⟨p1, p2, p3⟩ := hI.own 1 1 _ loc1 hp1 trivial hm1 hznil
     have hze : loc1.esz = 1 := hze
     simp only [Nat.zero_mul, Nat.add_zero, Nat.sub_zero] at hw ⊢
     by_cases hl0 : l = []
     ·subst hl0
      have hn0 : n = 0 := hn.symm
      subst hn0
      by_cases hc0 : loc1.cap = 0
      ·rw [hc0] at hw
       exact (string_noroom loc.blk loc1.blk loc1.blk loc1.off arr1 w v0 hw hw1).mono fun e w' ⟨he, hs⟩ => (by subst he; exact fin loc1.blk w' hs ⟨p2, p3 rfl⟩)
      ·exact (string_room loc.blk loc1.blk loc1.blk loc1.off loc1.cap w v0 hc0 hw).mono fun e w' ⟨he, hs⟩ => (by subst he; exact fin loc1.blk w' hs ⟨p2, p3 rfl⟩)
     ·have hll : (l.map fun n => UInt8.ofNat n.toNat).length = n := by rw [List.length_map]; exact hn
      subst hn
      rw [← hll] at hw
      have hcap' : l.length ≤ loc1.cap := (rowsU8_len l) ▸ hcap
      refine (string_row loc.blk loc1.blk loc1.off loc1.cap arr1 w (l.map fun n => UInt8.ofNat n.toNat) v0 (by simpa using hl0) hw hw1 (by simpa using hcap') (by omega) hmax (fun j x hx => ?_)).mono fun e w' ⟨he, hs⟩ => (by subst he; exact fin loc1.blk w' hs ⟨p2, p3 rfl⟩)
      rw [List.getElem?_map] at hx
      cases hlj : l[j]? with
      | none => rw [hlj] at hx; cases hx
      | some n =>
       rw [hlj] at hx
       simp only [Option.map_some, Option.some.injEq] at hx
       have hj := (List.getElem?_eq_some_iff.1 hlj).1
       have hnb : 0 ≤ n ∧ n < 256 := by
        have := List.all_eq_true.1 hall n (List.mem_of_getElem? hlj)
        simpa using this
       have hin : loc1.off + j < arr1.size := by omega
       have hrv := hrel j [.int .u8 n] 0 (.int .u8 n) arr1[loc1.off + j] (rowsU8_get l hlj) rfl (by
        rw [Nat.mul_one, Nat.add_zero]
        exact Array.getElem?_eq_getElem hin)
       rw [addr_add]
       rw [Lib.cell_of_heap hw1, Array.getElem?_eq_getElem hin]
       generalize arr1[loc1.off + j] = u at hrv
       cases hrv
       rw [← hx]
       have : ((UInt8.ofNat n.toNat).toNat : Int) = n := by
        have e : n.toNat < 2 ^ 8 := by omega
        rw [UInt8.toNat_ofNat_of_lt' e]; omega
       rw [this]
 ·cases hr
theorem S_string_ok : SigOK CX 26 S_string := by
 refine ⟨by kernel_rfl, fun x r hr B kn m w vs hI hlay hargs => ?_⟩
 have hr : (bytesOf x.2.2.1).map (fun s => (s, ())) = some r := hr
 obtain ⟨s, hs, rfl⟩ := Option.map_eq_some_iff.1 hr
 exact (string_over x.2.1.1 x.2.2.1 s hs B kn m w vs hI hlay hargs).mono fun e w' ⟨kn', m', h1, h2, h3, h4⟩ => ⟨kn', m', h1, h2, h3, fun j hj => absurd hj (by show ¬ j < 0; omega), h4⟩
end Go.Ab

namespace Go.Ab
open Go Go.RowKit Go.Proofs
set_option maxHeartbeats 1000000 in
set_option maxRecDepth 100000 in
theorem copyCheck_freshP (b : Nat) (w : World) (h0 : w.cell? ⟨b, 0, none⟩ = some (.pointer none)) (hsh : w.shape? b = some (50, 3)) (hfz : w.frozen? ⟨b, 0, none⟩ = false) :
  Calls Tryz.prog 51 #[.pointer (some ⟨b, 0, none⟩)] w fun e w' => e = .returned (.tuple #[]) ∧ w' = w.setCell ⟨b, 0, none⟩ (.pointer (some ⟨b, 0, none⟩)) := by
 obtain ⟨j, hj, hjs⟩ := iB
 go_enter Tryz.func51, Tryz.ntmps51
 go_wp2
 rw [Lib.run_to_unsafe w ⟨b, 0, none⟩ uPB uUP hj (by rw [hjs]; decide) hsh (Nat.zero_lt_succ 2)]
 simp only [Result.andThen]
 rw [Oper.upon_value]
 go_wp2
 rw [run_callFunc_extern Tryz.func78 (by kernel_rfl) (by kernel_rfl) (by kernel_rfl) (e := Extern.AbiNoEscape.same) (by kernel_rfl)]
 rw [Lib.run_noEscape]
 simp only [Result.andThen]
 rw [Oper.upon_value]
 go_wp2
 rw [Lib.run_from_unsafe w ⟨b, 0, none⟩ uUP uPB hj hsh (by kernel_rfl)]
 simp only [Result.andThen]
 rw [Oper.upon_value]
 go_wp2
 go_end0
 exact ⟨rfl, rfl⟩
abbrev bldCellsP : List Sh := [.mref 0 0, .gs 1 (.int .u8), .d (.int .i64)]
abbrev bldOP (k : Bool) : Slots := [(k, .cells 50 bldCellsP), (k, .tg (.int .u8) 5)]
def S_copyCheckP : Sig := .o ⟨bldOP false, [.ref 0 0], bldOP true, .tup [], fun x => some ((), ((true, (), x.2.1.2.2.1, ()), x.2.2.1, ()))⟩
theorem S_copyCheckP_ok : SigOK CX 51 S_copyCheckP := by
 refine ⟨by kernel_rfl, fun x r hr B kn m w vs hI hlay hargs => ?_⟩
 cases hr
 obtain ⟨loc, hm⟩ := hlay 0 (by decide)
 obtain ⟨xa, ⟨⟨b0, u1, n0, u2⟩, l, u3⟩⟩ := x
 have hp : (osto 0 (bldOP false) ((b0, u1, n0, u2), l, u3))[0]? = some (0, .cells 50 [.mref 0 0 0 b0, .gs 1 1 (.int .u8) l.length, .int .i64 n0]) := rfl
 have hob := hI.obj _ _ _ hp
 simp only [ObjRel, hm] at hob
 obtain ⟨hnl, h0, arr, hw, hrl, hone⟩ := hob
 obtain ⟨v0, vs0, ha0, hr0, hrl⟩ := hrl.uncons
 obtain ⟨v1, vs1, rfl, hr1, hrl⟩ := hrl.uncons
 obtain ⟨v2, vs2, rfl, hr2, hrl⟩ := hrl.uncons
 have : vs2 = [] := List.eq_nil_of_length_eq_zero hrl.1.symm
 subst this
 have harr : arr = #[v0, v1, v2] := by rw [← Array.toArray_toList (xs := arr), ha0]
 subst harr
 obtain ⟨a, as1, rfl, hra, hargs⟩ := RelL.uncons hargs
 have : as1 = [] := List.eq_nil_of_length_eq_zero hargs.1.symm
 subst this
 have hra : Rel kn m (.ref 0 0 0) a := hra
 cases hra with
 | ref _ _ _ loc' hm' =>
  rw [hm] at hm'; cases hm'
  rw [h0]
  refine .inl ⟨by kernel_rfl, ?_⟩
  have fin : ∀ w', w'.heap.size = w.heap.size → w'.os = w.os → w'.tape = w.tape → w'.output = w.output → (∀ b, b ≠ loc.blk → w'.heap[b]? = w.heap[b]?) → w'.heap[loc.blk]? = some (.cells #[.pointer (some ⟨loc.blk, 0, none⟩), v1, v2] 50 (0, 0)) →
    ∃ kn' m', KnLe kn kn' ∧ Inv CX B kn' m' (osto 2 (bldOP true) ((true, (), n0, ()), l, ())) (2 + 2) w' ∧ (∀ i, i < 2 → m' i = m i) ∧ (∀ j, j < 2 → ∃ loc, m' (nameOf 2 j (bldOP true)) = some loc) ∧ RelOut kn' m' (.ret (.tup [])) (.returned (.tuple #[])) := fun w' q1 q2 q3 q4 q5 q6 => by
   obtain ⟨k1, k2⟩ := hI.write (ob' := .cells 50 [.mref 0 0 0 true, .gs 1 1 (.int .u8) l.length, .int .i64 n0]) hp trivial hm hnl q1 q2 q3 q4 q5 (by
    simp only [ObjRel, hm]
    refine ⟨hnl, h0, _, q6, .cons ?_ (.cons hr1 (.cons hr2 (.nil _ _))), fun v hv => ?_⟩
    ·have := Rel.mrefSome (kn := kn) 0 0 0 loc hm
     rw [h0] at this
     exact this
    ·simp at hv
     rcases hv with rfl | rfl | rfl
     ·rfl
     ·exact hone _ (by rw [ha0]; simp)
     ·exact hone _ (by rw [ha0]; simp))
   refine ⟨kn, m, KnLe.refl _, k1.nxup (by show 0 + 2 ≤ 4; omega), fun _ _ => rfl, fun j hj => ?_, .tup [] #[] rfl (fun i x v e => by simp at e)⟩
   have hj2 : nameOf 2 j (bldOP true) = j := by
    match j, hj with
    | 0, _ => rfl
    | 1, _ => rfl
   rw [hj2]
   exact hlay j hj
  have hr0 : Rel kn m (.mref 0 0 0 b0) v0 := hr0
  cases hr0 with
  | mrefSome _ _ _ loc' hm' =>
   rw [hm] at hm'; cases hm'
   rw [h0] at hw
   refine (copyCheck_used loc.blk w (by rw [Lib.cell_of_heap hw]; rfl)).mono fun e w' ⟨he, hw'⟩ => ?_
   subst he; rw [hw']
   exact fin w rfl rfl rfl rfl (fun _ _ => rfl) hw
  | mrefNil =>
   refine (copyCheck_freshP loc.blk w (by rw [Lib.cell_of_heap hw]; rfl) (by simp [World.shape?, hw]) (Lib.frozen_of_heap hw 0)).mono fun e w' ⟨he, hw'⟩ => ?_
   subst he; rw [hw']
   exact fin _ (by simp [World.setCell]) rfl rfl rfl (fun b hb => Below.heap_setCell _ _ _ _ hb) (by simp [World.setCell, Array.getElem?_modify, hw])
set_option maxHeartbeats 2000000 in
set_option maxRecDepth 100000 in
theorem string_rowP (b g o cap : Nat) (cur : Array Value) (w : World) (l : List UInt8) (p z : Value) (h0 : l ≠ []) (hbk : w.heap[b]? = some (.cells #[p, .slice (some ⟨g, o, none⟩) l.length cap, z] 50 (0, 0)))
  (hg : w.heap[g]? = some (.cells cur 5 (0, 0))) (hnc : l.length ≤ cap) (hcs : o + cap ≤ cur.size) (hcm : cap ≤ maxLen) (hcell : ∀ j x, l[j]? = some x → w.cell? ((⟨g, o, none⟩ : Addr).add j) = some (.int .u8 x.toNat)) :
  Calls Tryz.prog 26 #[.pointer (some ⟨b, 0, none⟩)] w fun e w' => e = .returned (.string ⟨l.toArray⟩) ∧ Same w w' g := by
 have hl0 : l.length ≠ 0 := by simpa using h0
 have mixed := mixedO
 have c1 : w.drew.cell? ⟨b, 1, none⟩ = some (.slice (some ⟨g, o, none⟩) l.length cap) := by
  have : w.drew.heap[b]? = some (.cells #[p, .slice (some ⟨g, o, none⟩) l.length cap, z] 50 (0, 0)) := hbk
  rw [Lib.cell_of_heap this]; rfl
 have c0 : w.cell? ⟨b, 1, none⟩ = some (.slice (some ⟨g, o, none⟩) l.length cap) := c1
 have hSD : (Builtin.unsafeSliceData_ #[46] 81 #[.slice (some ⟨g, o, none⟩) l.length cap]).run Tryz.prog w.drew = .ok (.pointer (some ⟨g, o, none⟩)) w.drew :=
  Lib.run_unsafeSliceData_row _ _ _ _ _ _ (by omega)
 have hUS : (Builtin.unsafeString_ #[81, 3] 9 #[.pointer (some ⟨g, o, none⟩), .int .i64 l.length]).run Tryz.prog w.drew = .ok (.string ⟨l.toArray⟩) (w.drew.freeze ⟨g, o, none⟩ l.length) := by
  refine run_unsafeString_off w.drew 81 3 9 5 uPU cU8 g o cur.size (by have hg' : w.drew.heap[g]? = some (.cells cur 5 (0, 0)) := hg; simp [World.shape?, hg']) l h0 (by omega) (by unfold maxLen at hcm; omega) hcell
 have hfin := same_freeze w g o l.length
 go_enter Tryz.func26, Tryz.ntmps26
 go_wp2
 go_region_o
 all_goals (go_wp2; go_ret; exact ⟨rfl, hfin⟩)
set_option maxHeartbeats 2000000 in
set_option maxRecDepth 100000 in
theorem string_nilP (b g : Nat) (w : World) (p z : Value) (hbk : w.heap[b]? = some (.cells #[p, .slice none 0 0, z] 50 (0, 0))) :
  Calls Tryz.prog 26 #[.pointer (some ⟨b, 0, none⟩)] w fun e w' => e = .returned (.string ⟨#[]⟩) ∧ Same w w' g := by
 have mixed := mixedO
 have c1 : w.drew.cell? ⟨b, 1, none⟩ = some (.slice none 0 0) := by
  have : w.drew.heap[b]? = some (.cells #[p, .slice none 0 0, z] 50 (0, 0)) := hbk
  rw [Lib.cell_of_heap this]; rfl
 have c0 : w.cell? ⟨b, 1, none⟩ = some (.slice none 0 0) := c1
 have hSD : (Builtin.unsafeSliceData_ #[46] 81 #[.slice none 0 0]).run Tryz.prog w.drew = .ok (.pointer none) w.drew := rfl
 have hUS : (Builtin.unsafeString_ #[81, 3] 9 #[.pointer none, .int .i64 0]).run Tryz.prog w.drew = .ok (.string ⟨#[]⟩) w.drew := Lib.run_unsafeString_none w.drew _ _ _ none
 have hfin := same_drew w g
 go_enter Tryz.func26, Tryz.ntmps26
 go_wp2
 go_region_o
 all_goals (go_wp2; go_ret; exact ⟨rfl, hfin⟩)
set_option maxHeartbeats 2000000 in
set_option maxRecDepth 100000 in
theorem string_roomP (b g g' o cap : Nat) (w : World) (p z : Value) (hc : cap ≠ 0) (hbk : w.heap[b]? = some (.cells #[p, .slice (some ⟨g', o, none⟩) 0 cap, z] 50 (0, 0))) :
  Calls Tryz.prog 26 #[.pointer (some ⟨b, 0, none⟩)] w fun e w' => e = .returned (.string ⟨#[]⟩) ∧ Same w w' g := by
 have mixed := mixedO
 have c1 : w.drew.cell? ⟨b, 1, none⟩ = some (.slice (some ⟨g', o, none⟩) 0 cap) := by
  have : w.drew.heap[b]? = some (.cells #[p, .slice (some ⟨g', o, none⟩) 0 cap, z] 50 (0, 0)) := hbk
  rw [Lib.cell_of_heap this]; rfl
 have c0 : w.cell? ⟨b, 1, none⟩ = some (.slice (some ⟨g', o, none⟩) 0 cap) := c1
 have hSD : (Builtin.unsafeSliceData_ #[46] 81 #[.slice (some ⟨g', o, none⟩) 0 cap]).run Tryz.prog w.drew = .ok (.pointer (some ⟨g', o, none⟩)) w.drew :=
  Lib.run_unsafeSliceData_row _ _ _ _ _ _ hc
 have hUS : (Builtin.unsafeString_ #[81, 3] 9 #[.pointer (some ⟨g', o, none⟩), .int .i64 0]).run Tryz.prog w.drew = .ok (.string ⟨#[]⟩) w.drew := Lib.run_unsafeString_none w.drew _ _ _ _
 have hfin := same_drew w g
 go_enter Tryz.func26, Tryz.ntmps26
 go_wp2
 go_region_o
 all_goals (go_wp2; go_ret; exact ⟨rfl, hfin⟩)
set_option maxHeartbeats 2000000 in
set_option maxRecDepth 100000 in
theorem string_noroomP (b g g' o : Nat) (cur : Array Value) (w : World) (p z : Value) (hbk : w.heap[b]? = some (.cells #[p, .slice (some ⟨g', o, none⟩) 0 0, z] 50 (0, 0))) (hg : w.heap[g']? = some (.cells cur 5 (0, 0))) :
  Calls Tryz.prog 26 #[.pointer (some ⟨b, 0, none⟩)] w fun e w' => e = .returned (.string ⟨#[]⟩) ∧ Same w w' g := by
 have mixed := mixedO
 have hlt : b < w.heap.size := by
  rcases Nat.lt_or_ge b w.heap.size with h' | h'
  ·exact h'
  ·simp [Array.getElem?_eq_none h'] at hbk
 have c1 : w.drew.cell? ⟨b, 1, none⟩ = some (.slice (some ⟨g', o, none⟩) 0 0) := by
  have : w.drew.heap[b]? = some (.cells #[p, .slice (some ⟨g', o, none⟩) 0 0, z] 50 (0, 0)) := hbk
  rw [Lib.cell_of_heap this]; rfl
 have hSD : (Builtin.unsafeSliceData_ #[46] 81 #[.slice (some ⟨g', o, none⟩) 0 0]).run Tryz.prog w.drew = .ok (.pointer (some ⟨w.drew.heap.size, 0, none⟩)) (w.drew.alloc (.view ⟨g', o, none⟩ 5)) :=
  Lib.run_unsafeSliceData_zero w.drew _ _ 5 uPU ⟨g', o, none⟩ 0 (5, cur.size) (by have hg' : w.drew.heap[g']? = some (.cells cur 5 (0, 0)) := hg; simp [World.shape?, hg'])
 have c2 : (w.drew.alloc (.view ⟨g', o, none⟩ 5)).cell? ⟨b, 1, none⟩ = some (.slice (some ⟨g', o, none⟩) 0 0) := by
  have : (w.drew.alloc (.view ⟨g', o, none⟩ 5)).heap[b]? = _ := (Lib.alloc_old w.drew _ b hlt).trans hbk
  rw [Lib.cell_of_heap this]; rfl
 have c3 : (w.alloc (.view ⟨g', o, none⟩ 5)).drew.cell? ⟨b, 1, none⟩ = some (.slice (some ⟨g', o, none⟩) 0 0) := c2
 have c0 : w.cell? ⟨b, 1, none⟩ = some (.slice (some ⟨g', o, none⟩) 0 0) := c1
 have hUS : ∀ (W : World) (q : Option Addr), (Builtin.unsafeString_ #[81, 3] 9 #[.pointer q, .int .i64 0]).run Tryz.prog W = .ok (.string ⟨#[]⟩) W := fun W q => Lib.run_unsafeString_none W _ _ _ q
 have hfin := same_alloc w g (.view ⟨g', o, none⟩ 5)
 go_enter Tryz.func26, Tryz.ntmps26
 go_wp2
 go_region_o
 all_goals (go_wp2; go_ret; exact ⟨rfl, hfin⟩)
def S_stringP : Sig := .o ⟨bldOP false, [.ref 0 0], [], .d .str, fun x => (bytesOf x.2.2.1).map fun s => (s, ())⟩
theorem string_overP (b0 : Bool) (n0 : Int) (l : List Int) (r : List UInt8) (hr : bytesOf l = some r) (B : Base) (kn : Kn) (m : Mp) (w : World) (vs : List Value) (hI : Inv CX B kn m (osto 0 (bldOP false) ((b0, (), n0, ()), l, ())) 2 w)
  (hlay : ∀ i, i < 2 → ∃ loc, m i = some loc) (hargs : RelL kn m [.ref 0 0 0] vs) : Does CX.P 26 vs.toArray w fun e w' => ∃ kn' m', KnLe kn kn' ∧ Inv CX B kn' m' [] 2 w' ∧ (∀ i, i < 2 → m' i = m i) ∧ RelOut kn' m' (.ret (.str r)) e := by
 obtain ⟨loc, hm⟩ := hlay 0 (by decide)
 obtain ⟨loc1, hm1⟩ := hlay 1 (by decide)
 have hp : (osto 0 (bldOP false) ((b0, (), n0, ()), l, ()))[0]? = some (0, .cells 50 [.mref 0 0 0 b0, .gs 1 1 (.int .u8) l.length, .int .i64 n0]) := rfl
 have hp1 : (osto 0 (bldOP false) ((b0, (), n0, ()), l, ()))[1]? = some (1, .tg (.int .u8) 5 l) := rfl
 have hob := hI.obj _ _ _ hp
 have hob1 := hI.obj _ _ _ hp1
 simp only [ObjRel, hm] at hob
 obtain ⟨hnl, h0, arr, hw, hrl, hone⟩ := hob
 obtain ⟨v0, vs0, ha0, hr0, hrl⟩ := hrl.uncons
 obtain ⟨v1, vs1, rfl, hr1, hrl⟩ := hrl.uncons
 obtain ⟨v2, vs2, rfl, hr2, hrl⟩ := hrl.uncons
 have : vs2 = [] := List.eq_nil_of_length_eq_zero hrl.1.symm
 subst this
 have harr : arr = #[v0, v1, v2] := by rw [← Array.toArray_toList (xs := arr), ha0]
 subst harr
 obtain ⟨a, as1, rfl, hra, hargs⟩ := RelL.uncons hargs
 have : as1 = [] := List.eq_nil_of_length_eq_zero hargs.1.symm
 subst this
 have hra : Rel kn m (.ref 0 0 0) a := hra
 obtain ⟨q1, q2, q3⟩ := hI.own 0 0 _ loc hp trivial hm hnl
 unfold bytesOf at hr
 split at hr
 ·rename_i hall
  cases hr
  cases hra with
  | ref _ _ _ loc' hm' =>
   rw [hm] at hm'; cases hm'
   rw [h0]
   refine .inl ⟨by kernel_rfl, ?_⟩
   have fin : ∀ (g : Nat) (w' : World), Same w w' g → ((B.w.heap.size ≤ g ∨ B.own g) ∧ ∀ o, kn g o = none) →
     ∃ kn' m', KnLe kn kn' ∧ Inv CX B kn' m' [] 2 w' ∧ (∀ i, i < 2 → m' i = m i) ∧ RelOut kn' m' (.ret (.str (l.map fun n => UInt8.ofNat n.toNat))) (.returned (.string ⟨(l.map fun n => UInt8.ofNat n.toNat).toArray⟩)) := fun g w' hs hg =>
    ⟨kn, m, KnLe.refl _, hI.forget hs (Nat.le_refl _) hg, fun _ _ => rfl, .str _⟩
   have hgv : GvRel kn m w 1 1 5 (l.map (E.row (.int .u8))) := hob1
   obtain ⟨locx, hx, hlen, hgv⟩ := hgv
   rw [hm1] at hx; cases hx
   have hr1 : Rel kn m (.gs 1 1 (.int .u8) l.length) v1 := hr1
   cases hr1 with
   | gs _ _ _ _ _ locy hy hly hsl =>
    rw [hm1] at hy; cases hy
    have hsl : Rel kn m (.sref 1 1 1 0 l.length) v1 := hsl
    generalize hn : l.length = n at hsl
    cases hsl with
    | srefNil _ _ _ locz hz hznil =>
     have hl : l = [] := List.eq_nil_of_length_eq_zero hn
     subst hl
     exact (string_nilP loc.blk loc.blk w v0 v2 hw).mono fun e w' ⟨he, hs⟩ => (by subst he; exact fin loc.blk w' hs ⟨q2, q3 rfl⟩)
    | sref _ _ _ _ _ locz hz hznil hze hzl hzm =>
     rw [hm1] at hz; cases hz
     rcases hgv with ⟨hnil, _⟩ | ⟨_, hesz, arr1, hw1, hsz, hcap, hmax, hone1, hrow, hrel⟩
     ·rw [hnil] at hznil; cases hznil
     obtain ⟨p1, p2, p3⟩ := hI.own 1 1 _ loc1 hp1 trivial hm1 hznil
     have hze : loc1.esz = 1 := hze
     simp only [Nat.zero_mul, Nat.add_zero, Nat.sub_zero] at hw ⊢
     by_cases hl0 : l = []
     ·subst hl0
      have hn0 : n = 0 := hn.symm
      subst hn0
      by_cases hc0 : loc1.cap = 0
      ·rw [hc0] at hw
       exact (string_noroomP loc.blk loc1.blk loc1.blk loc1.off arr1 w v0 v2 hw hw1).mono fun e w' ⟨he, hs⟩ => (by subst he; exact fin loc1.blk w' hs ⟨p2, p3 rfl⟩)
      ·exact (string_roomP loc.blk loc1.blk loc1.blk loc1.off loc1.cap w v0 v2 hc0 hw).mono fun e w' ⟨he, hs⟩ => (by subst he; exact fin loc1.blk w' hs ⟨p2, p3 rfl⟩)
     ·have hll : (l.map fun n => UInt8.ofNat n.toNat).length = n := by rw [List.length_map]; exact hn
      subst hn
      rw [← hll] at hw
      have hcap' : l.length ≤ loc1.cap := (rowsU8_len l) ▸ hcap
      refine (string_rowP loc.blk loc1.blk loc1.off loc1.cap arr1 w (l.map fun n => UInt8.ofNat n.toNat) v0 v2 (by simpa using hl0) hw hw1 (by simpa using hcap') (by omega) hmax (fun j x hx => ?_)).mono fun e w' ⟨he, hs⟩ => (by subst he; exact fin loc1.blk w' hs ⟨p2, p3 rfl⟩)
      rw [List.getElem?_map] at hx
      cases hlj : l[j]? with
      | none => rw [hlj] at hx; cases hx
      | some n =>
       rw [hlj] at hx
       simp only [Option.map_some, Option.some.injEq] at hx
       have hj := (List.getElem?_eq_some_iff.1 hlj).1
       have hnb : 0 ≤ n ∧ n < 256 := by
        have := List.all_eq_true.1 hall n (List.mem_of_getElem? hlj)
        simpa using this
       have hin : loc1.off + j < arr1.size := by omega
       have hrv := hrel j [.int .u8 n] 0 (.int .u8 n) arr1[loc1.off + j] (rowsU8_get l hlj) rfl (by
        rw [Nat.mul_one, Nat.add_zero]
        exact Array.getElem?_eq_getElem hin)
       rw [addr_add]
       rw [Lib.cell_of_heap hw1, Array.getElem?_eq_getElem hin]
       generalize arr1[loc1.off + j] = u at hrv
       cases hrv
       rw [← hx]
       have : ((UInt8.ofNat n.toNat).toNat : Int) = n := by
        have e : n.toNat < 2 ^ 8 := by omega
        rw [UInt8.toNat_ofNat_of_lt' e]; omega
       rw [this]
 ·cases hr
theorem S_stringP_ok : SigOK CX 26 S_stringP := by
 refine ⟨by kernel_rfl, fun x r hr B kn m w vs hI hlay hargs => ?_⟩
 have hr : (bytesOf x.2.2.1).map (fun s => (s, ())) = some r := hr
 obtain ⟨s, hs, rfl⟩ := Option.map_eq_some_iff.1 hr
 exact (string_overP x.2.1.1 x.2.1.2.2.1 x.2.2.1 s hs B kn m w vs hI hlay hargs).mono fun e w' ⟨kn', m', h1, h2, h3, h4⟩ => ⟨kn', m', h1, h2, h3, fun j hj => absurd hj (by show ¬ j < 0; omega), h4⟩
end Go.Ab

set_option maxRecDepth 100000
namespace Go.Ab
open Go Go.RowKit Go.Proofs
def blkL : List UInt8 := [32, 9]
def trimBS (s : List UInt8) : List UInt8 := (trimRi (fun c => decide (c ∈ blkL)) s s.length).dropWhile fun c => decide (c ∈ blkL)
theorem trimB_call (s : List UInt8) (hl : s.length ≤ 4611686018427387904) : PCall CX 75 [.str s, .str blkL] (· = .ret (.str (trimBS s))) := by
 have hdl : ((blkL.length : Nat) : Int) = 2 := rfl
 have hne : blkL ≠ [] := by decide
 refine pcall_mk 0 43 [.tmp 4] Tryz.func75 rfl (by decide) rfl rfl rfl ?_
 refine aw_sreg {} rfl rfl fun K KP hK hP => ?_
 simp only [go_sem, ↓reduceIte]
 apply hK; clear hK hP
 refine aw_seq ?_
 by_cases c1 : s = []
 ·
  refine aw_sreg {} rfl rfl fun K KP hK hP => ?_
  simp only [go_sem, ↓reduceIte, c1, hne]
  apply hK; clear hK hP
  refine aw_if (True) (by simp only [go_sem, ↓reduceIte, c1]) (fun h1 => ?_) (fun h1 => ?_)
  ·
   refine aw_sreg {} rfl rfl fun K KP hK hP => ?_
   simp only [go_sem, ↓reduceIte, c1]
   apply hK; clear hK hP
   refine aw_ret ?_
   refine athen_ret.2 ?_
   simp only [go_sem, ↓reduceIte, c1, athen_ret] <;> (
    simp [trimBS, trimRi, c1])
  ·
   exact absurd trivial h1
 ·
  refine aw_sreg {} rfl rfl fun K KP hK hP => ?_
  simp only [go_sem, ↓reduceIte, c1, hne]
  apply hK; clear hK hP
  refine aw_if (False) (by simp only [go_sem, ↓reduceIte, c1]) (fun h1 => ?_) (fun h1 => ?_)
  ·
   exact h1.elim
  ·
   refine aw_skip ?_
   refine athen_normal.2 ?_
   refine aw_seq ?_
   refine aw_sreg {} rfl rfl fun K KP hK hP => ?_
   simp only [go_sem, ↓reduceIte, c1, hdl]
   apply hK; clear hK hP
   refine aw_if (False) (by simp only [go_sem, ↓reduceIte, c1]) (fun h3 => ?_) (fun h3 => ?_)
   ·
    exact h3.elim
   ·
    refine aw_skip ?_
    refine athen_normal.2 ?_
    refine aw_seq ?_
    refine aw_sreg {} rfl (by simp only [allocObjs, go_sem]; rfl) fun K KP hK hP => ?_
    simp only [go_sem, ↓reduceIte, c1]
    refine CallP.ret (makeSet_call blkL (by decide) (by decide)) (by simp only [go_sem]) ?_
    try simp only [go_sem, ↓reduceIte, c1]
    apply hK; clear hK hP
    refine aw_sreg {} rfl rfl fun K KP hK hP => ?_
    simp only [go_sem, ↓reduceIte, c1]
    apply hK; clear hK hP
    refine aw_if (True) (by simp only [go_sem, ↓reduceIte, c1]) (fun h6 => ?_) (fun h6 => ?_)
    ·
     refine aw_sreg { ac := [36, 37] } rfl rfl fun K KP hK hP => ?_
     simp only [go_sem, ↓reduceIte, c1]
     refine CallP.acall (trimRight_call _ _ 0 0 blkL s rfl hl) ?_
     try simp only [go_sem, ↓reduceIte, c1]
     refine CallP.acall (trimLeft_call _ _ 0 0 blkL _ rfl) ?_
     try simp only [go_sem, ↓reduceIte, c1]
     apply hK; clear hK hP
     refine aw_ret ?_
     refine athen_ret.2 ?_
     simp only [go_sem, ↓reduceIte, c1, athen_ret] <;> (
      rfl)
    ·
     exact absurd trivial h6
theorem trimRightB_call (s : List UInt8) (hl : s.length ≤ 4611686018427387904) : PCall CX 77 [.str s, .str blkL] (· = .ret (.str (trimRi (fun c => decide (c ∈ blkL)) s s.length))) := by
 have hdl : ((blkL.length : Nat) : Int) = 2 := rfl
 have hne : blkL ≠ [] := by decide
 refine pcall_mk 0 37 [.tmp 4] Tryz.func77 rfl (by decide) rfl rfl rfl ?_
 refine aw_sreg {} rfl rfl fun K KP hK hP => ?_
 simp only [go_sem, ↓reduceIte]
 apply hK; clear hK hP
 refine aw_seq ?_
 by_cases c1 : s = []
 ·
  refine aw_sreg {} rfl rfl fun K KP hK hP => ?_
  simp only [go_sem, ↓reduceIte, c1, hne]
  apply hK; clear hK hP
  refine aw_if (True) (by simp only [go_sem, ↓reduceIte, c1]) (fun h1 => ?_) (fun h1 => ?_)
  ·
   refine aw_sreg {} rfl rfl fun K KP hK hP => ?_
   simp only [go_sem, ↓reduceIte, c1]
   apply hK; clear hK hP
   refine aw_ret ?_
   refine athen_ret.2 ?_
   simp only [go_sem, ↓reduceIte, c1, athen_ret] <;> (
    simp [trimRi, c1])
  ·
   exact absurd trivial h1
 ·
  refine aw_sreg {} rfl rfl fun K KP hK hP => ?_
  simp only [go_sem, ↓reduceIte, c1, hne]
  apply hK; clear hK hP
  refine aw_if (False) (by simp only [go_sem, ↓reduceIte, c1]) (fun h1 => ?_) (fun h1 => ?_)
  ·
   exact h1.elim
  ·
   refine aw_skip ?_
   refine athen_normal.2 ?_
   refine aw_seq ?_
   refine aw_sreg {} rfl rfl fun K KP hK hP => ?_
   simp only [go_sem, ↓reduceIte, c1, hdl]
   apply hK; clear hK hP
   refine aw_if (False) (by simp only [go_sem, ↓reduceIte, c1]) (fun h3 => ?_) (fun h3 => ?_)
   ·
    exact h3.elim
   ·
    refine aw_skip ?_
    refine athen_normal.2 ?_
    refine aw_seq ?_
    refine aw_sreg {} rfl (by simp only [allocObjs, go_sem]; rfl) fun K KP hK hP => ?_
    simp only [go_sem, ↓reduceIte, c1]
    refine CallP.ret (makeSet_call blkL (by decide) (by decide)) (by simp only [go_sem]) ?_
    try simp only [go_sem, ↓reduceIte, c1]
    apply hK; clear hK hP
    refine aw_sreg {} rfl rfl fun K KP hK hP => ?_
    simp only [go_sem, ↓reduceIte, c1]
    apply hK; clear hK hP
    refine aw_if (True) (by simp only [go_sem, ↓reduceIte, c1]) (fun h6 => ?_) (fun h6 => ?_)
    ·
     refine aw_sreg { ac := [33] } rfl rfl fun K KP hK hP => ?_
     simp only [go_sem, ↓reduceIte, c1]
     refine CallP.acall (trimRight_call _ _ 0 0 blkL s rfl hl) ?_
     try simp only [go_sem, ↓reduceIte, c1]
     apply hK; clear hK hP
     refine aw_ret ?_
     refine athen_ret.2 ?_
     simp only [go_sem, ↓reduceIte, c1, athen_ret] <;> (
      rfl)
    ·
     exact absurd trivial h6
end Go.Ab

set_option maxRecDepth 100000
namespace Go.Ab
open Go Go.RowKit Go.Proofs
noncomputable def numericF (s : List UInt8) : Option Bool := if s.length ≤ 4611686018427387904 then some (numericS s) else none
noncomputable def S_numeric : Sig := .n [.d .str] (.d .bool) (fun x => numericF x.1)
theorem S_numeric_ok : SigOK CX 94 S_numeric := fun x r h => by
 have h : numericF x.1 = some r := h
 unfold numericF at h
 split at h
 ·rename_i hl; cases h; exact numeric_call x.1 hl
 ·cases h
noncomputable def outsideF (c : Int) : Option Bool := if 0 ≤ c ∧ c < 256 then some (outsideS (UInt8.ofNat c.toNat)) else none
noncomputable def S_outside : Sig := .n [.d (.int .u8)] (.d .bool) (fun x => outsideF x.1)
theorem u8_of {c : Int} (h : 0 ≤ c ∧ c < 256) : ((UInt8.ofNat c.toNat).toNat : Int) = c := by
 have e : c.toNat < 2 ^ 8 := by omega
 rw [UInt8.toNat_ofNat_of_lt' e]; omega
theorem outsideF_ok (c : Int) (r : Bool) (h : outsideF c = some r) : PCall CX 95 [.int .u8 c] (fun o => o = .ret (.bool r)) := by
 unfold outsideF at h
 split at h
 ·rename_i hl
  cases h
  have := outside_call (UInt8.ofNat c.toNat)
  rw [u8_of hl] at this
  exact this
 ·cases h
theorem S_outside_ok : SigOK CX 95 S_outside := fun x r h => outsideF_ok x.1 r h
noncomputable def indexByteF (s : List UInt8) (c : Int) : Option Int := if 0 ≤ c ∧ c < 256 then some (Lib.indexByte s (UInt8.ofNat c.toNat)) else none
noncomputable def S_indexByte : Sig := .n [.d .str, .d (.int .u8)] (.d (.int .i64)) (fun x => indexByteF x.1 x.2.1)
theorem indexByteF_ok (s : List UInt8) (c : Int) (r : Int) (h : indexByteF s c = some r) : PCall CX 73 [.str s, .int .u8 c] (fun o => o = .ret (.int .i64 r)) := by
 unfold indexByteF at h
 split at h
 ·rename_i hl
  cases h
  have := indexByte_call s (UInt8.ofNat c.toNat)
  rw [u8_of hl] at this
  exact this
 ·cases h
theorem S_indexByte_ok : SigOK CX 73 S_indexByte := fun x r h => indexByteF_ok x.1 x.2.1 r h
def trimPrefixF (s p : List UInt8) : List UInt8 := if p.length ≤ s.length ∧ s.take p.length = p then s.drop p.length else s
noncomputable def S_trimPrefix : Sig := .n [.d .str, .d .str] (.d .str) (fun x => some (trimPrefixF x.1 x.2.1))
theorem S_trimPrefix_ok : SigOK CX 129 S_trimPrefix := fun x r h => by cases h; exact trimPrefix_call x.1 x.2.1
end Go.Ab

set_option maxRecDepth 100000
namespace Go.Ab
open Go Go.RowKit Go.Proofs
noncomputable def G_sign (x0 : Bool) (x1 : Bool) : Option (Int) := (
 cond x0 (some (-1)) (cond x1 (some 1) (some 0)))
def A_sign : An := .leaf
def H_sign : Nat → RH := fun _ => {}
noncomputable def S_sign : Sig := .n [(.d .bool), (.d .bool)] (.d (.int .i64)) (fun x => G_sign x.1 x.2.1)
theorem S_sign_ok : SigOK CX 61 S_sign := sigN_of (l := []) trivial (hint := H_sign) (an := A_sign) (fun x => by kernel_rfl)
noncomputable def G_kids (x0 : Fm) : Option (List Fm) := (
 cond (decide (x0.k = 3)) (some x0.l) (some ([] : List Fm)))
def A_kids : An := .leaf
def H_kids : Nat → RH := fun _ => {}
noncomputable def S_kids : Sig := .n [(.d .form)] (.d (.slice .form)) (fun x => G_kids x.1)
theorem S_kids_ok : SigOK CX 101 S_kids := sigN_of (l := []) trivial (hint := H_kids) (an := A_kids) (fun x => by kernel_rfl)
noncomputable def G_head (x0 : Fm) : Option (List UInt8) := (
 Option.bind (α := List Fm) (G_kids (Fm.eta x0)) fun r1 => (
 cond ((ixOK 0 r1.length) || !(decide ((r1.length : Int) > 0))) (cond (cond (decide ((r1.length : Int) > 0)) (decide ((r1.getD (0 : Int).toNat (Fm.mk 0 0 [] [])).k = 1)) false) (cond (ixOK 0 r1.length) (some ((r1.getD (0 : Int).toNat (Fm.mk 0 0 [] [])).t)) none) (some ([]))) none))
def A_head : An := .leaf
def H_head : Nat → RH := fun _ => {}
noncomputable def S_head : Sig := .n [(.d .form)] (.d .str) (fun x => G_head x.1)
theorem S_head_ok : SigOK CX 66 S_head := sigN_of (l := [(101, S_kids)]) ⟨S_kids_ok, trivial⟩ (hint := H_head) (an := A_head) (fun x => by kernel_rfl)
noncomputable def G_isNaNi (x0 : Int) : Option (Bool) := (
 some (!decide (x0 = x0)))
noncomputable def G_isNaNs (x0 : List UInt8) : Option (Bool) := (
 some (!decide (x0 = x0)))
noncomputable def G_cmpi (x0 : Int) (x1 : Int) : Option (Int) := (
 Option.bind (α := Bool) (G_isNaNi x0) fun r1 => (
 Option.bind (α := Bool) (G_isNaNi x1) fun r2 => (
 cond r1 (cond r2 (some 0) (some (-1))) (cond r2 (some 1) (cond (decide (x0 < x1)) (some (-1)) (cond (decide (x0 > x1)) (some 1) (some 0)))))))
noncomputable def G_cmps (x0 : List UInt8) (x1 : List UInt8) : Option (Int) := (
 Option.bind (α := Bool) (G_isNaNs x0) fun r1 => (
 Option.bind (α := Bool) (G_isNaNs x1) fun r2 => (
 cond r1 (cond r2 (some 0) (some (-1))) (cond r2 (some 1) (cond (Op.bytesLess x0 x1) (some (-1)) (cond (!(Op.bytesLess x0 x1 || decide (x0 = x1))) (some 1) (some 0)))))))
noncomputable def G_refCompare (k : Nat) (x0 : Fm) (x1 : Fm) : Option (Int) := match k with
| 0 => none
| k + 1 => (
 cond (!decide (x0.k = x1.k)) (Option.bind (α := Int) (G_sign (decide (x0.k < x1.k)) (decide (x0.k > x1.k))) fun r1 => (
 some r1)) (Option.bind (α := Step ((Unit) × (Unit)) (Int))
 (cond (decide (x0.k = 0)) (Option.bind (α := Int) (G_sign (decide (x0.n < x1.n)) (decide (x0.n > x1.n))) fun r2 => (
 some (Step.done r2))) (Option.bind (α := ((Int × Int × (List UInt8) × (List Fm) × Unit) × (Int × Int × (List UInt8) × (List Fm) × Unit) × Int × Bool × Unit) × (Unit))
 (cond (decide (x0.k = 1)) (some (((x0.k, x0.n, x0.t, x0.l, ()), (x1.k, x1.n, x1.t, x1.l, ()), x0.k, decide (x0.k = 1), ()), ())) (some (((x0.k, x0.n, x0.t, x0.l, ()), (x1.k, x1.n, x1.t, x1.l, ()), x0.k, decide (x0.k = 2), ()), ()))) fun d3 => (
 let v24_4 := d3.1.2.2.1
 let v38_5 := d3.1.2.2.2.1
 cond v38_5 (Option.bind (α := Int) (G_sign (Op.bytesLess d3.1.1.2.2.1 d3.1.2.1.2.2.1) (!(Op.bytesLess d3.1.1.2.2.1 d3.1.2.1.2.2.1 || decide (d3.1.1.2.2.1 = d3.1.2.1.2.2.1)))) fun r6 => (
 some (Step.done r6))) (cond (decide (v24_4 = 3)) (Option.bind (α := Step (((Int × Int × (List UInt8) × (List Fm) × Unit) × (Int × Int × (List UInt8) × (List Fm) × Unit) × Unit) × (Unit)) (Step ((Unit) × (Unit)) (Int)))
 (loopM (L := ((Int × Int × (List UInt8) × (List Fm) × Unit) × (Int × Int × (List UInt8) × (List Fm) × Unit) × Int × Unit) × (Unit)) (R := Step (((Int × Int × (List UInt8) × (List Fm) × Unit) × (Int × Int × (List UInt8) × (List Fm) × Unit) × Unit) × (Unit)) (Step ((Unit) × (Unit)) (Int))) (fun d7 => (
 let v5_8 := d7.1.2.2.1
 cond (cond (decide (v5_8 < (d7.1.1.2.2.2.1.length : Int))) (decide (v5_8 < (d7.1.2.1.2.2.2.1.length : Int))) false) (cond (ixOK v5_8 d7.1.1.2.2.2.1.length) (cond (ixOK v5_8 d7.1.2.1.2.2.2.1.length) (Option.bind (α := Int) (G_refCompare k (Fm.eta (d7.1.1.2.2.2.1.getD v5_8.toNat (Fm.mk 0 0 [] []))) (Fm.eta (d7.1.2.1.2.2.2.1.getD v5_8.toNat (Fm.mk 0 0 [] [])))) fun r9 => (
 cond (!decide (r9 = 0)) (some (Step.done (Step.done (Step.done r9)))) (some (Step.next (((d7.1.1.1, d7.1.1.2.1, d7.1.1.2.2.1, d7.1.1.2.2.2.1, ()), (d7.1.2.1.1, d7.1.2.1.2.1, d7.1.2.1.2.2.1, d7.1.2.1.2.2.2.1, ()), IntKind.wrap .i64 (v5_8 + 1), ()), ()))))) none) none) (some (Step.done (Step.next (((d7.1.1.1, d7.1.1.2.1, d7.1.1.2.2.1, d7.1.1.2.2.2.1, ()), (d7.1.2.1.1, d7.1.2.1.2.1, d7.1.2.1.2.2.1, d7.1.2.1.2.2.2.1, ()), ()), ())))))) (((d3.1.1.1, d3.1.1.2.1, d3.1.1.2.2.1, d3.1.1.2.2.2.1, ()), (d3.1.2.1.1, d3.1.2.1.2.1, d3.1.2.1.2.2.1, d3.1.2.1.2.2.2.1, ()), 0, ()), ())) fun qd10 => match qd10 with
 | .next d10 => (
 Option.bind (α := Int) (G_sign (decide ((d10.1.1.2.2.2.1.length : Int) < (d10.1.2.1.2.2.2.1.length : Int))) (decide ((d10.1.1.2.2.2.1.length : Int) > (d10.1.2.1.2.2.2.1.length : Int)))) fun r11 => (
 some (Step.done r11)))
 | .done r => some r) (some (Step.next ((), ()))))))) fun qd12 => match qd12 with
 | .next d12 => (
 some 0)
 | .done r => some r))
def A_refCompare : An := .seq (.leaf) (.seq (.leaf) (.join true { env := [], objs := [] } (.seq (.leaf) (.block (.seq (.leaf) (.cond (.leaf) (.join false { env := [(2, (.rptr [(.d (.int .i64)), (.d (.int .i64)), (.d .str), (.d (.slice .form))])), (3, (.rptr [(.d (.int .i64)), (.d (.int .i64)), (.d .str), (.d (.slice .form))])), (24, (.d (.int .i64))), (38, (.d .bool))], objs := [] } (.leaf) (.cond (.leaf) (.seq (.leaf) (.cond (.join true { env := [(2, (.rptr [(.d (.int .i64)), (.d (.int .i64)), (.d .str), (.d (.slice .form))])), (3, (.rptr [(.d (.int .i64)), (.d (.int .i64)), (.d .str), (.d (.slice .form))]))], objs := [] } (.seq (.leaf) (.block (.loop { env := [(2, (.rptr [(.d (.int .i64)), (.d (.int .i64)), (.d .str), (.d (.slice .form))])), (3, (.rptr [(.d (.int .i64)), (.d (.int .i64)), (.d .str), (.d (.slice .form))])), (5, (.d (.int .i64)))], objs := [] } (.leaf)))) (.leaf)) (.leaf))))))))) (.leaf)))
def H_refCompare : Nat → RH := fun r => match r with
 | 13 => { H := { pl := [69, 72, 74, 77] } }
 | _ => {}
noncomputable def S_refCompare (k : Nat) : Sig := .n [(.d .form), (.d .form)] (.d (.int .i64)) (fun x => G_refCompare k x.1 x.2.1)
theorem S_refCompare_rec : ∀ k, SigOK CX 37 (S_refCompare k)
| 0 => fun x r h => by cases h
| k + 1 => by
 have ih := S_refCompare_rec k
 exact sigN_of (l := [(61, S_sign), (37, (S_refCompare k))]) ⟨S_sign_ok, ih, trivial⟩ (hint := H_refCompare) (an := A_refCompare) (fun x => by kernel_rfl)
theorem S_refCompare_ok : ∀ k, SigOK CX 37 (S_refCompare k) := fun k => S_refCompare_rec k
noncomputable def L_refCompare (x0 : Fm) (x1 : Fm) : Option (Int) := limF fun k => G_refCompare k x0 x1
noncomputable def S_refCompare_l : Sig := .n [(.d .form), (.d .form)] (.d (.int .i64)) (fun x => L_refCompare x.1 x.2.1)
theorem S_refCompare_l_ok : SigOK CX 37 S_refCompare_l := SigOK.limN S_refCompare_ok fun x r h => limF_ex h
mutual
noncomputable def G_compare (k : Nat) (x0 : Fm) (x1 : Fm) : Option (Int) := match k with
| 0 => none
| k + 1 => (
 cond (!decide (x0.k = x1.k)) (Option.bind (α := Int) (G_cmpi x0.k x1.k) fun r1 => (
 some r1)) (cond (decide (x0.k = 0)) (Option.bind (α := Int) (G_cmpi x0.n x1.n) fun r2 => (
 some r2)) (Option.bind (α := ((Int × Int × (List UInt8) × (List Fm) × Unit) × (Int × Int × (List UInt8) × (List Fm) × Unit) × Int × Bool × Unit) × (Unit))
 (cond (decide (x0.k = 1)) (some (((x0.k, x0.n, x0.t, x0.l, ()), (x1.k, x1.n, x1.t, x1.l, ()), x0.k, decide (x0.k = 1), ()), ())) (some (((x0.k, x0.n, x0.t, x0.l, ()), (x1.k, x1.n, x1.t, x1.l, ()), x0.k, decide (x0.k = 2), ()), ()))) fun d3 => (
 let v16_4 := d3.1.2.2.1
 let v24_5 := d3.1.2.2.2.1
 cond v24_5 (Option.bind (α := Int) (G_cmps d3.1.1.2.2.1 d3.1.2.1.2.2.1) fun r6 => (
 some r6)) (cond (decide (v16_4 = 3)) (Option.bind (α := Int) (G_compareFunc k d3.1.1.2.2.2.1 d3.1.2.1.2.2.2.1 ()) fun r7 => (
 some r7)) (some 0))))))
noncomputable def G_compareFunc (k : Nat) (x0 : List Fm) (x1 : List Fm) (x2 : Unit) : Option (Int) := match k with
| 0 => none
| k + 1 => (
 Option.bind (α := Step (((List Fm) × (List Fm) × Unit) × (Unit)) (Int))
 (loopM (L := ((List Fm) × (List Fm) × Unit × (List Fm) × Int × Int × Unit) × (Unit)) (R := Step (((List Fm) × (List Fm) × Unit) × (Unit)) (Int)) (fun d1 => (
 let v0_2 := d1.1.1
 let v1_3 := d1.1.2.1
 let v11_4 := d1.1.2.2.2.1
 let v12_5 := d1.1.2.2.2.2.1
 let v13_6 := d1.1.2.2.2.2.2.1
 cond (decide (v13_6 < v12_5)) (cond (ixOK v13_6 v11_4.length) (cond (decide (v13_6 ≥ (v1_3.length : Int))) (some (Step.done (Step.done 1))) (cond (ixOK v13_6 v1_3.length) (Option.bind (α := Int) (G_compare k (Fm.eta (v11_4.getD v13_6.toNat (Fm.mk 0 0 [] []))) (Fm.eta (v1_3.getD v13_6.toNat (Fm.mk 0 0 [] [])))) fun r7 => (
 cond (!decide (r7 = 0)) (some (Step.done (Step.done r7))) (some (Step.next ((v0_2, v1_3, (), v11_4, v12_5, IntKind.wrap .i64 (v13_6 + 1), ()), ()))))) none)) none) (some (Step.done (Step.next ((v0_2, v1_3, ()), ())))))) ((x0, x1, (), x0, (x0.length : Int), 0, ()), ())) fun qd8 => match qd8 with
 | .next d8 => (
 let v0_9 := d8.1.1
 let v1_10 := d8.1.2.1
 cond (decide ((v0_9.length : Int) < (v1_10.length : Int))) (some (-1)) (some 0))
 | .done r => some r)
end
end Go.Ab
