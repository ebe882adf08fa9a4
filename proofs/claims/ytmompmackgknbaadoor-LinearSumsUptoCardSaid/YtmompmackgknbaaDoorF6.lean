/-
  FORMS made and taken apart: the contracts of the package parts, and of the reference's makers.
-/
import Derived.Test.YtmompmackgknbaaDoorF5
set_option linter.unusedVariables false
set_option linter.unusedSimpArgs false
set_option maxRecDepth 100000
namespace Go.Ab
open Go Go.RowKit Go.Proofs

def numF (n : Int) : Fm := .mk 0 n [] true []
def wordF (s : List UInt8) : Fm := .mk 1 0 s true []
theorem refNum_call (n : Int) : PCall CX 32 [.int .i64 n] (· = .ret (numF n).av) := by
  refine pcall_mk 0 5 [.cell 2 24] Tryd.func32 rfl (by decide) rfl rfl rfl ?_
  refine aw_sreg {} rfl (by simp only [allocObjs, go_sem]; rfl) fun K KP hK hP => ?_
  simp only [go_sem, ↓reduceIte]
  apply hK; clear hK hP
  refine aw_sreg {} rfl rfl fun K KP hK hP => ?_
  simp only [go_sem, ↓reduceIte]
  apply hK; clear hK hP
  refine aw_ret ?_
  simp only [go_sem, ↓reduceIte, athen_ret] <;> (
    simp only [numF, go_sem, kidsA, and_self])
theorem refWord_call (s : List UInt8) : PCall CX 55 [.str s] (· = .ret (wordF s).av) := by
  refine pcall_mk 0 5 [.cell 2 24] Tryd.func55 rfl (by decide) rfl rfl rfl ?_
  refine aw_sreg {} rfl (by simp only [allocObjs, go_sem]; rfl) fun K KP hK hP => ?_
  simp only [go_sem, ↓reduceIte]
  apply hK; clear hK hP
  refine aw_sreg {} rfl rfl fun K KP hK hP => ?_
  simp only [go_sem, ↓reduceIte]
  apply hK; clear hK hP
  refine aw_ret ?_
  simp only [go_sem, ↓reduceIte, athen_ret] <;> (
    simp only [wordF, go_sem, kidsA, and_self])
theorem refList_call (nl : Bool) (l : List Fm) : PCall CX 54 [kidsA nl (l.map Fm.cells)] (· = .ret (Fm.av (.mk 3 0 [] nl l))) := by
  refine pcall_mk 0 5 [.cell 2 24] Tryd.func54 rfl (by decide) rfl rfl rfl ?_
  refine aw_sreg {} rfl (by simp only [allocObjs, go_sem]; rfl) fun K KP hK hP => ?_
  simp only [go_sem, ↓reduceIte]
  apply hK; clear hK hP
  refine aw_sreg {} rfl rfl fun K KP hK hP => ?_
  simp only [go_sem, ↓reduceIte]
  apply hK; clear hK hP
  refine aw_ret ?_
  simp only [go_sem, ↓reduceIte, athen_ret]
theorem num_call (n : Int) : PCall CX 39 [.int .i64 n] (· = .ret (numF n).av) := by
  refine pcall_mk 0 5 [.cell 2 24] Tryd.func39 rfl (by decide) rfl rfl rfl ?_
  refine aw_sreg {} rfl (by simp only [allocObjs, go_sem]; rfl) fun K KP hK hP => ?_
  simp only [go_sem, ↓reduceIte]
  apply hK; clear hK hP
  refine aw_sreg {} rfl rfl fun K KP hK hP => ?_
  simp only [go_sem, ↓reduceIte]
  apply hK; clear hK hP
  refine aw_ret ?_
  simp only [go_sem, ↓reduceIte, athen_ret] <;> (
    simp only [numF, go_sem, kidsA, and_self])
theorem word_call (s : List UInt8) : PCall CX 69 [.str s] (· = .ret (wordF s).av) := by
  refine pcall_mk 0 5 [.cell 2 24] Tryd.func69 rfl (by decide) rfl rfl rfl ?_
  refine aw_sreg {} rfl (by simp only [allocObjs, go_sem]; rfl) fun K KP hK hP => ?_
  simp only [go_sem, ↓reduceIte]
  apply hK; clear hK hP
  refine aw_sreg {} rfl rfl fun K KP hK hP => ?_
  simp only [go_sem, ↓reduceIte]
  apply hK; clear hK hP
  refine aw_ret ?_
  simp only [go_sem, ↓reduceIte, athen_ret] <;> (
    simp only [wordF, go_sem, kidsA, and_self])
theorem list_call (nl : Bool) (l : List Fm) : PCall CX 68 [kidsA nl (l.map Fm.cells)] (· = .ret (Fm.av (.mk 3 0 [] nl l))) := by
  refine pcall_mk 0 5 [.cell 2 24] Tryd.func68 rfl (by decide) rfl rfl rfl ?_
  refine aw_sreg {} rfl (by simp only [allocObjs, go_sem]; rfl) fun K KP hK hP => ?_
  simp only [go_sem, ↓reduceIte]
  apply hK; clear hK hP
  refine aw_sreg {} rfl rfl fun K KP hK hP => ?_
  simp only [go_sem, ↓reduceIte]
  apply hK; clear hK hP
  refine aw_ret ?_
  simp only [go_sem, ↓reduceIte, athen_ret]
theorem refEqual_call (f g : Fm) (hb : f.big ≤ 4611686018427387904) : PCall CX 22 [f.av, g.av] (· = .ret (.bool (decide (cmpF f g = 0)))) := by
  obtain ⟨k, n, t, nl, l⟩ := f
  obtain ⟨k', n', t', nl', l'⟩ := g
  have h := refCompare_call (.mk k n t nl l) hb (.mk k' n' t' nl' l')
  simp only [av_mk] at h
  refine pcall_mk 0 9 [.tmp 4] Tryd.func22 rfl (by decide) rfl rfl rfl ?_
  simp only [go_sem]
  refine aw_sreg {} rfl rfl fun K KP hK hP => ?_
  simp only [go_sem, ↓reduceIte]
  apply hK; clear hK hP
  refine aw_sreg {} rfl rfl fun K KP hK hP => ?_
  simp only [go_sem, ↓reduceIte]
  refine CallP.ret h (by simp only [go_sem]) ?_
  try simp only [go_sem, ↓reduceIte]
  apply hK; clear hK hP
  refine aw_ret ?_
  simp only [go_sem, ↓reduceIte, athen_ret]
def Fm.kids (f : Fm) : List Fm := if f.k = 3 then f.l else []
def Fm.head (f : Fm) : List UInt8 := match f.kids with
  | g :: _ => if g.k = 1 then g.t else []
  | [] => []
theorem head_call (f : Fm) : PCall CX 43 [f.av] (· = .ret (.str f.head)) := by
  obtain ⟨k, n, t, nl, l⟩ := f
  have hkc := kids_call k n t nl l
  by_cases hk : k = 3
  · rw [if_pos hk] at hkc
    cases l with
    | nil =>
      have hh : Fm.head (.mk k n t nl []) = [] := by simp only [Fm.head, Fm.kids, Fm.k, hk, if_true, Fm.l]
      rw [hh]
      refine pcall_mk 0 20 [.tmp 2] Tryd.func43 rfl (by decide) rfl rfl rfl ?_
      simp only [go_sem]
      refine aw_sreg {} rfl rfl fun K KP hK hP => ?_
      simp only [go_sem, ↓reduceIte]
      apply hK; clear hK hP
      refine aw_seq ?_
      refine aw_sreg {} rfl rfl fun K KP hK hP => ?_
      simp only [go_sem, ↓reduceIte]
      refine CallP.ret hkc.av (by simp only [go_sem]) ?_
      try simp only [go_sem, ↓reduceIte]
      apply hK; clear hK hP
      refine aw_sreg {} rfl rfl fun K KP hK hP => ?_
      simp only [go_sem, ↓reduceIte]
      apply hK; clear hK hP
      refine aw_if (False) (by simp only [go_sem, ↓reduceIte]) (fun h2 => ?_) (fun h2 => ?_)
      ·
        exact h2.elim
      ·
        refine aw_skip ?_
        refine athen_normal.2 ?_
        refine aw_sreg {} rfl rfl fun K KP hK hP => ?_
        simp only [go_sem, ↓reduceIte]
        apply hK; clear hK hP
        refine aw_ret ?_
        simp only [go_sem, ↓reduceIte, athen_ret]
    | cons g r =>
      obtain ⟨gk, gn, gt, gnl, gl⟩ := g
      have hh : Fm.head (.mk k n t nl (.mk gk gn gt gnl gl :: r)) = if gk = 1 then gt else [] := by simp only [Fm.head, Fm.kids, Fm.k, hk, if_true, Fm.l, Fm.t]; rfl
      simp only [av_mk, List.map_cons, cells_mk] at hkc
      rw [hh]
      refine pcall_mk 0 20 [.tmp 2] Tryd.func43 rfl (by decide) rfl rfl rfl ?_
      simp only [go_sem]
      refine aw_sreg {} rfl rfl fun K KP hK hP => ?_
      simp only [go_sem, ↓reduceIte, cells_mk, List.getD_cons_zero, Int.reduceLE]
      apply hK; clear hK hP
      refine aw_seq ?_
      refine aw_sreg {} rfl rfl fun K KP hK hP => ?_
      simp only [go_sem, ↓reduceIte, cells_mk, List.getD_cons_zero, Int.reduceLE]
      refine CallP.ret hkc (by simp only [go_sem]) ?_
      try simp only [go_sem, ↓reduceIte, cells_mk, List.getD_cons_zero, Int.reduceLE]
      apply hK; clear hK hP
      refine aw_sreg {} rfl rfl fun K KP hK hP => ?_
      simp only [go_sem, ↓reduceIte, cells_mk, List.getD_cons_zero, Int.reduceLE]
      apply hK; clear hK hP
      refine aw_if (gk = 1) (by simp only [go_sem, ↓reduceIte, cells_mk, List.getD_cons_zero, Int.reduceLE]) (fun h2 => ?_) (fun h2 => ?_)
      ·
        refine aw_sreg {} rfl rfl fun K KP hK hP => ?_
        simp only [go_sem, ↓reduceIte, cells_mk, List.getD_cons_zero, Int.reduceLE]
        apply hK; clear hK hP
        refine aw_ret ?_
        refine athen_ret.2 ?_
        simp only [go_sem, ↓reduceIte, cells_mk, List.getD_cons_zero, Int.reduceLE, athen_ret] <;> (
          simp [h2])
      ·
        refine aw_skip ?_
        refine athen_normal.2 ?_
        refine aw_sreg {} rfl rfl fun K KP hK hP => ?_
        simp only [go_sem, ↓reduceIte, cells_mk, List.getD_cons_zero, Int.reduceLE]
        apply hK; clear hK hP
        refine aw_ret ?_
        simp only [go_sem, ↓reduceIte, cells_mk, List.getD_cons_zero, Int.reduceLE, athen_ret] <;> (
          simp [h2])
  · rw [if_neg hk] at hkc
    have hh : Fm.head (.mk k n t nl l) = [] := by simp only [Fm.head, Fm.kids, Fm.k, hk, if_false]
    rw [hh]
    refine pcall_mk 0 20 [.tmp 2] Tryd.func43 rfl (by decide) rfl rfl rfl ?_
    simp only [go_sem]
    refine aw_sreg {} rfl rfl fun K KP hK hP => ?_
    simp only [go_sem, ↓reduceIte]
    apply hK; clear hK hP
    refine aw_seq ?_
    refine aw_sreg {} rfl rfl fun K KP hK hP => ?_
    simp only [go_sem, ↓reduceIte]
    refine CallP.ret hkc.av (by simp only [go_sem]) ?_
    try simp only [go_sem, ↓reduceIte]
    apply hK; clear hK hP
    refine aw_sreg {} rfl rfl fun K KP hK hP => ?_
    simp only [go_sem, ↓reduceIte]
    apply hK; clear hK hP
    refine aw_if (False) (by simp only [go_sem, ↓reduceIte]) (fun h2 => ?_) (fun h2 => ?_)
    ·
      exact h2.elim
    ·
      refine aw_skip ?_
      refine athen_normal.2 ?_
      refine aw_sreg {} rfl rfl fun K KP hK hP => ?_
      simp only [go_sem, ↓reduceIte]
      apply hK; clear hK hP
      refine aw_ret ?_
      simp only [go_sem, ↓reduceIte, athen_ret]

theorem cells_av (f : Fm) : Fm.av f = .agg f.cells := rfl
@[go_sem] theorem take_forms (l : List Fm) : List.take l.length (l.map Fm.cells) = l.map Fm.cells := List.take_of_length_le (by simp)
theorem kidsA_vec {nl : Bool} {l : List (List AV)} (h : ¬ (nl && l.isEmpty) = true) : kidsA nl l = .vec 4 l := by
  cases nl <;> cases l <;> first | rfl | (simp at h)
/-- A list being filled. -/
def fillR {α : Type} (l : List α) (z : α) (i : Nat) : List α := l.take i ++ List.replicate (l.length - i) z
theorem fillR_get {α : Type} (l : List α) (z : α) (i j : Nat) (hi : i ≤ l.length) : (fillR l z i)[j]? = if j < i then l[j]? else if j < l.length then some z else none := by
  unfold fillR
  have hlen : (l.take i).length = i := by rw [List.length_take]; omega
  by_cases h : j < i
  · rw [List.getElem?_append_left (by omega), List.getElem?_take, if_pos h, if_pos h]
  · rw [List.getElem?_append_right (by omega), List.getElem?_replicate, hlen, if_neg h]
    by_cases h2 : j < l.length
    · rw [if_pos (by omega), if_pos h2]
    · rw [if_neg (by omega), if_neg h2]
theorem fillR_length {α : Type} (l : List α) (z : α) (i : Nat) (hi : i ≤ l.length) : (fillR l z i).length = l.length := by
  unfold fillR
  rw [List.length_append, List.length_take, List.length_replicate]; omega
theorem fillR_set {α : Type} (l : List α) (z : α) (i : Nat) (h : i < l.length) : (fillR l z i).set i l[i] = fillR l z (i + 1) := by
  apply List.ext_getElem?
  intro j
  rw [List.getElem?_set, fillR_length _ _ _ (by omega), fillR_get _ _ _ _ (by omega), fillR_get _ _ _ _ (by omega)]
  by_cases hj : i = j
  · subst hj
    rw [if_pos rfl, if_pos h, if_pos (by omega), List.getElem?_eq_getElem h]
  · rw [if_neg hj]
    by_cases h1 : j < i
    · have h2 : j < i + 1 := by omega
      rw [if_pos h1, if_pos h2]
    · have h2 : ¬ j < i + 1 := by omega
      rw [if_neg h1, if_neg h2]
def zeroRow : List AV := [.int .i64 0, .int .i64 0, .str [], .base (.slice none 0 0)]
/-- A copy is told as what it is copied from. -/
theorem copies_call (nl : Bool) (l : List Fm) (hl : l.length ≤ 1000000000000) (hc : ∀ f ∈ l, PCall CX 37 [f.av] (· = .ret f.av)) : PCall CX 67 [kidsA nl (l.map Fm.cells)] (· = .ret (.vec 4 (l.map Fm.cells))) := by
  have hr : ∀ i, i < l.length → (fillR (l.map Fm.cells) zeroRow i)[i]? = some zeroRow := by
    intro i hi
    rw [fillR_get _ _ _ _ (by simp; omega), if_neg (by omega), if_pos (by simpa using hi)]
  have hs : ∀ i (hi : i < l.length), (fillR (l.map Fm.cells) zeroRow i).set i l[i].cells = fillR (l.map Fm.cells) zeroRow (i + 1) := by
    intro i hi
    have := fillR_set (l.map Fm.cells) zeroRow i (by simpa using hi)
    simpa using this
  have hm1 : ((l.length : Nat) : Int) * 56 ≤ 281474976710656 := by omega
  have hm2 : ((l.length : Nat) : Int) ≤ 4611686018427387904 := by omega
  have h0 : List.replicate l.length [AV.int .i64 0, .int .i64 0, .str [], .base (.slice none 0 0)] = fillR (l.map Fm.cells) zeroRow 0 := by simp [fillR, zeroRow]
  refine pcall_mk 1 23 [.tmp 2] Tryd.func67 rfl (by decide) rfl rfl rfl ?_
  refine aw_sreg {} rfl rfl fun K KP hK hP => ?_
  simp only [go_sem, ↓reduceIte]
  apply hK; clear hK hP
  refine aw_sreg {} rfl rfl fun K KP hK hP => ?_
  simp only [go_sem, ↓reduceIte, hm1, hm2, h0]
  apply hK; clear hK hP
  refine aw_seq ?_
  refine aw_sreg {} rfl rfl fun K KP hK hP => ?_
  simp only [go_sem, ↓reduceIte]
  apply hK; clear hK hP
  refine aw_block ?_
  refine aw_loop' (fun dd st => ∃ (i : Nat), (i ≤ l.length) ∧ l.length - i = dd ∧ [(0, .gvec 4 24 (fillR (l.map Fm.cells) zeroRow i))] = st.σ ∧ st.env 3 = .sref 0 0 4 0 l.length ∧ st.env 9 = kidsA nl (l.map Fm.cells) ∧ st.env 10 = .int .i64 l.length ∧ st.env 11 = .int .i64 (i : Nat)) (fun dd st hJ => ?_) ?_
  ·
    obtain ⟨env0, σ0, nx0⟩ := st
    obtain ⟨i, hp0_0, hd0, hs0, e0_3, e0_9, e0_10, e0_11⟩ := hJ
    dsimp only at hs0  e0_3 e0_9 e0_10 e0_11
    subst hd0; subst hs0
    refine aw_forget' 1 rfl ?_
    refine aw_sreg {} rfl rfl fun K KP hK hP => ?_
    simp only [go_sem, ↓reduceIte, e0_3, e0_9, e0_10, e0_11]
    apply hK; clear hK hP
    refine aw_seq ?_
    refine aw_if (i < l.length) (by simp only [go_sem, ↓reduceIte, e0_3, e0_9, e0_10, e0_11]) (fun h3 => ?_) (fun h3 => ?_)
    ·
      have hw1 : IntKind.wrap .i64 ((i : Int) + 1) = ((i + 1 : Nat) : Int) := by rw [wrap64 (by omega) (by omega)]; omega
      have hz : zeroRow.length = 4 := rfl
      have hz2 : zeroRow.drop 4 = [] := rfl
      refine aw_skip ?_
      refine athen_normal.2 ?_
      refine aw_seq ?_
      refine aw_block ?_
      refine aw_sreg {} rfl (by simp only [allocObjs, go_sem]; rfl) fun K KP hK hP => ?_
      simp only [go_sem, ↓reduceIte, e0_3, e0_9, e0_10, e0_11, h3, getD_cells h3, hw1, hr i h3, hs i h3, hz, hz2]
      apply hK; clear hK hP
      refine aw_lreg {} rfl rfl fun K KP hK hP => ?_
      simp only [go_sem, ↓reduceIte, e0_3, e0_9, e0_10, e0_11, h3, getD_cells h3, hw1, hr i h3, hs i h3, hz, hz2]
      refine CallP.ret (hc _ (List.getElem_mem h3)) (by simp only [go_sem]) ?_
      try simp only [go_sem, ↓reduceIte, e0_3, e0_9, e0_10, e0_11, h3, getD_cells h3, hw1, hr i h3, hs i h3, hz, hz2]
      apply hK; clear hK hP
      refine ablock_normal.2 ?_
      refine athen_normal.2 ?_
      refine aw_lreg {} rfl rfl fun K KP hK hP => ?_
      simp only [go_sem, ↓reduceIte, e0_3, e0_9, e0_10, e0_11, h3, getD_cells h3, hw1, hr i h3, hs i h3, hz, hz2]
      apply hK; clear hK hP
      refine afor_one ?_
      refine athen_normal.2 ?_
      refine ⟨_, ?_, i + 1, ?_, rfl, rfl, ?_, ?_, ?_, ?_⟩
      · omega
      · first | omega | trivial | assumption
      · simp only [go_sem, ↓reduceIte, e0_3, e0_9, e0_10, e0_11, h3, getD_cells h3, hw1, hr i h3, hs i h3, hz, hz2] <;> try rfl
      · simp only [go_sem, ↓reduceIte, e0_3, e0_9, e0_10, e0_11, h3, getD_cells h3, hw1, hr i h3, hs i h3, hz, hz2] <;> try rfl
      · simp only [go_sem, ↓reduceIte, e0_3, e0_9, e0_10, e0_11, h3, getD_cells h3, hw1, hr i h3, hs i h3, hz, hz2] <;> try rfl
      · simp only [go_sem, ↓reduceIte, e0_3, e0_9, e0_10, e0_11, h3, getD_cells h3, hw1, hr i h3, hs i h3, hz, hz2] <;> try rfl
    ·
      refine aw_exit ?_
      refine athen_exit.2 ?_
      refine afor_one ?_
      refine athen_exit.2 ?_
      refine ablock_here ?_
      refine athen_normal.2 ?_
      have hi : i = l.length := by omega
      have hfin : fillR (l.map Fm.cells) zeroRow i = l.map Fm.cells := by subst hi; simp [fillR, take_forms]
      refine aw_sreg {} rfl rfl fun K KP hK hP => ?_
      simp only [go_sem, ↓reduceIte, e0_3, e0_9, e0_10, e0_11]
      apply hK; clear hK hP
      refine aw_ret ?_
      simp only [go_sem, ↓reduceIte, e0_3, e0_9, e0_10, e0_11, athen_ret, hfin]
  ·
    refine ⟨_, 0, ?_, rfl, ?_, ?_, ?_, ?_, ?_⟩
    · first | omega | trivial | assumption
    · first | rfl | (simp only [go_sem, ↓reduceIte])
    · simp only [go_sem, ↓reduceIte] <;> try rfl
    · simp only [go_sem, ↓reduceIte] <;> try rfl
    · simp only [go_sem, ↓reduceIte] <;> try rfl
    · simp only [go_sem, ↓reduceIte] <;> try rfl
theorem copy_call : ∀ f : Fm, f.big ≤ 1000000000000 → PCall CX 37 [f.av] (· = .ret f.av) := Fm.ind fun k n t nl l ih hbig => by
  have hlen := length_le_big l
  simp only [Fm.big] at hbig
  refine pcall_mk 0 11 [.cell 2 24] Tryd.func37 rfl (by decide) rfl rfl rfl ?_
  simp only [go_sem]
  refine aw_sreg { mb := [1] } rfl (by simp only [allocObjs, go_sem]; rfl) fun K KP hK hP => ?_
  simp only [go_sem, ↓reduceIte]
  apply hK; clear hK hP
  refine aw_seq ?_
  refine aw_sreg {} rfl rfl fun K KP hK hP => ?_
  simp only [go_sem, ↓reduceIte]
  apply hK; clear hK hP
  refine aw_if (¬ (nl && (l.map Fm.cells).isEmpty) = true) (by simp only [go_sem, ↓reduceIte]) (fun h1 => ?_) (fun h1 => ?_)
  ·
    refine aw_lreg {} rfl rfl fun K KP hK hP => ?_
    simp only [go_sem, ↓reduceIte]
    refine CallP.ret (copies_call nl l (by omega) (fun f hf => ih f hf (by have := big_mem hf; omega))) (by simp only [go_sem]) ?_
    try simp only [go_sem, ↓reduceIte]
    apply hK; clear hK hP
    refine athen_normal.2 ?_
    refine aw_sreg {} rfl rfl fun K KP hK hP => ?_
    simp only [go_sem, ↓reduceIte]
    apply hK; clear hK hP
    refine aw_ret ?_
    simp only [go_sem, ↓reduceIte, athen_ret] <;> (
      try rw [kidsA_vec h1])
  ·
    refine aw_skip ?_
    refine athen_normal.2 ?_
    refine aw_sreg {} rfl rfl fun K KP hK hP => ?_
    simp only [go_sem, ↓reduceIte]
    apply hK; clear hK hP
    refine aw_ret ?_
    simp only [go_sem, ↓reduceIte, athen_ret] <;> (
      try rw [kidsA_vec h1])

/-! ### Is, Rest, Of -/
def isF (f : Fm) (h : List UInt8) (c : Int) : Bool := decide (f.k = 3) && (decide (f.head = h) && (decide (c < 0) || decide ((f.l.length : Int) = c + 1)))
theorem is_call (f : Fm) (h : List UInt8) (c : Int) (hc : -1000 ≤ c) (hc' : c ≤ 1000) : PCall CX 42 [f.av, .str h, .int .i64 c] (· = .ret (.bool (isF f h c))) := by
  have hw : IntKind.wrap .i64 (c + 1) = c + 1 := wrap64 (by omega) (by omega)
  obtain ⟨k, n, t, nl, l⟩ := f
  refine pcall_mk 0 28 [.tmp 6] Tryd.func42 rfl (by decide) rfl rfl rfl ?_
  simp only [go_sem]
  refine aw_sreg {} rfl rfl fun K KP hK hP => ?_
  simp only [go_sem, ↓reduceIte, hw]
  apply hK; clear hK hP
  by_cases c1_0 : decide (k = 3) = true
  ·
    by_cases c1_1 : Fm.head (.mk k n t nl l) = h
    ·
      by_cases c1_2 : ¬ c < 0
      ·
        refine aw_sreg {} rfl rfl fun K KP hK hP => ?_
        simp only [go_sem, ↓reduceIte, hw, c1_0, c1_1, c1_2]
        refine CallP.ret (head_call (.mk k n t nl l)).av (by simp only [go_sem]) ?_
        try simp only [go_sem, ↓reduceIte, hw, c1_0, c1_1, c1_2]
        apply hK; clear hK hP
        refine aw_ret ?_
        simp only [go_sem, ↓reduceIte, hw, c1_0, c1_1, c1_2, athen_ret] <;> (
          have h2 : ¬ c < 0 := c1_2
          have h3 : k = 3 := of_decide_eq_true c1_0
          have h4 : decide (c < 0) = false := by simpa using h2
          have h5 : decide (k = 3) = true := c1_0
          unfold isF
          rw [c1_1, h4]
          simp [Fm.k, Fm.l, h3] <;> rfl)
      ·
        replace c1_2 := Classical.not_not.1 c1_2
        refine aw_sreg {} rfl rfl fun K KP hK hP => ?_
        simp only [go_sem, ↓reduceIte, hw, c1_0, c1_1, c1_2]
        refine CallP.ret (head_call (.mk k n t nl l)).av (by simp only [go_sem]) ?_
        try simp only [go_sem, ↓reduceIte, hw, c1_0, c1_1, c1_2]
        apply hK; clear hK hP
        refine aw_ret ?_
        simp only [go_sem, ↓reduceIte, hw, c1_0, c1_1, c1_2, athen_ret] <;> (
          simp_all [isF, Fm.k, Fm.l])
    ·
      refine aw_sreg {} rfl rfl fun K KP hK hP => ?_
      simp only [go_sem, ↓reduceIte, hw, c1_0, c1_1]
      refine CallP.ret (head_call (.mk k n t nl l)).av (by simp only [go_sem]) ?_
      try simp only [go_sem, ↓reduceIte, hw, c1_0, c1_1]
      apply hK; clear hK hP
      refine aw_ret ?_
      simp only [go_sem, ↓reduceIte, hw, c1_0, c1_1, athen_ret] <;> (
        simp_all [isF, Fm.k, Fm.l])
  ·
    refine aw_sreg {} rfl rfl fun K KP hK hP => ?_
    simp only [go_sem, ↓reduceIte, hw, c1_0]
    apply hK; clear hK hP
    refine aw_ret ?_
    simp only [go_sem, ↓reduceIte, hw, c1_0, athen_ret] <;> (
      simp_all [isF, Fm.k, Fm.l])
theorem rest_call (k n : Int) (t : List UInt8) (nl : Bool) (l : List Fm) : PCall CX 65 [Fm.av (.mk k n t nl l)] (· = .ret (if l = [] then .base (.slice none 0 0) else .vec 4 (l.tail.map Fm.cells))) := by
  cases l with
  | nil =>
    refine pcall_mk 0 10 [.tmp 2] Tryd.func65 rfl (by decide) rfl rfl rfl ?_
    simp only [go_sem]
    refine aw_sreg {} rfl rfl fun K KP hK hP => ?_
    simp only [go_sem, ↓reduceIte]
    apply hK; clear hK hP
    refine aw_seq ?_
    refine aw_sreg {} rfl rfl fun K KP hK hP => ?_
    simp only [go_sem, ↓reduceIte]
    apply hK; clear hK hP
    refine aw_if (True) (by simp only [go_sem, ↓reduceIte]) (fun h1 => ?_) (fun h1 => ?_)
    ·
      refine aw_sreg {} rfl rfl fun K KP hK hP => ?_
      simp only [go_sem, ↓reduceIte]
      apply hK; clear hK hP
      refine aw_ret ?_
      refine athen_ret.2 ?_
      simp only [go_sem, ↓reduceIte, athen_ret]
    ·
      exact absurd trivial h1
  | cons g r =>
    have hv : kidsA nl (List.map Fm.cells (g :: r)) = .vec 4 (List.map Fm.cells (g :: r)) := kidsA_vec (by simp)
    rw [av_mk, hv]
    refine pcall_mk 0 10 [.tmp 2] Tryd.func65 rfl (by decide) rfl rfl rfl ?_
    simp only [go_sem]
    refine aw_sreg {} rfl rfl fun K KP hK hP => ?_
    simp only [go_sem, ↓reduceIte]
    apply hK; clear hK hP
    refine aw_seq ?_
    refine aw_sreg {} rfl rfl fun K KP hK hP => ?_
    simp only [go_sem, ↓reduceIte]
    apply hK; clear hK hP
    refine aw_if (False) (by simp only [go_sem, ↓reduceIte]) (fun h1 => ?_) (fun h1 => ?_)
    ·
      exact h1.elim
    ·
      refine aw_skip ?_
      refine athen_normal.2 ?_
      have hlt : (1 : Int) ≤ ((r.length + 1 : Nat) : Int) := by omega
      refine aw_sreg {} rfl rfl fun K KP hK hP => ?_
      simp only [go_sem, ↓reduceIte, hlt]
      apply hK; clear hK hP
      refine aw_ret ?_
      simp only [go_sem, ↓reduceIte, athen_ret] <;> (
        simp)
/-- What is made a list of, written by cells. -/
theorem listA_call (σ : Sto) (nx : Nat) (x : AV) (hx : cellsA x = some [x]) : ACall CX 68 [x] σ nx (GetsN (.agg [.int .i64 3, .int .i64 0, .str [], x]) σ) := by
  refine acall_cut ?_
  refine acall_mk 5 [.cell 2 24] Tryd.func68 rfl (by decide) rfl rfl rfl ?_
  refine aw_sreg {} rfl (by simp only [allocObjs, go_sem]; rfl) fun K KP hK hP => ?_
  simp only [go_sem, ↓reduceIte, hx]
  apply hK; clear hK hP
  refine aw_sreg {} rfl rfl fun K KP hK hP => ?_
  simp only [go_sem, ↓reduceIte, hx]
  apply hK; clear hK hP
  refine aw_ret ?_
  simp only [go_sem, ↓reduceIte, hx, athen_ret]
@[go_sem] theorem map_frz0 (σ : Sto) (x : List AV) : x.map (frzF σ 0) = x := List.map_id x
theorem of_call (h : List UInt8) (nl : Bool) (l : List Fm) (hl : l.length ≤ 1000000000000) : PCall CX 38 [.str h, kidsA nl (l.map Fm.cells)] (· = .ret (Fm.av (.mk 3 0 [] false (wordF h :: l)))) := by
  have hw : (wordF h).cells.length = 4 := cells_length _
  have hap : (1 + l.length) * 56 ≤ limB := by unfold limB; omega
  have hap2 : 1 + l.length ≤ 4611686018427387904 := by omega
  have hle : 1 + l.length ≤ l.length + 1 := by omega
  have htk : ∀ x : List AV, List.take (1 + l.length) (x :: l.map Fm.cells) = x :: l.map Fm.cells := fun x => List.take_of_length_le (by simp; omega)
  refine pcall_mk 2 11 [.cell 4 24] Tryd.func38 rfl (by decide) rfl rfl rfl ?_
  refine aw_sreg {} rfl (by simp only [allocObjs, go_sem]; rfl) fun K KP hK hP => ?_
  simp only [go_sem, ↓reduceIte, hw, hap, hap2, List.replicate_succ]
  apply hK; clear hK hP
  refine aw_sreg { mb := [7], ac := [10] } rfl rfl fun K KP hK hP => ?_
  simp only [go_sem, ↓reduceIte, hw, hap, hap2, List.replicate_succ]
  refine CallP.ret (word_call h) (by simp only [go_sem]) ?_
  try simp only [go_sem, ↓reduceIte, hw, hap, hap2, List.replicate_succ]
  refine CallP.acallN (listA_call _ _ (.sref _ _ _ _ _) rfl) (fun nx1 => ?_)
  try simp only [go_sem, ↓reduceIte, hw, hap, hap2, List.replicate_succ]
  apply hK; clear hK hP
  refine aw_ret ?_
  simp only [go_sem, ↓reduceIte, hw, hap, hap2, List.replicate_succ, athen_ret, hle, htk, kidsA, List.map_id']
end Go.Ab
