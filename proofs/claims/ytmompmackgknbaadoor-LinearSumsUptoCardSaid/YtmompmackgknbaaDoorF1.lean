/-
  FORMS as abstract values, and the contracts of the small functions on them.
-/
import Derived.Test.YtmompmackgknbaaDoorFacts
set_option linter.unusedVariables false
set_option linter.unusedSimpArgs false
set_option maxRecDepth 100000
namespace Go.Ab
open Go Go.RowKit Go.Proofs

noncomputable def CX : Cx := ⟨Tryd.prog, fun _ => .any, fun _ => trivial⟩
@[go_sem] theorem CX_P : CX.P = Tryd.prog := rfl

inductive Fm where
  | mk (k n : Int) (t : List UInt8) (nl : Bool) (l : List Fm)
def kidsA : Bool → List (List AV) → AV
  | true, [] => .base (.slice none 0 0)
  | _, rows => .vec 4 rows
mutual
def Fm.cells : Fm → List AV
  | .mk k n t nl l => [.int .i64 k, .int .i64 n, .str t, kidsA nl (Fm.cellsL l)]
def Fm.cellsL : List Fm → List (List AV)
  | [] => []
  | f :: r => f.cells :: Fm.cellsL r
end
theorem cellsL_map : ∀ l : List Fm, Fm.cellsL l = l.map Fm.cells
  | [] => by simp only [Fm.cellsL, List.map_nil]
  | f :: r => by simp only [Fm.cellsL, List.map_cons, cellsL_map r]
def Fm.av (f : Fm) : AV := .agg f.cells
theorem cells_mk (k n : Int) (t : List UInt8) (nl : Bool) (l : List Fm) : Fm.cells (.mk k n t nl l) = [.int .i64 k, .int .i64 n, .str t, kidsA nl (l.map Fm.cells)] := by simp only [Fm.cells, cellsL_map]
@[go_sem] theorem av_mk (k n : Int) (t : List UInt8) (nl : Bool) (l : List Fm) : Fm.av (.mk k n t nl l) = .agg [.int .i64 k, .int .i64 n, .str t, kidsA nl (l.map Fm.cells)] := by simp only [Fm.av, cells_mk]
@[go_sem] theorem nilTest_kids (b : Bool) (l : List (List AV)) : nilTest Tryd.prog 22 (kidsA b l) = some (b && l.isEmpty) := by
  cases b <;> cases l <;> simp only [kidsA, nilTest, und_22, nilT, nilA, if_true] <;> rfl
@[go_sem] theorem appYs_kids (σ : Sto) (b : Bool) (l : List (List AV)) : appYs Tryd.prog 22 4 σ (kidsA b l) = some l := by
  cases b <;> cases l <;> simp [kidsA, appYs, slcT_22, elemsA]
@[go_sem] theorem frzF_kids (σ : Sto) (F : Nat) (b : Bool) (l : List (List AV)) : frzF σ F (kidsA b l) = kidsA b l := by
  cases F <;> cases b <;> cases l <;> rfl
theorem PCall.av {C : Cx} {g : FuncId} {k n : Int} {t : List UInt8} {nl : Bool} {l : List Fm} {args : List AV} {Q : AOut → Prop} (h : PCall C g (Fm.av (.mk k n t nl l) :: args) Q) : PCall C g (.agg [.int .i64 k, .int .i64 n, .str t, kidsA nl (l.map Fm.cells)] :: args) Q := by rwa [av_mk] at h
theorem ACall.av {C : Cx} {g : FuncId} {k n : Int} {t : List UInt8} {nl : Bool} {l : List Fm} {args : List AV} {σ : Sto} {nx : Nat} {Q : AOut → Sto → Nat → Prop} (h : ACall C g (Fm.av (.mk k n t nl l) :: args) σ nx Q) : ACall C g (.agg [.int .i64 k, .int .i64 n, .str t, kidsA nl (l.map Fm.cells)] :: args) σ nx Q := by rwa [av_mk] at h
@[go_sem] theorem cells_length (f : Fm) : f.cells.length = 4 := by cases f; simp only [cells_mk, List.length_cons, List.length_nil]
theorem Fm.ind {P : Fm → Prop} (h : ∀ k n t nl l, (∀ f ∈ l, P f) → P (.mk k n t nl l)) : ∀ f, P f := by
  have key : ∀ f : Fm, P f := fun f => Fm.rec (motive_1 := P) (motive_2 := fun l => ∀ f ∈ l, P f) (fun k n t nl l ih => h k n t nl l ih) (fun f hf => by cases hf) (fun f r hf hr g hg => by
    rcases List.mem_cons.1 hg with rfl | hg
    · exact hf
    · exact hr g hg) f
  exact key
theorem Fm.rf : ∀ f : Fm, RFL f.cells := Fm.ind fun k n t nl l ih => by
  have h : RFLL (l.map Fm.cells) := (RFLL_iff _).2 fun r hr => by
    obtain ⟨f, hf, rfl⟩ := List.mem_map.1 hr
    exact ih f hf
  have : RF (kidsA nl (l.map Fm.cells)) := by
    unfold kidsA
    split
    · trivial
    · simp only [RF]; exact h
  simp only [cells_mk, RFL, RF, true_and, and_true]
  exact this
@[go_sem] theorem RF_kids (b : Bool) (rows : List (List AV)) : RF (kidsA b rows) ↔ RFLL rows := by
  cases b <;> cases rows <;> simp only [kidsA, RF, RFLL]
@[go_sem] theorem RFLL_forms (l : List Fm) : RFLL (l.map Fm.cells) ↔ True := by
  simp only [iff_true]
  refine (RFLL_iff _).2 fun r hr => ?_
  obtain ⟨f, hf, rfl⟩ := List.mem_map.1 hr
  exact f.rf
@[go_sem] theorem RF_av (f : Fm) : RF f.av ↔ True := by simp only [Fm.av, RF, iff_true]; exact f.rf
@[go_sem] theorem RFL_cells (f : Fm) : RFL f.cells ↔ True := by simp only [iff_true]; exact f.rf
@[go_sem] theorem cellsA_av (f : Fm) : cellsA f.av = some f.cells := rfl
@[go_sem] theorem cellsA_kids (b : Bool) (l : List (List AV)) : cellsA (kidsA b l) = some [kidsA b l] := by
  cases b <;> cases l <;> rfl
@[go_sem] theorem lenA_kids (b : Bool) (l : List (List AV)) : lenA Tryd.prog 22 (kidsA b l) = some (.int .i64 l.length) := by
  cases b <;> cases l <;> simp only [kidsA, lenA, slcT_22, if_true, List.length_nil] <;> rfl
@[go_sem] theorem idxA_kids (b : Bool) (l : List (List AV)) (k : IntKind) (n : Int) : idxA Tryd.prog 22 (kidsA b l) (.int k n) = if 0 ≤ n ∧ n < l.length then some (.rptr (l.getD n.toNat [])) else none := by
  cases b <;> cases l <;> simp only [kidsA, idxA, elmT_22, List.length_nil, true_and]
  have : ¬ (0 ≤ n ∧ n < ((0 : Nat) : Int)) := by omega
  rw [if_neg this]
@[go_sem] theorem loadC_form (f : Fm) : loadC Tryd.prog 24 f.cells = some f.av := by
  have h := cells_length f
  simp only [loadC, aggT_24, szT_24, h, Nat.le_refl, if_true, Fm.av]
  rw [List.take_of_length_le (by omega)]
@[go_sem] theorem readA_form (σ : Sto) (f : Fm) : readA Tryd.prog 24 σ (.rptr f.cells) = some f.av := loadC_form f
theorem getD_cells {l : List Fm} {i : Nat} (h : i < l.length) : (l.map Fm.cells).getD i [] = l[i].cells := by
  simp [h]
def Fm.k : Fm → Int | .mk k _ _ _ _ => k
def Fm.n : Fm → Int | .mk _ n _ _ _ => n
def Fm.t : Fm → List UInt8 | .mk _ _ t _ _ => t
def Fm.nl : Fm → Bool | .mk _ _ _ nl _ => nl
def Fm.l : Fm → List Fm | .mk _ _ _ _ l => l

theorem kids_call (k n : Int) (t : List UInt8) (nl : Bool) (l : List Fm) : PCall CX 61 [Fm.av (.mk k n t nl l)] (· = .ret (if k = 3 then kidsA nl (l.map Fm.cells) else .base (.slice none 0 0))) := by
  refine pcall_mk 0 8 [.tmp 2] Tryd.func61 rfl (by decide) rfl rfl rfl ?_
  simp only [go_sem]
  refine aw_sreg {} rfl rfl fun K KP hK hP => ?_
  simp only [go_sem, ↓reduceIte]
  apply hK; clear hK hP
  refine aw_seq ?_
  refine aw_sreg {} rfl rfl fun K KP hK hP => ?_
  simp only [go_sem, ↓reduceIte]
  apply hK; clear hK hP
  refine aw_if (k = 3) (by simp only [go_sem, ↓reduceIte]) (fun h1 => ?_) (fun h1 => ?_)
  ·
    refine aw_sreg {} rfl rfl fun K KP hK hP => ?_
    simp only [go_sem, ↓reduceIte]
    apply hK; clear hK hP
    refine aw_ret ?_
    refine athen_ret.2 ?_
    simp only [go_sem, ↓reduceIte, athen_ret, h1]
  ·
    refine aw_skip ?_
    refine athen_normal.2 ?_
    refine aw_sreg {} rfl rfl fun K KP hK hP => ?_
    simp only [go_sem, ↓reduceIte]
    apply hK; clear hK hP
    refine aw_ret ?_
    simp only [go_sem, ↓reduceIte, athen_ret, h1]
theorem sign_call (a b : Bool) : PCall CX 59 [.bool a, .bool b] (· = .ret (.int .i64 (if a then -1 else if b then 1 else 0))) := by
  refine pcall_mk 0 7 [.tmp 4] Tryd.func59 rfl (by decide) rfl rfl rfl ?_
  refine aw_sreg {} rfl rfl fun K KP hK hP => ?_
  simp only [go_sem, ↓reduceIte]
  apply hK; clear hK hP
  refine aw_seq ?_
  refine aw_sreg {} rfl rfl fun K KP hK hP => ?_
  simp only [go_sem, ↓reduceIte]
  apply hK; clear hK hP
  refine aw_if (a = true) (by simp only [go_sem, ↓reduceIte, Bool.decide_eq_true]) (fun h1 => ?_) (fun h1 => ?_)
  ·
    refine aw_sreg {} rfl rfl fun K KP hK hP => ?_
    simp only [go_sem, ↓reduceIte]
    apply hK; clear hK hP
    refine aw_ret ?_
    refine athen_ret.2 ?_
    simp only [go_sem, ↓reduceIte, athen_ret] <;> (
      simp_all)
  ·
    refine aw_skip ?_
    refine athen_normal.2 ?_
    refine aw_seq ?_
    refine aw_sreg {} rfl rfl fun K KP hK hP => ?_
    simp only [go_sem, ↓reduceIte]
    apply hK; clear hK hP
    refine aw_if (b = true) (by simp only [go_sem, ↓reduceIte, Bool.decide_eq_true]) (fun h3 => ?_) (fun h3 => ?_)
    ·
      refine aw_sreg {} rfl rfl fun K KP hK hP => ?_
      simp only [go_sem, ↓reduceIte]
      apply hK; clear hK hP
      refine aw_ret ?_
      refine athen_ret.2 ?_
      simp only [go_sem, ↓reduceIte, athen_ret] <;> (
        simp_all)
    ·
      refine aw_skip ?_
      refine athen_normal.2 ?_
      refine aw_sreg {} rfl rfl fun K KP hK hP => ?_
      simp only [go_sem, ↓reduceIte]
      apply hK; clear hK hP
      refine aw_ret ?_
      simp only [go_sem, ↓reduceIte, athen_ret] <;> (
        simp_all)
mutual
def Fm.size : Fm → Nat
  | .mk k _ _ _ l => if k = 3 then 1 + Fm.sizeL l else 1
def Fm.sizeL : List Fm → Nat
  | [] => 0
  | f :: r => f.size + Fm.sizeL r
end
theorem sizeL_take {l : List Fm} {i : Nat} (h : i < l.length) : Fm.sizeL (l.take (i + 1)) = Fm.sizeL (l.take i) + l[i].size := by
  induction l generalizing i with
  | nil => simp at h
  | cons f r ih =>
    cases i with
    | zero => simp [Fm.sizeL]
    | succ i => simp only [List.take_succ_cons, Fm.sizeL, List.getElem_cons_succ]; rw [ih (by simpa using h)]; omega
theorem sizeL_take_le (l : List Fm) (i : Nat) : Fm.sizeL (l.take i) ≤ Fm.sizeL l := by
  induction l generalizing i with
  | nil => simp [Fm.sizeL]
  | cons f r ih =>
    cases i with
    | zero => simp [Fm.sizeL]
    | succ i => simp only [List.take_succ_cons, Fm.sizeL]; have := ih i; omega
theorem size_mem {l : List Fm} {f : Fm} (h : f ∈ l) : f.size ≤ Fm.sizeL l := by
  induction l with
  | nil => cases h
  | cons g r ih => rcases List.mem_cons.1 h with rfl | h <;> simp only [Fm.sizeL] <;> first | omega | (have := ih h; omega)
theorem size_pos (f : Fm) : 1 ≤ f.size := by cases f; simp only [Fm.size]; split <;> omega
theorem length_le_size (l : List Fm) : l.length ≤ Fm.sizeL l := by
  induction l with
  | nil => simp [Fm.sizeL]
  | cons f r ih => simp only [Fm.sizeL, List.length_cons]; have := size_pos f; omega

/- All that a form is made of. -/
mutual
def Fm.big : Fm → Nat
  | .mk _ _ t _ l => 1 + t.length + Fm.bigL l
def Fm.bigL : List Fm → Nat
  | [] => 0
  | f :: r => f.big + Fm.bigL r
end
theorem big_mem {l : List Fm} {f : Fm} (h : f ∈ l) : f.big ≤ Fm.bigL l := by
  induction l with
  | nil => cases h
  | cons g r ih => rcases List.mem_cons.1 h with rfl | h <;> simp only [Fm.bigL] <;> first | omega | (have := ih h; omega)
theorem big_pos (f : Fm) : 1 ≤ f.big := by cases f; simp only [Fm.big]; omega
theorem length_le_big (l : List Fm) : l.length ≤ Fm.bigL l := by
  induction l with
  | nil => simp [Fm.bigL]
  | cons f r ih => simp only [Fm.bigL, List.length_cons]; have := big_pos f; omega
theorem sizeL_le_bigL : ∀ l : List Fm, (∀ f ∈ l, f.size ≤ f.big) → Fm.sizeL l ≤ Fm.bigL l
  | [], _ => Nat.le_refl _
  | f :: r, h => by
    simp only [Fm.sizeL, Fm.bigL]
    have h1 := h f (by simp)
    have h2 := sizeL_le_bigL r (fun g hg => h g (by simp [hg]))
    omega
theorem size_le_big : ∀ f : Fm, f.size ≤ f.big := Fm.ind fun k n t nl l ih => by
  have := sizeL_le_bigL l ih
  simp only [Fm.size, Fm.big]
  split <;> omega

theorem refSize_call : ∀ f : Fm, f.size ≤ 4611686018427387904 → PCall CX 7 [f.av] (· = .ret (.int .i64 f.size)) := Fm.ind fun k n t nl l ih hsz => by
  simp only [Fm.size] at hsz
  refine pcall_mk 0 26 [.tmp 2] Tryd.func7 rfl (by decide) rfl rfl rfl ?_
  simp only [go_sem]
  refine aw_sreg {} rfl rfl fun K KP hK hP => ?_
  simp only [go_sem, ↓reduceIte]
  apply hK; clear hK hP
  refine aw_sreg {} rfl rfl fun K KP hK hP => ?_
  simp only [go_sem, ↓reduceIte]
  apply hK; clear hK hP
  refine aw_seq ?_
  refine aw_sreg {} rfl rfl fun K KP hK hP => ?_
  simp only [go_sem, ↓reduceIte]
  apply hK; clear hK hP
  refine aw_block ?_
  refine aw_loop' (fun dd st => ∃ (i : Nat), (i ≤ l.length) ∧ ((k ≠ 3 → i = 0)) ∧ l.length - i = dd ∧ [] = st.σ ∧ st.env 1 = .rptr [.int .i64 k, .int .i64 n, .str t, kidsA nl (l.map Fm.cells)] ∧ st.env 3 = .int .i64 (1 + Fm.sizeL (l.take i) : Nat) ∧ st.env 4 = .int .i64 (i : Nat)) (fun dd st hJ => ?_) ?_
  ·
    obtain ⟨env0, σ0, nx0⟩ := st
    obtain ⟨i, hp0_0, hp0_1, hd0, hs0, e0_1, e0_3, e0_4⟩ := hJ
    dsimp only at hs0  e0_1 e0_3 e0_4
    subst hd0; subst hs0
    have hb := sizeL_take_le l i
    refine aw_forget' 0 rfl ?_
    refine aw_seq ?_
    by_cases c3 : k = 3
    ·
      refine aw_sreg {} rfl rfl fun K KP hK hP => ?_
      simp only [go_sem, ↓reduceIte, e0_1, e0_3, e0_4, c3]
      apply hK; clear hK hP
      refine aw_if (i < l.length) (by simp only [go_sem, ↓reduceIte, e0_1, e0_3, e0_4, c3]) (fun h3 => ?_) (fun h3 => ?_)
      ·
        simp only [c3, if_true] at hsz
        have h4 := sizeL_take h3
        have hb1 := sizeL_take_le l (i + 1)
        have hb2 := length_le_size l
        have hb3 := size_mem (List.getElem_mem h3)
        have w4 : IntKind.wrap .i64 ((i : Int) + 1) = ((i + 1 : Nat) : Int) := by rw [wrap64 (by omega) (by omega)]; omega
        have w3 : IntKind.wrap .i64 (((1 + Fm.sizeL (l.take i) : Nat) : Int) + (l[i].size : Int)) = ((1 + Fm.sizeL (l.take (i + 1)) : Nat) : Int) := by rw [wrap64 (by omega) (by omega)]; omega
        refine aw_skip ?_
        refine athen_normal.2 ?_
        refine aw_seq ?_
        refine aw_block ?_
        refine aw_lreg {} rfl rfl fun K KP hK hP => ?_
        simp only [go_sem, ↓reduceIte, e0_1, e0_3, e0_4, c3, h3, getD_cells h3, w3, w4]
        refine CallP.ret (ih _ (List.getElem_mem h3) (by omega)) (by simp only [go_sem]) ?_
        try simp only [go_sem, ↓reduceIte, e0_1, e0_3, e0_4, c3, h3, getD_cells h3, w3, w4]
        apply hK; clear hK hP
        refine ablock_normal.2 ?_
        refine athen_normal.2 ?_
        refine aw_lreg {} rfl rfl fun K KP hK hP => ?_
        simp only [go_sem, ↓reduceIte, e0_1, e0_3, e0_4, c3, h3, getD_cells h3, w3, w4]
        apply hK; clear hK hP
        refine afor_zero ?_
        refine athen_normal.2 ?_
        refine ⟨_, ?_, i + 1, ?_, ?_, rfl, rfl, ?_, ?_, ?_⟩
        · omega
        · first | omega | trivial | assumption
        · exact fun h => absurd c3 h
        · simp only [go_sem, ↓reduceIte, e0_1, e0_3, e0_4, c3, h3, getD_cells h3, w3, w4] <;> try rfl
        · simp only [go_sem, ↓reduceIte, e0_1, e0_3, e0_4, c3, h3, getD_cells h3, w3, w4] <;> try rfl
        · simp only [go_sem, ↓reduceIte, e0_1, e0_3, e0_4, c3, h3, getD_cells h3, w3, w4] <;> try rfl
      ·
        refine aw_exit ?_
        refine athen_exit.2 ?_
        refine afor_zero ?_
        refine athen_exit.2 ?_
        refine ablock_here ?_
        refine athen_normal.2 ?_
        refine aw_sreg {} rfl rfl fun K KP hK hP => ?_
        simp only [go_sem, ↓reduceIte, e0_1, e0_3, e0_4, c3]
        apply hK; clear hK hP
        refine aw_ret ?_
        simp only [go_sem, ↓reduceIte, e0_1, e0_3, e0_4, c3, athen_ret, AOut.ret.injEq, AV.int.injEq] <;> (
          have hi : i = l.length := by omega
          subst hi
          simp only [Fm.size, c3, if_true, List.take_length])
    ·
      refine aw_sreg {} rfl rfl fun K KP hK hP => ?_
      simp only [go_sem, ↓reduceIte, e0_1, e0_3, e0_4, c3]
      apply hK; clear hK hP
      refine aw_if (False) (by simp only [go_sem, ↓reduceIte, e0_1, e0_3, e0_4, c3]) (fun h3 => ?_) (fun h3 => ?_)
      ·
        exact h3.elim
      ·
        refine aw_exit ?_
        refine athen_exit.2 ?_
        refine afor_zero ?_
        refine athen_exit.2 ?_
        refine ablock_here ?_
        refine athen_normal.2 ?_
        refine aw_sreg {} rfl rfl fun K KP hK hP => ?_
        simp only [go_sem, ↓reduceIte, e0_1, e0_3, e0_4, c3]
        apply hK; clear hK hP
        refine aw_ret ?_
        simp only [go_sem, ↓reduceIte, e0_1, e0_3, e0_4, c3, athen_ret, AOut.ret.injEq, AV.int.injEq] <;> (
          rw [hp0_1 c3]
          simp only [Fm.size, c3, if_false, List.take_zero, Fm.sizeL])
  ·
    refine ⟨_, 0, ?_, ?_, rfl, ?_, ?_, ?_, ?_⟩
    · first | omega | trivial | assumption
    · first | omega | trivial | assumption
    · first | rfl | (simp only [go_sem, ↓reduceIte])
    · simp only [go_sem, ↓reduceIte] <;> try rfl
    · simp only [go_sem, ↓reduceIte] <;> try rfl
    · simp only [go_sem, ↓reduceIte] <;> try rfl
end Go.Ab
