/-
  SUMS ADDED: the contract of linear.plus.
-/
import Derived.Test.YtmompmackgknbaaDoorL2
set_option linter.unusedVariables false
set_option linter.unusedSimpArgs false
set_option maxRecDepth 100000
namespace Go.Ab
open Go Go.RowKit Go.Proofs

@[go_sem] theorem frzF_iface (σ : Sto) (F : Nat) (t : TypeId) (v : AV) : frzF σ (F + 1) (.iface t v) = .iface t (frzF σ F v) := by simp only [frzF]
@[go_sem] theorem frz_cells (σ : Sto) (F : Nat) (f : Fm) : f.cells.map (frzF σ F) = f.cells := by
  obtain ⟨k, n, t, nl, l⟩ := f
  simp only [cells_mk, List.map_cons, List.map_nil, frzF_int, frzF_str, frzF_kids]
@[go_sem] theorem frz_ptrow (σ : Sto) (F : Nat) : (fun r => List.map (frzF σ F) r) ∘ Pt.row = Pt.row := by
  funext p
  simp only [Function.comp, Pt.row, List.map_cons, frzF_int, frz_cells]
@[go_sem] theorem frz_ptrows (σ : Sto) (F : Nat) (l : List Pt) : (l.map Pt.row).map (fun r => List.map (frzF σ F) r) = l.map Pt.row := by
  rw [List.map_map, frz_ptrow]
@[go_sem] theorem take_pts (l : List Pt) : List.take l.length (l.map Pt.row) = l.map Pt.row := List.take_of_length_le (by simp)
/-- The order of what stands next in both. -/
def ordI (l l' : List Pt) (i j : Nat) : Int := match l[i]?, l'[j]? with
  | none, _ => 1
  | some _, none => -1
  | some p, some q => cmpF p.t q.t
theorem merge_less (f : Int) {l l' : List Pt} {i j : Nat} (h : i < l.length) (ho : ordI l l' i j < 0) : mergeL f (l.drop i) (l'.drop j) = (mergeL f (l.drop (i + 1)) (l'.drop j)).map (consP l[i].c l[i].t) := by
  rw [List.drop_eq_getElem_cons h]
  unfold ordI at ho
  rw [List.getElem?_eq_getElem h] at ho
  rcases Nat.lt_or_ge j l'.length with hj | hj
  · rw [List.getElem?_eq_getElem hj] at ho
    rw [List.drop_eq_getElem_cons hj, mergeL, if_pos ho]
  · rw [List.drop_of_length_le hj, mergeL]
theorem merge_more (f : Int) {l l' : List Pt} {i j : Nat} (h : j < l'.length) (ho : 0 < ordI l l' i j) : mergeL f (l.drop i) (l'.drop j) = (timesS l'[j].c f).bind fun x => (wholeS x).bind fun c => (mergeL f (l.drop i) (l'.drop (j + 1))).map (consP c l'[j].t) := by
  rw [List.drop_eq_getElem_cons h]
  unfold ordI at ho
  rw [List.getElem?_eq_getElem h] at ho
  rcases Nat.lt_or_ge i l.length with hi | hi
  · rw [List.getElem?_eq_getElem hi] at ho
    simp only at ho
    rw [List.drop_eq_getElem_cons hi, mergeL, if_neg (by omega), if_pos ho]
  · rw [List.drop_of_length_le hi, mergeL]
theorem merge_same (f : Int) {l l' : List Pt} {i j : Nat} (h : i < l.length) (h' : j < l'.length) (ho : ordI l l' i j = 0) : mergeL f (l.drop i) (l'.drop j) = (timesS l'[j].c f).bind fun x => (wholeS (l[i].c + x)).bind fun c => (mergeL f (l.drop (i + 1)) (l'.drop (j + 1))).map (consP c l'[j].t) := by
  unfold ordI at ho
  rw [List.getElem?_eq_getElem h, List.getElem?_eq_getElem h'] at ho
  simp only at ho
  rw [List.drop_eq_getElem_cons h, List.drop_eq_getElem_cons h', mergeL, if_neg (by omega), if_neg (by omega)]
theorem ord_end {l l' : List Pt} {i j : Nat} (hi : i = l.length) : ordI l l' i j = 1 := by
  subst hi; simp [ordI]
theorem ord_end' {l l' : List Pt} {i j : Nat} (hi : i < l.length) (hj : j = l'.length) : ordI l l' i j = -1 := by
  subst hj; simp [ordI, List.getElem?_eq_getElem hi]
theorem ord_in {l l' : List Pt} {i j : Nat} (hi : i < l.length) (hj : j < l'.length) : ordI l l' i j = cmpF l[i].t l'[j].t := by
  simp [ordI, List.getElem?_eq_getElem hi, List.getElem?_eq_getElem hj]
/-- How the parts that are there so far lie. -/
def holdP (out : List Pt) (tv : AV) (σr : Sto) : Prop := (out = [] ∧ tv = .base (.slice none 0 0)) ∨ ∃ pre nm rest, out ≠ [] ∧ tv = .sref (pre.length + 1 + 1) nm 5 0 out.length ∧ σr = pre ++ (nm, .gvec 5 68 (out.map Pt.row)) :: rest
theorem holdP.snoc {out : List Pt} {tv : AV} {σr : Sto} (h : holdP out tv σr) (x : Nat × AObj) : holdP out tv (σr ++ [x]) := by
  rcases h with ⟨h1, h2⟩ | ⟨pre, nm, rest, h1, h2, h3⟩
  · exact .inl ⟨h1, h2⟩
  · exact .inr ⟨pre, nm, rest ++ [x], h1, h2, by rw [h3]; simp⟩
@[go_sem] theorem sget_two (a b : Nat × AObj) (σ l : Sto) (n : Nat) (o : AObj) : sget (a :: b :: (σ ++ (n, o) :: l)) (σ.length + 1 + 1) n = some o := by simp [sget]
@[go_sem] theorem set_two (a b : Nat × AObj) (σ l : Sto) (x y : Nat × AObj) : (a :: b :: (σ ++ x :: l)).set (σ.length + 1 + 1) y = a :: b :: (σ ++ y :: l) := by simp
@[go_sem] theorem drop4 (f : Fm) : List.drop 4 f.cells = [] := List.drop_of_length_le (by rw [cells_length]; omega)
attribute [go_sem] List.append_nil
def zeroF : Fm := .mk 0 0 [] true []
theorem zeroF_cells : zeroF.cells = [.int .i64 0, .int .i64 0, .str [], .base (.slice none 0 0)] := by simp [zeroF, cells_mk, kidsA]
/-- What one round takes. -/
def takeA (l : List Pt) (o : Int) (i : Nat) (c : Int) (t : Fm) (i' : Nat) : Prop := (o ≤ 0 → ∃ h : i < l.length, c = l[i].c ∧ t = l[i].t ∧ i' = i + 1) ∧ (0 < o → c = 0 ∧ t = zeroF ∧ i' = i)
def takeB (l' : List Pt) (f : Int) (o : Int) (j : Nat) (c : Int) (t : Fm) (c' : Int) (t' : Fm) (j' : Nat) : Prop := (o < 0 → c' = c ∧ t' = t ∧ j' = j) ∧ (0 ≤ o → ∃ h : j < l'.length, ∃ x, timesS l'[j].c f = some x ∧ wholeS (c + x) = some c' ∧ t' = l'[j].t ∧ j' = j + 1)
theorem merge_step (f : Int) {l l' : List Pt} {i j : Nat} {o c c' : Int} {t t' : Fm} {i' j' : Nat} (ho : o = ordI l l' i j) (ha : takeA l o i c t i') (hb : takeB l' f o j c t c' t' j') : mergeL f (l.drop i) (l'.drop j) = (mergeL f (l.drop i') (l'.drop j')).map (consP c' t') := by
  rcases Int.lt_trichotomy o 0 with h | h | h
  · obtain ⟨hi, rfl, rfl, rfl⟩ := ha.1 (by omega)
    obtain ⟨rfl, rfl, rfl⟩ := hb.1 h
    exact merge_less f hi (by omega)
  · obtain ⟨hi, rfl, rfl, rfl⟩ := ha.1 (by omega)
    obtain ⟨hj, x, h1, h2, rfl, rfl⟩ := hb.2 (by omega)
    rw [merge_same f hi hj (by omega), h1, Option.bind_some, h2, Option.bind_some]
  · obtain ⟨rfl, rfl, rfl⟩ := ha.2 h
    obtain ⟨hj, x, h1, h2, rfl, rfl⟩ := hb.2 (by omega)
    rw [Int.zero_add] at h2
    rw [merge_more f hj (by omega), h1, Option.bind_some, h2, Option.bind_some]
theorem merge_none (f : Int) {l l' : List Pt} {i j : Nat} {o c : Int} {t : Fm} {i' : Nat} (ho : o = ordI l l' i j) (ha : takeA l o i c t i') (hge : 0 ≤ o) (hj : j < l'.length) (hn : (timesS l'[j].c f).bind (fun x => wholeS (c + x)) = none) : mergeL f (l.drop i) (l'.drop j) = none := by
  rcases Int.lt_trichotomy o 0 with h | h | h
  · omega
  · obtain ⟨hi, rfl, rfl, rfl⟩ := ha.1 (by omega)
    rw [merge_same f hi hj (by omega)]
    cases hx : timesS l'[j].c f with
    | none => rfl
    | some x => rw [hx] at hn; simp only [Option.bind_some] at hn ⊢; rw [hn]; rfl
  · obtain ⟨rfl, rfl, rfl⟩ := ha.2 h
    rw [merge_more f hj (by omega)]
    cases hx : timesS l'[j].c f with
    | none => rfl
    | some x => rw [hx] at hn; simp only [Option.bind_some, Int.zero_add] at hn ⊢; rw [hn]; rfl
theorem consP_app (c : Int) (t : Fm) (out r : List Pt) : out ++ consP c t r = (if c = 0 then out else out ++ [⟨c, t⟩]) ++ r := by
  unfold consP; split <;> simp

theorem ord_le_lt {l l' : List Pt} {i j : Nat} (h : ordI l l' i j ≤ 0) (hi : i ≤ l.length) : i < l.length := by
  rcases Nat.lt_or_ge i l.length with h' | h'
  · exact h'
  · rw [ord_end (by omega)] at h; omega
theorem ord_ge_lt {l l' : List Pt} {i j : Nat} (h : 0 ≤ ordI l l' i j) (hij : i < l.length ∨ j < l'.length) (hj : j ≤ l'.length) : j < l'.length := by
  rcases Nat.lt_or_ge j l'.length with h' | h'
  · exact h'
  · rw [ord_end' (by omega) (by omega)] at h; omega
theorem take_adv {l l' : List Pt} {f : Int} {o c c' : Int} {t t' : Fm} {i j i' j' : Nat} (ha : takeA l o i c t i') (hb : takeB l' f o j c t c' t' j') (hi : i ≤ l.length) (hj : j ≤ l'.length) : i ≤ i' ∧ i' ≤ l.length ∧ j ≤ j' ∧ j' ≤ l'.length ∧ (i < i' ∨ j < j') := by
  rcases Int.lt_trichotomy o 0 with h | h | h
  · obtain ⟨hi, rfl, rfl, rfl⟩ := ha.1 (by omega)
    obtain ⟨rfl, rfl, rfl⟩ := hb.1 h
    omega
  · obtain ⟨hi, rfl, rfl, rfl⟩ := ha.1 (by omega)
    obtain ⟨hj, x, h1, h2, rfl, rfl⟩ := hb.2 (by omega)
    omega
  · obtain ⟨rfl, rfl, rfl⟩ := ha.2 h
    obtain ⟨hj, x, h1, h2, rfl, rfl⟩ := hb.2 (by omega)
    omega
theorem take_big {l l' : List Pt} {f : Int} {o c c' : Int} {t t' : Fm} {i j i' j' : Nat} (ha : takeA l o i c t i') (hb : takeB l' f o j c t c' t' j') (ht : ∀ p ∈ l, p.t.big ≤ 1000000000000) (ht' : ∀ p ∈ l', p.t.big ≤ 1000000000000) : t'.big ≤ 1000000000000 := by
  rcases Int.lt_trichotomy o 0 with h | h | h
  · obtain ⟨hi, rfl, rfl, rfl⟩ := ha.1 (by omega)
    obtain ⟨rfl, rfl, rfl⟩ := hb.1 h
    exact ht _ (List.getElem_mem hi)
  · obtain ⟨hj, x, h1, h2, rfl, rfl⟩ := hb.2 (by omega)
    exact ht' _ (List.getElem_mem hj)
  · obtain ⟨hj, x, h1, h2, rfl, rfl⟩ := hb.2 (by omega)
    exact ht' _ (List.getElem_mem hj)
theorem plus_call (a b : Sm) (f : Int) (ha : a.fit) (hb : b.fit) (hf : -9223372036854775808 ≤ f) (hf' : f ≤ 9223372036854775807) : PCall CX 45 [a.av, b.av, .int .i64 f] (· = outS (plusS a b f)) := by
  obtain ⟨k, nl, l⟩ := a
  obtain ⟨k', nl', l'⟩ := b
  obtain ⟨⟨hk1, hk2⟩, hc, ht, hn⟩ := ha
  obtain ⟨⟨hk1', hk2'⟩, hc', ht', hn'⟩ := hb
  simp only at hk1 hk2 hc ht hn hk1' hk2' hc' ht' hn'
  have htm := times_call k' f (by omega) (by omega) hf hf'
  refine pcall_mk 3 109 [.cell 6 29] Tryd.func45 rfl (by decide) rfl rfl rfl ?_
  simp only [go_sem]
  refine aw_sreg {} rfl (by simp only [allocObjs, go_sem]; rfl) fun K KP hK hP => ?_
  simp only [go_sem, ↓reduceIte]
  apply hK; clear hK hP
  by_cases c1_0 : timesS k' f = none
  ·
    refine aw_spdraw {} [6, 8] [0, 1, 0, 4, 0, 28, 63, 127, 255, 0, 1023] [0, 1, 2, 3, 4, 9, 5, 6, 7, 8, 10] mixed (by kernel_rfl) rfl (by simp only [allocObjs, go_sem]; rfl) (by simp only [List.filterMap_cons, List.filterMap_nil, List.getElem?_toArray, List.getElem?_cons_zero, List.getElem?_cons_succ]; rfl) fun K KP hK hP => ?_
    simp only [go_sem, ↓reduceIte, c1_0]
    refine CallP.pan (by rw [c1_0] at htm; exact htm) (by simp only [go_sem]) ?_
    try simp only [go_sem, ↓reduceIte, c1_0]
    refine hP _ _ _ fun env => ?_
    simp [plusS, outS, c1_0, beyondA, go_sem]
  ·
    by_cases c1_1 : (timesS k' f).bind (fun x => wholeS (k + x)) = none
    ·
      obtain ⟨x, hx⟩ := Option.ne_none_iff_exists'.1 c1_0
      have hxb := timesS_some hx
      have hwx : IntKind.wrap .i64 (k + x) = k + x := wrap64 (by omega) (by omega)
      have hwn : wholeS (k + x) = none := by rw [hx] at c1_1; exact c1_1
      refine aw_spdraw {} [6, 8] [0, 1, 0, 4, 0, 28, 63, 127, 255, 0, 1023] [0, 1, 2, 3, 4, 9, 5, 6, 7, 8, 10] mixed (by kernel_rfl) rfl (by simp only [allocObjs, go_sem]; rfl) (by simp only [List.filterMap_cons, List.filterMap_nil, List.getElem?_toArray, List.getElem?_cons_zero, List.getElem?_cons_succ]; rfl) fun K KP hK hP => ?_
      simp only [go_sem, ↓reduceIte, c1_0, c1_1, hwx]
      refine CallP.ret (by rw [hx] at htm; exact htm) (by simp only [go_sem]) ?_
      try simp only [go_sem, ↓reduceIte, c1_0, c1_1, hwx]
      refine CallP.pan (by have h := whole_call (k + x); rw [hwn] at h; exact h) (by simp only [go_sem]) ?_
      try simp only [go_sem, ↓reduceIte, c1_0, c1_1, hwx]
      refine hP _ _ _ fun env => ?_
      simp [plusS, outS, hx, hwn, beyondA, go_sem]
    ·
      obtain ⟨x, hx⟩ := Option.ne_none_iff_exists'.1 c1_0
      have hxb := timesS_some hx
      have hwx : IntKind.wrap .i64 (k + x) = k + x := wrap64 (by omega) (by omega)
      obtain ⟨k0, hk0⟩ := Option.ne_none_iff_exists'.1 c1_1
      have hwn : wholeS (k + x) = some k0 := by rw [hx] at hk0; exact hk0
      have hplus : plusS ⟨k, nl, l⟩ ⟨k', nl', l'⟩ f = (mergeL f l l').map fun o => ⟨k0, true, o⟩ := by simp [plusS, hx, hwn]
      refine aw_spdraw {} [6, 8] [0, 1, 0, 4, 0, 28, 63, 127, 255, 0, 1023] [0, 1, 2, 3, 4, 9, 5, 6, 7, 8, 10] mixed (by kernel_rfl) rfl (by simp only [allocObjs, go_sem]; rfl) (by simp only [List.filterMap_cons, List.filterMap_nil, List.getElem?_toArray, List.getElem?_cons_zero, List.getElem?_cons_succ]; rfl) fun K KP hK hP => ?_
      simp only [go_sem, ↓reduceIte, c1_0, c1_1, hwx]
      refine CallP.ret (by rw [hx] at htm; exact htm) (by simp only [go_sem]) ?_
      try simp only [go_sem, ↓reduceIte, c1_0, c1_1, hwx]
      refine CallP.ret (by have h := whole_call (k + x); rw [hwn] at h; exact h) (by simp only [go_sem]) ?_
      try simp only [go_sem, ↓reduceIte, c1_0, c1_1, hwx]
      apply hK; clear hK hP
      refine aw_sreg {} rfl rfl fun K KP hK hP => ?_
      simp only [go_sem, ↓reduceIte, c1_0, c1_1]
      apply hK; clear hK hP
      refine aw_seq ?_
      refine aw_block ?_
      refine aw_loop' (fun dd st => ∃ (i j : Nat) (out : List Pt) (tv : AV) (σr : Sto), (i ≤ l.length) ∧ (j ≤ l'.length) ∧ (mergeL f l l' = (mergeL f (l.drop i) (l'.drop j)).map (out ++ ·)) ∧ (holdP out tv σr) ∧ (out.length ≤ i + j) ∧ (l.length - i) + (l'.length - j) = dd ∧ (0, .cells 29 [.int .i64 0, .base (.slice none 0 0)]) :: (1, .cells 29 [.int .i64 k0, tv]) :: σr = st.σ ∧ st.env 2 = .int .i64 f ∧ st.env 3 = .rptr [.int .i64 k, termsA nl (l.map Pt.row)] ∧ st.env 4 = .rptr [.int .i64 k', termsA nl' (l'.map Pt.row)] ∧ st.env 6 = .ref 0 0 0 ∧ st.env 7 = .ref 1 1 0 ∧ st.env 8 = .int .i64 (i : Nat) ∧ st.env 9 = .int .i64 (j : Nat)) (fun dd st hJ => ?_) ?_
      ·
        obtain ⟨env0, σ0, nx0⟩ := st
        obtain ⟨i, j, out, tv, σr, hp0_0, hp0_1, hp0_2, hp0_3, hp0_4, hd0, hs0, e0_2, e0_3, e0_4, e0_6, e0_7, e0_8, e0_9⟩ := hJ
        dsimp only at hs0  e0_2 e0_3 e0_4 e0_6 e0_7 e0_8 e0_9
        subst hd0; subst hs0
        refine aw_seq ?_
        refine aw_mid (fun st => (0, .cells 29 [.int .i64 0, .base (.slice none 0 0)]) :: (1, .cells 29 [.int .i64 k0, tv]) :: σr = st.σ ∧ st.env 2 = .int .i64 f ∧ st.env 3 = .rptr [.int .i64 k, termsA nl (l.map Pt.row)] ∧ st.env 4 = .rptr [.int .i64 k', termsA nl' (l'.map Pt.row)] ∧ st.env 6 = .ref 0 0 0 ∧ st.env 7 = .ref 1 1 0 ∧ st.env 8 = .int .i64 (i : Nat) ∧ st.env 9 = .int .i64 (j : Nat) ∧ st.env 33 = .bool (decide (i < l.length ∨ j < l'.length))) ?_ ?_
        ·
          by_cases c3_0 : i < l.length
          ·
            refine aw_lreg {} rfl rfl fun K KP hK hP => ?_
            simp only [go_sem, ↓reduceIte, c1_0, c1_1, e0_2, e0_3, e0_4, e0_6, e0_7, e0_8, e0_9, c3_0]
            apply hK; clear hK hP
            refine athen_normal.2 ?_
            refine ⟨rfl, ?_, ?_, ?_, ?_, ?_, ?_, ?_, ?_⟩
            · simp only [go_sem, ↓reduceIte, c1_0, c1_1, e0_2, e0_3, e0_4, e0_6, e0_7, e0_8, e0_9, c3_0] <;> try rfl
            · simp only [go_sem, ↓reduceIte, c1_0, c1_1, e0_2, e0_3, e0_4, e0_6, e0_7, e0_8, e0_9, c3_0] <;> try rfl
            · simp only [go_sem, ↓reduceIte, c1_0, c1_1, e0_2, e0_3, e0_4, e0_6, e0_7, e0_8, e0_9, c3_0] <;> try rfl
            · simp only [go_sem, ↓reduceIte, c1_0, c1_1, e0_2, e0_3, e0_4, e0_6, e0_7, e0_8, e0_9, c3_0] <;> try rfl
            · simp only [go_sem, ↓reduceIte, c1_0, c1_1, e0_2, e0_3, e0_4, e0_6, e0_7, e0_8, e0_9, c3_0] <;> try rfl
            · simp only [go_sem, ↓reduceIte, c1_0, c1_1, e0_2, e0_3, e0_4, e0_6, e0_7, e0_8, e0_9, c3_0] <;> try rfl
            · simp only [go_sem, ↓reduceIte, c1_0, c1_1, e0_2, e0_3, e0_4, e0_6, e0_7, e0_8, e0_9, c3_0] <;> try rfl
            · simp only [go_sem, ↓reduceIte, c1_0, c1_1, e0_2, e0_3, e0_4, e0_6, e0_7, e0_8, e0_9, c3_0] <;> (
                simp [c3_0])
          ·
            refine aw_lreg {} rfl rfl fun K KP hK hP => ?_
            simp only [go_sem, ↓reduceIte, c1_0, c1_1, e0_2, e0_3, e0_4, e0_6, e0_7, e0_8, e0_9, c3_0]
            apply hK; clear hK hP
            refine athen_normal.2 ?_
            refine ⟨rfl, ?_, ?_, ?_, ?_, ?_, ?_, ?_, ?_⟩
            · simp only [go_sem, ↓reduceIte, c1_0, c1_1, e0_2, e0_3, e0_4, e0_6, e0_7, e0_8, e0_9, c3_0] <;> try rfl
            · simp only [go_sem, ↓reduceIte, c1_0, c1_1, e0_2, e0_3, e0_4, e0_6, e0_7, e0_8, e0_9, c3_0] <;> try rfl
            · simp only [go_sem, ↓reduceIte, c1_0, c1_1, e0_2, e0_3, e0_4, e0_6, e0_7, e0_8, e0_9, c3_0] <;> try rfl
            · simp only [go_sem, ↓reduceIte, c1_0, c1_1, e0_2, e0_3, e0_4, e0_6, e0_7, e0_8, e0_9, c3_0] <;> try rfl
            · simp only [go_sem, ↓reduceIte, c1_0, c1_1, e0_2, e0_3, e0_4, e0_6, e0_7, e0_8, e0_9, c3_0] <;> try rfl
            · simp only [go_sem, ↓reduceIte, c1_0, c1_1, e0_2, e0_3, e0_4, e0_6, e0_7, e0_8, e0_9, c3_0] <;> try rfl
            · simp only [go_sem, ↓reduceIte, c1_0, c1_1, e0_2, e0_3, e0_4, e0_6, e0_7, e0_8, e0_9, c3_0] <;> try rfl
            · simp only [go_sem, ↓reduceIte, c1_0, c1_1, e0_2, e0_3, e0_4, e0_6, e0_7, e0_8, e0_9, c3_0] <;> (
                simp [c3_0])
        ·
          rintro ⟨envm3, σm3, nxm3⟩ ⟨hms3, m3_2, m3_3, m3_4, m3_6, m3_7, m3_8, m3_9, m3_33⟩
          dsimp only at hms3  m3_2 m3_3 m3_4 m3_6 m3_7 m3_8 m3_9 m3_33
          subst hms3
          refine aw_if (i < l.length ∨ j < l'.length) (by simp only [go_sem, ↓reduceIte, c1_0, c1_1, e0_2, e0_3, e0_4, e0_6, e0_7, e0_8, e0_9, m3_2, m3_3, m3_4, m3_6, m3_7, m3_8, m3_9, m3_33]) (fun h3 => ?_) (fun h3 => ?_)
          ·
            refine aw_skip ?_
            refine athen_normal.2 ?_
            refine aw_block ?_
            refine aw_sreg {} rfl rfl fun K KP hK hP => ?_
            simp only [go_sem, ↓reduceIte, c1_0, c1_1, e0_2, e0_3, e0_4, e0_6, e0_7, e0_8, e0_9, m3_2, m3_3, m3_4, m3_6, m3_7, m3_8, m3_9, m3_33]
            apply hK; clear hK hP
            refine aw_mid (fun st => (0, .cells 29 [.int .i64 0, .base (.slice none 0 0)]) :: (1, .cells 29 [.int .i64 k0, tv]) :: σr = st.σ ∧ st.env 2 = .int .i64 f ∧ st.env 3 = .rptr [.int .i64 k, termsA nl (l.map Pt.row)] ∧ st.env 4 = .rptr [.int .i64 k', termsA nl' (l'.map Pt.row)] ∧ st.env 6 = .ref 0 0 0 ∧ st.env 7 = .ref 1 1 0 ∧ st.env 8 = .int .i64 (i : Nat) ∧ st.env 9 = .int .i64 (j : Nat) ∧ st.env 10 = .int .i64 (ordI l l' i j)) ?_ ?_
            ·
              refine aw_block ?_
              refine aw_sreg {} rfl rfl fun K KP hK hP => ?_
              simp only [go_sem, ↓reduceIte, c1_0, c1_1, e0_2, e0_3, e0_4, e0_6, e0_7, e0_8, e0_9, m3_2, m3_3, m3_4, m3_6, m3_7, m3_8, m3_9, m3_33]
              apply hK; clear hK hP
              refine aw_if (i = l.length) (by simp only [go_sem, ↓reduceIte, c1_0, c1_1, e0_2, e0_3, e0_4, e0_6, e0_7, e0_8, e0_9, m3_2, m3_3, m3_4, m3_6, m3_7, m3_8, m3_9, m3_33]) (fun h6 => ?_) (fun h6 => ?_)
              ·
                refine aw_lreg {} rfl rfl fun K KP hK hP => ?_
                simp only [go_sem, ↓reduceIte, c1_0, c1_1, e0_2, e0_3, e0_4, e0_6, e0_7, e0_8, e0_9, m3_2, m3_3, m3_4, m3_6, m3_7, m3_8, m3_9, m3_33]
                apply hK; clear hK hP
                refine ablock_normal.2 ?_
                refine athen_normal.2 ?_
                refine ⟨rfl, ?_, ?_, ?_, ?_, ?_, ?_, ?_, ?_⟩
                · simp only [go_sem, ↓reduceIte, c1_0, c1_1, e0_2, e0_3, e0_4, e0_6, e0_7, e0_8, e0_9, m3_2, m3_3, m3_4, m3_6, m3_7, m3_8, m3_9, m3_33] <;> try rfl
                · simp only [go_sem, ↓reduceIte, c1_0, c1_1, e0_2, e0_3, e0_4, e0_6, e0_7, e0_8, e0_9, m3_2, m3_3, m3_4, m3_6, m3_7, m3_8, m3_9, m3_33] <;> try rfl
                · simp only [go_sem, ↓reduceIte, c1_0, c1_1, e0_2, e0_3, e0_4, e0_6, e0_7, e0_8, e0_9, m3_2, m3_3, m3_4, m3_6, m3_7, m3_8, m3_9, m3_33] <;> try rfl
                · simp only [go_sem, ↓reduceIte, c1_0, c1_1, e0_2, e0_3, e0_4, e0_6, e0_7, e0_8, e0_9, m3_2, m3_3, m3_4, m3_6, m3_7, m3_8, m3_9, m3_33] <;> try rfl
                · simp only [go_sem, ↓reduceIte, c1_0, c1_1, e0_2, e0_3, e0_4, e0_6, e0_7, e0_8, e0_9, m3_2, m3_3, m3_4, m3_6, m3_7, m3_8, m3_9, m3_33] <;> try rfl
                · simp only [go_sem, ↓reduceIte, c1_0, c1_1, e0_2, e0_3, e0_4, e0_6, e0_7, e0_8, e0_9, m3_2, m3_3, m3_4, m3_6, m3_7, m3_8, m3_9, m3_33] <;> try rfl
                · simp only [go_sem, ↓reduceIte, c1_0, c1_1, e0_2, e0_3, e0_4, e0_6, e0_7, e0_8, e0_9, m3_2, m3_3, m3_4, m3_6, m3_7, m3_8, m3_9, m3_33] <;> try rfl
                · simp only [go_sem, ↓reduceIte, c1_0, c1_1, e0_2, e0_3, e0_4, e0_6, e0_7, e0_8, e0_9, m3_2, m3_3, m3_4, m3_6, m3_7, m3_8, m3_9, m3_33] <;> (
                    rw [ord_end h6])
              ·
                refine aw_sreg {} rfl rfl fun K KP hK hP => ?_
                simp only [go_sem, ↓reduceIte, c1_0, c1_1, e0_2, e0_3, e0_4, e0_6, e0_7, e0_8, e0_9, m3_2, m3_3, m3_4, m3_6, m3_7, m3_8, m3_9, m3_33]
                apply hK; clear hK hP
                refine aw_if (j = l'.length) (by simp only [go_sem, ↓reduceIte, c1_0, c1_1, e0_2, e0_3, e0_4, e0_6, e0_7, e0_8, e0_9, m3_2, m3_3, m3_4, m3_6, m3_7, m3_8, m3_9, m3_33]) (fun h8 => ?_) (fun h8 => ?_)
                ·
                  refine aw_lreg {} rfl rfl fun K KP hK hP => ?_
                  simp only [go_sem, ↓reduceIte, c1_0, c1_1, e0_2, e0_3, e0_4, e0_6, e0_7, e0_8, e0_9, m3_2, m3_3, m3_4, m3_6, m3_7, m3_8, m3_9, m3_33]
                  apply hK; clear hK hP
                  refine ablock_normal.2 ?_
                  refine athen_normal.2 ?_
                  refine ⟨rfl, ?_, ?_, ?_, ?_, ?_, ?_, ?_, ?_⟩
                  · simp only [go_sem, ↓reduceIte, c1_0, c1_1, e0_2, e0_3, e0_4, e0_6, e0_7, e0_8, e0_9, m3_2, m3_3, m3_4, m3_6, m3_7, m3_8, m3_9, m3_33] <;> try rfl
                  · simp only [go_sem, ↓reduceIte, c1_0, c1_1, e0_2, e0_3, e0_4, e0_6, e0_7, e0_8, e0_9, m3_2, m3_3, m3_4, m3_6, m3_7, m3_8, m3_9, m3_33] <;> try rfl
                  · simp only [go_sem, ↓reduceIte, c1_0, c1_1, e0_2, e0_3, e0_4, e0_6, e0_7, e0_8, e0_9, m3_2, m3_3, m3_4, m3_6, m3_7, m3_8, m3_9, m3_33] <;> try rfl
                  · simp only [go_sem, ↓reduceIte, c1_0, c1_1, e0_2, e0_3, e0_4, e0_6, e0_7, e0_8, e0_9, m3_2, m3_3, m3_4, m3_6, m3_7, m3_8, m3_9, m3_33] <;> try rfl
                  · simp only [go_sem, ↓reduceIte, c1_0, c1_1, e0_2, e0_3, e0_4, e0_6, e0_7, e0_8, e0_9, m3_2, m3_3, m3_4, m3_6, m3_7, m3_8, m3_9, m3_33] <;> try rfl
                  · simp only [go_sem, ↓reduceIte, c1_0, c1_1, e0_2, e0_3, e0_4, e0_6, e0_7, e0_8, e0_9, m3_2, m3_3, m3_4, m3_6, m3_7, m3_8, m3_9, m3_33] <;> try rfl
                  · simp only [go_sem, ↓reduceIte, c1_0, c1_1, e0_2, e0_3, e0_4, e0_6, e0_7, e0_8, e0_9, m3_2, m3_3, m3_4, m3_6, m3_7, m3_8, m3_9, m3_33] <;> try rfl
                  · simp only [go_sem, ↓reduceIte, c1_0, c1_1, e0_2, e0_3, e0_4, e0_6, e0_7, e0_8, e0_9, m3_2, m3_3, m3_4, m3_6, m3_7, m3_8, m3_9, m3_33] <;> (
                      rw [ord_end' (by omega) h8])
                ·
                  have hi : i < l.length := by omega
                  have hj : j < l'.length := by omega
                  have hbi := ht _ (List.getElem_mem hi)
                  refine aw_ldraw {} [] [0, 1, 0, 7, 15, 31, 0, 64, 0, 448, 960, 1984, 4095, 8191] mixed (by kernel_rfl) rfl rfl fun K KP hK hP => ?_
                  simp only [go_sem, ↓reduceIte, c1_0, c1_1, e0_2, e0_3, e0_4, e0_6, e0_7, e0_8, e0_9, m3_2, m3_3, m3_4, m3_6, m3_7, m3_8, m3_9, m3_33, hi, hj, getD_rows hi, getD_rows hj]
                  refine CallP.ret (compare_call _ (by omega) _) (by simp only [go_sem]) ?_
                  try simp only [go_sem, ↓reduceIte, c1_0, c1_1, e0_2, e0_3, e0_4, e0_6, e0_7, e0_8, e0_9, m3_2, m3_3, m3_4, m3_6, m3_7, m3_8, m3_9, m3_33, hi, hj, getD_rows hi, getD_rows hj]
                  apply hK; clear hK hP
                  refine ablock_normal.2 ?_
                  refine athen_normal.2 ?_
                  refine ⟨rfl, ?_, ?_, ?_, ?_, ?_, ?_, ?_, ?_⟩
                  · simp only [go_sem, ↓reduceIte, c1_0, c1_1, e0_2, e0_3, e0_4, e0_6, e0_7, e0_8, e0_9, m3_2, m3_3, m3_4, m3_6, m3_7, m3_8, m3_9, m3_33, hi, hj, getD_rows hi, getD_rows hj] <;> try rfl
                  · simp only [go_sem, ↓reduceIte, c1_0, c1_1, e0_2, e0_3, e0_4, e0_6, e0_7, e0_8, e0_9, m3_2, m3_3, m3_4, m3_6, m3_7, m3_8, m3_9, m3_33, hi, hj, getD_rows hi, getD_rows hj] <;> try rfl
                  · simp only [go_sem, ↓reduceIte, c1_0, c1_1, e0_2, e0_3, e0_4, e0_6, e0_7, e0_8, e0_9, m3_2, m3_3, m3_4, m3_6, m3_7, m3_8, m3_9, m3_33, hi, hj, getD_rows hi, getD_rows hj] <;> try rfl
                  · simp only [go_sem, ↓reduceIte, c1_0, c1_1, e0_2, e0_3, e0_4, e0_6, e0_7, e0_8, e0_9, m3_2, m3_3, m3_4, m3_6, m3_7, m3_8, m3_9, m3_33, hi, hj, getD_rows hi, getD_rows hj] <;> try rfl
                  · simp only [go_sem, ↓reduceIte, c1_0, c1_1, e0_2, e0_3, e0_4, e0_6, e0_7, e0_8, e0_9, m3_2, m3_3, m3_4, m3_6, m3_7, m3_8, m3_9, m3_33, hi, hj, getD_rows hi, getD_rows hj] <;> try rfl
                  · simp only [go_sem, ↓reduceIte, c1_0, c1_1, e0_2, e0_3, e0_4, e0_6, e0_7, e0_8, e0_9, m3_2, m3_3, m3_4, m3_6, m3_7, m3_8, m3_9, m3_33, hi, hj, getD_rows hi, getD_rows hj] <;> try rfl
                  · simp only [go_sem, ↓reduceIte, c1_0, c1_1, e0_2, e0_3, e0_4, e0_6, e0_7, e0_8, e0_9, m3_2, m3_3, m3_4, m3_6, m3_7, m3_8, m3_9, m3_33, hi, hj, getD_rows hi, getD_rows hj] <;> try rfl
                  · simp only [go_sem, ↓reduceIte, c1_0, c1_1, e0_2, e0_3, e0_4, e0_6, e0_7, e0_8, e0_9, m3_2, m3_3, m3_4, m3_6, m3_7, m3_8, m3_9, m3_33, hi, hj, getD_rows hi, getD_rows hj] <;> (
                      rw [ord_in hi hj])
            ·
              rintro ⟨envmb2, σmb2, nxmb2⟩ ⟨hmsb2, mb2_2, mb2_3, mb2_4, mb2_6, mb2_7, mb2_8, mb2_9, mb2_10⟩
              dsimp only at hmsb2  mb2_2 mb2_3 mb2_4 mb2_6 mb2_7 mb2_8 mb2_9 mb2_10
              subst hmsb2
              refine aw_sreg {} rfl (by simp only [allocObjs, go_sem]; rfl) fun K KP hK hP => ?_
              simp only [go_sem, ↓reduceIte, c1_0, c1_1, e0_2, e0_3, e0_4, e0_6, e0_7, e0_8, e0_9, m3_2, m3_3, m3_4, m3_6, m3_7, m3_8, m3_9, m3_33, mb2_2, mb2_3, mb2_4, mb2_6, mb2_7, mb2_8, mb2_9, mb2_10]
              apply hK; clear hK hP
              refine aw_mid (fun st => ∃ (c : Int) (tf : Fm) (iq : Nat) (n12 : Nat), (takeA l (ordI l l' i j) i c tf iq) ∧ (0, .cells 29 [.int .i64 0, .base (.slice none 0 0)]) :: (1, .cells 29 [.int .i64 k0, tv]) :: (σr ++ [(n12, .cells 24 tf.cells)]) = st.σ ∧ st.env 2 = .int .i64 f ∧ st.env 3 = .rptr [.int .i64 k, termsA nl (l.map Pt.row)] ∧ st.env 4 = .rptr [.int .i64 k', termsA nl' (l'.map Pt.row)] ∧ st.env 6 = .ref 0 0 0 ∧ st.env 7 = .ref 1 1 0 ∧ st.env 8 = .int .i64 (iq : Nat) ∧ st.env 9 = .int .i64 (j : Nat) ∧ st.env 10 = .int .i64 (ordI l l' i j) ∧ st.env 11 = .int .i64 c ∧ st.env 12 = .ref (σr.length + 1 + 1) n12 0) ?_ ?_
              ·
                refine aw_sreg {} rfl rfl fun K KP hK hP => ?_
                simp only [go_sem, ↓reduceIte, c1_0, c1_1, e0_2, e0_3, e0_4, e0_6, e0_7, e0_8, e0_9, m3_2, m3_3, m3_4, m3_6, m3_7, m3_8, m3_9, m3_33, mb2_2, mb2_3, mb2_4, mb2_6, mb2_7, mb2_8, mb2_9, mb2_10]
                apply hK; clear hK hP
                refine aw_if (ordI l l' i j ≤ 0) (by simp only [go_sem, ↓reduceIte, c1_0, c1_1, e0_2, e0_3, e0_4, e0_6, e0_7, e0_8, e0_9, m3_2, m3_3, m3_4, m3_6, m3_7, m3_8, m3_9, m3_33, mb2_2, mb2_3, mb2_4, mb2_6, mb2_7, mb2_8, mb2_9, mb2_10]) (fun h11 => ?_) (fun h11 => ?_)
                ·
                  have hi := ord_le_lt h11 hp0_0
                  have hw1 : IntKind.wrap .i64 ((i : Int) + 1) = ((i + 1 : Nat) : Int) := by rw [wrap64 (by omega) (by omega)]; omega
                  refine aw_sdraw {} [] [0, 1, 0, 7, 15, 31, 0, 64, 0, 448, 960, 1984, 63, 8191] mixed (by kernel_rfl) rfl rfl fun K KP hK hP => ?_
                  simp only [go_sem, ↓reduceIte, c1_0, c1_1, e0_2, e0_3, e0_4, e0_6, e0_7, e0_8, e0_9, m3_2, m3_3, m3_4, m3_6, m3_7, m3_8, m3_9, m3_33, mb2_2, mb2_3, mb2_4, mb2_6, mb2_7, mb2_8, mb2_9, mb2_10, hi, getD_rows hi, hw1]
                  apply hK; clear hK hP
                  refine aw_lreg {} rfl rfl fun K KP hK hP => ?_
                  simp only [go_sem, ↓reduceIte, c1_0, c1_1, e0_2, e0_3, e0_4, e0_6, e0_7, e0_8, e0_9, m3_2, m3_3, m3_4, m3_6, m3_7, m3_8, m3_9, m3_33, mb2_2, mb2_3, mb2_4, mb2_6, mb2_7, mb2_8, mb2_9, mb2_10, hi, getD_rows hi, hw1]
                  apply hK; clear hK hP
                  refine athen_normal.2 ?_
                  refine ⟨l[i].c, l[i].t, i + 1, nxmb2, ?_, rfl, ?_, ?_, ?_, ?_, ?_, ?_, ?_, ?_, ?_, ?_⟩
                  · exact ⟨fun _ => ⟨hi, rfl, rfl, rfl⟩, fun h => absurd h (by omega)⟩
                  · simp only [go_sem, ↓reduceIte, c1_0, c1_1, e0_2, e0_3, e0_4, e0_6, e0_7, e0_8, e0_9, m3_2, m3_3, m3_4, m3_6, m3_7, m3_8, m3_9, m3_33, mb2_2, mb2_3, mb2_4, mb2_6, mb2_7, mb2_8, mb2_9, mb2_10, hi, getD_rows hi, hw1] <;> try rfl
                  · simp only [go_sem, ↓reduceIte, c1_0, c1_1, e0_2, e0_3, e0_4, e0_6, e0_7, e0_8, e0_9, m3_2, m3_3, m3_4, m3_6, m3_7, m3_8, m3_9, m3_33, mb2_2, mb2_3, mb2_4, mb2_6, mb2_7, mb2_8, mb2_9, mb2_10, hi, getD_rows hi, hw1] <;> try rfl
                  · simp only [go_sem, ↓reduceIte, c1_0, c1_1, e0_2, e0_3, e0_4, e0_6, e0_7, e0_8, e0_9, m3_2, m3_3, m3_4, m3_6, m3_7, m3_8, m3_9, m3_33, mb2_2, mb2_3, mb2_4, mb2_6, mb2_7, mb2_8, mb2_9, mb2_10, hi, getD_rows hi, hw1] <;> try rfl
                  · simp only [go_sem, ↓reduceIte, c1_0, c1_1, e0_2, e0_3, e0_4, e0_6, e0_7, e0_8, e0_9, m3_2, m3_3, m3_4, m3_6, m3_7, m3_8, m3_9, m3_33, mb2_2, mb2_3, mb2_4, mb2_6, mb2_7, mb2_8, mb2_9, mb2_10, hi, getD_rows hi, hw1] <;> try rfl
                  · simp only [go_sem, ↓reduceIte, c1_0, c1_1, e0_2, e0_3, e0_4, e0_6, e0_7, e0_8, e0_9, m3_2, m3_3, m3_4, m3_6, m3_7, m3_8, m3_9, m3_33, mb2_2, mb2_3, mb2_4, mb2_6, mb2_7, mb2_8, mb2_9, mb2_10, hi, getD_rows hi, hw1] <;> try rfl
                  · simp only [go_sem, ↓reduceIte, c1_0, c1_1, e0_2, e0_3, e0_4, e0_6, e0_7, e0_8, e0_9, m3_2, m3_3, m3_4, m3_6, m3_7, m3_8, m3_9, m3_33, mb2_2, mb2_3, mb2_4, mb2_6, mb2_7, mb2_8, mb2_9, mb2_10, hi, getD_rows hi, hw1] <;> try rfl
                  · simp only [go_sem, ↓reduceIte, c1_0, c1_1, e0_2, e0_3, e0_4, e0_6, e0_7, e0_8, e0_9, m3_2, m3_3, m3_4, m3_6, m3_7, m3_8, m3_9, m3_33, mb2_2, mb2_3, mb2_4, mb2_6, mb2_7, mb2_8, mb2_9, mb2_10, hi, getD_rows hi, hw1] <;> try rfl
                  · simp only [go_sem, ↓reduceIte, c1_0, c1_1, e0_2, e0_3, e0_4, e0_6, e0_7, e0_8, e0_9, m3_2, m3_3, m3_4, m3_6, m3_7, m3_8, m3_9, m3_33, mb2_2, mb2_3, mb2_4, mb2_6, mb2_7, mb2_8, mb2_9, mb2_10, hi, getD_rows hi, hw1] <;> try rfl
                  · simp only [go_sem, ↓reduceIte, c1_0, c1_1, e0_2, e0_3, e0_4, e0_6, e0_7, e0_8, e0_9, m3_2, m3_3, m3_4, m3_6, m3_7, m3_8, m3_9, m3_33, mb2_2, mb2_3, mb2_4, mb2_6, mb2_7, mb2_8, mb2_9, mb2_10, hi, getD_rows hi, hw1] <;> try rfl
                  · simp only [go_sem, ↓reduceIte, c1_0, c1_1, e0_2, e0_3, e0_4, e0_6, e0_7, e0_8, e0_9, m3_2, m3_3, m3_4, m3_6, m3_7, m3_8, m3_9, m3_33, mb2_2, mb2_3, mb2_4, mb2_6, mb2_7, mb2_8, mb2_9, mb2_10, hi, getD_rows hi, hw1] <;> try rfl
                ·
                  refine aw_skip ?_
                  refine athen_normal.2 ?_
                  refine ⟨0, zeroF, i, nxmb2, ?_, rfl, ?_, ?_, ?_, ?_, ?_, ?_, ?_, ?_, ?_, ?_⟩
                  · exact ⟨fun h => absurd h (by omega), fun _ => ⟨rfl, rfl, rfl⟩⟩
                  · simp only [go_sem, ↓reduceIte, c1_0, c1_1, e0_2, e0_3, e0_4, e0_6, e0_7, e0_8, e0_9, m3_2, m3_3, m3_4, m3_6, m3_7, m3_8, m3_9, m3_33, mb2_2, mb2_3, mb2_4, mb2_6, mb2_7, mb2_8, mb2_9, mb2_10] <;> try rfl
                  · simp only [go_sem, ↓reduceIte, c1_0, c1_1, e0_2, e0_3, e0_4, e0_6, e0_7, e0_8, e0_9, m3_2, m3_3, m3_4, m3_6, m3_7, m3_8, m3_9, m3_33, mb2_2, mb2_3, mb2_4, mb2_6, mb2_7, mb2_8, mb2_9, mb2_10] <;> try rfl
                  · simp only [go_sem, ↓reduceIte, c1_0, c1_1, e0_2, e0_3, e0_4, e0_6, e0_7, e0_8, e0_9, m3_2, m3_3, m3_4, m3_6, m3_7, m3_8, m3_9, m3_33, mb2_2, mb2_3, mb2_4, mb2_6, mb2_7, mb2_8, mb2_9, mb2_10] <;> try rfl
                  · simp only [go_sem, ↓reduceIte, c1_0, c1_1, e0_2, e0_3, e0_4, e0_6, e0_7, e0_8, e0_9, m3_2, m3_3, m3_4, m3_6, m3_7, m3_8, m3_9, m3_33, mb2_2, mb2_3, mb2_4, mb2_6, mb2_7, mb2_8, mb2_9, mb2_10] <;> try rfl
                  · simp only [go_sem, ↓reduceIte, c1_0, c1_1, e0_2, e0_3, e0_4, e0_6, e0_7, e0_8, e0_9, m3_2, m3_3, m3_4, m3_6, m3_7, m3_8, m3_9, m3_33, mb2_2, mb2_3, mb2_4, mb2_6, mb2_7, mb2_8, mb2_9, mb2_10] <;> try rfl
                  · simp only [go_sem, ↓reduceIte, c1_0, c1_1, e0_2, e0_3, e0_4, e0_6, e0_7, e0_8, e0_9, m3_2, m3_3, m3_4, m3_6, m3_7, m3_8, m3_9, m3_33, mb2_2, mb2_3, mb2_4, mb2_6, mb2_7, mb2_8, mb2_9, mb2_10] <;> try rfl
                  · simp only [go_sem, ↓reduceIte, c1_0, c1_1, e0_2, e0_3, e0_4, e0_6, e0_7, e0_8, e0_9, m3_2, m3_3, m3_4, m3_6, m3_7, m3_8, m3_9, m3_33, mb2_2, mb2_3, mb2_4, mb2_6, mb2_7, mb2_8, mb2_9, mb2_10] <;> try rfl
                  · simp only [go_sem, ↓reduceIte, c1_0, c1_1, e0_2, e0_3, e0_4, e0_6, e0_7, e0_8, e0_9, m3_2, m3_3, m3_4, m3_6, m3_7, m3_8, m3_9, m3_33, mb2_2, mb2_3, mb2_4, mb2_6, mb2_7, mb2_8, mb2_9, mb2_10] <;> try rfl
                  · simp only [go_sem, ↓reduceIte, c1_0, c1_1, e0_2, e0_3, e0_4, e0_6, e0_7, e0_8, e0_9, m3_2, m3_3, m3_4, m3_6, m3_7, m3_8, m3_9, m3_33, mb2_2, mb2_3, mb2_4, mb2_6, mb2_7, mb2_8, mb2_9, mb2_10] <;> try rfl
                  · simp only [go_sem, ↓reduceIte, c1_0, c1_1, e0_2, e0_3, e0_4, e0_6, e0_7, e0_8, e0_9, m3_2, m3_3, m3_4, m3_6, m3_7, m3_8, m3_9, m3_33, mb2_2, mb2_3, mb2_4, mb2_6, mb2_7, mb2_8, mb2_9, mb2_10] <;> try rfl
              ·
                rintro ⟨envms11, σms11, nxms11⟩ ⟨c, tf, iq, n12, hms11_0, hmss11, ms11_2, ms11_3, ms11_4, ms11_6, ms11_7, ms11_8, ms11_9, ms11_10, ms11_11, ms11_12⟩
                dsimp only at hmss11  ms11_2 ms11_3 ms11_4 ms11_6 ms11_7 ms11_8 ms11_9 ms11_10 ms11_11 ms11_12
                subst hmss11
                refine aw_mid (fun st => ∃ (cq : Int) (tq : Fm) (jq : Nat), (takeB l' f (ordI l l' i j) j c tf cq tq jq) ∧ (0, .cells 29 [.int .i64 0, .base (.slice none 0 0)]) :: (1, .cells 29 [.int .i64 k0, tv]) :: (σr ++ [(n12, .cells 24 tq.cells)]) = st.σ ∧ st.env 2 = .int .i64 f ∧ st.env 3 = .rptr [.int .i64 k, termsA nl (l.map Pt.row)] ∧ st.env 4 = .rptr [.int .i64 k', termsA nl' (l'.map Pt.row)] ∧ st.env 6 = .ref 0 0 0 ∧ st.env 7 = .ref 1 1 0 ∧ st.env 8 = .int .i64 (iq : Nat) ∧ st.env 9 = .int .i64 (jq : Nat) ∧ st.env 11 = .int .i64 cq ∧ st.env 12 = .ref (σr.length + 1 + 1) n12 0) ?_ ?_
                ·
                  refine aw_sreg {} rfl rfl fun K KP hK hP => ?_
                  simp only [go_sem, ↓reduceIte, c1_0, c1_1, e0_2, e0_3, e0_4, e0_6, e0_7, e0_8, e0_9, m3_2, m3_3, m3_4, m3_6, m3_7, m3_8, m3_9, m3_33, mb2_2, mb2_3, mb2_4, mb2_6, mb2_7, mb2_8, mb2_9, mb2_10, ms11_2, ms11_3, ms11_4, ms11_6, ms11_7, ms11_8, ms11_9, ms11_10, ms11_11, ms11_12]
                  apply hK; clear hK hP
                  refine aw_if (0 ≤ ordI l l' i j) (by simp only [go_sem, ↓reduceIte, c1_0, c1_1, e0_2, e0_3, e0_4, e0_6, e0_7, e0_8, e0_9, m3_2, m3_3, m3_4, m3_6, m3_7, m3_8, m3_9, m3_33, mb2_2, mb2_3, mb2_4, mb2_6, mb2_7, mb2_8, mb2_9, mb2_10, ms11_2, ms11_3, ms11_4, ms11_6, ms11_7, ms11_8, ms11_9, ms11_10, ms11_11, ms11_12]) (fun h14 => ?_) (fun h14 => ?_)
                  ·
                    have hj := ord_ge_lt h14 h3 hp0_1
                    have hwj : IntKind.wrap .i64 ((j : Int) + 1) = ((j + 1 : Nat) : Int) := by rw [wrap64 (by omega) (by omega)]; omega
                    have hcj := hc' _ (List.getElem_mem hj)
                    have htj := times_call l'[j].c f (by omega) (by omega) hf hf'
                    have hcb : -1152921504606846976 ≤ c ∧ c ≤ 1152921504606846976 := by
                      by_cases ho : ordI l l' i j ≤ 0
                      · obtain ⟨hi, e, _⟩ := hms11_0.1 ho; rw [e]; exact hc _ (List.getElem_mem hi)
                      · rw [(hms11_0.2 (by omega)).1]; omega
                    by_cases c15_0 : timesS l'[j].c f = none
                    ·
                      refine aw_spdraw {} [14, 16] [0, 0, 2, 0, 14, 30, 62, 0, 254, 511, 1023, 0, 2048, 0, 14336, 30720, 63488, 2047, 262143] [0, 1, 2, 3, 4, 5, 6, 7, 11, 12, 13, 14, 15, 16, 8, 9, 10, 17, 18] mixed (by kernel_rfl) rfl rfl (by simp only [List.filterMap_cons, List.filterMap_nil, List.getElem?_toArray, List.getElem?_cons_zero, List.getElem?_cons_succ]; rfl) fun K KP hK hP => ?_
                      simp only [go_sem, ↓reduceIte, c1_0, c1_1, e0_2, e0_3, e0_4, e0_6, e0_7, e0_8, e0_9, m3_2, m3_3, m3_4, m3_6, m3_7, m3_8, m3_9, m3_33, mb2_2, mb2_3, mb2_4, mb2_6, mb2_7, mb2_8, mb2_9, mb2_10, ms11_2, ms11_3, ms11_4, ms11_6, ms11_7, ms11_8, ms11_9, ms11_10, ms11_11, ms11_12, hj, getD_rows hj, hwj, c15_0]
                      refine CallP.pan (by rw [c15_0] at htj; exact htj) (by simp only [go_sem]) ?_
                      try simp only [go_sem, ↓reduceIte, c1_0, c1_1, e0_2, e0_3, e0_4, e0_6, e0_7, e0_8, e0_9, m3_2, m3_3, m3_4, m3_6, m3_7, m3_8, m3_9, m3_33, mb2_2, mb2_3, mb2_4, mb2_6, mb2_7, mb2_8, mb2_9, mb2_10, ms11_2, ms11_3, ms11_4, ms11_6, ms11_7, ms11_8, ms11_9, ms11_10, ms11_11, ms11_12, hj, getD_rows hj, hwj, c15_0]
                      refine hP _ _ _ fun env => ?_
                      have hno := merge_none f rfl hms11_0 h14 hj (by rw [c15_0]; rfl)
                      rw [hno] at hp0_2
                      rw [hplus, hp0_2]
                      simp [outS, beyondA, go_sem]
                    ·
                      by_cases c15_1 : (timesS l'[j].c f).bind (fun x => wholeS (c + x)) = none
                      ·
                        obtain ⟨y, hy⟩ := Option.ne_none_iff_exists'.1 c15_0
                        have hyb := timesS_some hy
                        have hwy : IntKind.wrap .i64 (c + y) = c + y := wrap64 (by omega) (by omega)
                        have hwny : wholeS (c + y) = none := by rw [hy] at c15_1; exact c15_1
                        refine aw_spdraw {} [14, 16] [0, 0, 2, 0, 14, 30, 62, 0, 254, 511, 1023, 0, 2048, 0, 14336, 30720, 63488, 2047, 262143] [0, 1, 2, 3, 4, 5, 6, 7, 11, 12, 13, 14, 15, 16, 8, 9, 10, 17, 18] mixed (by kernel_rfl) rfl rfl (by simp only [List.filterMap_cons, List.filterMap_nil, List.getElem?_toArray, List.getElem?_cons_zero, List.getElem?_cons_succ]; rfl) fun K KP hK hP => ?_
                        simp only [go_sem, ↓reduceIte, c1_0, c1_1, e0_2, e0_3, e0_4, e0_6, e0_7, e0_8, e0_9, m3_2, m3_3, m3_4, m3_6, m3_7, m3_8, m3_9, m3_33, mb2_2, mb2_3, mb2_4, mb2_6, mb2_7, mb2_8, mb2_9, mb2_10, ms11_2, ms11_3, ms11_4, ms11_6, ms11_7, ms11_8, ms11_9, ms11_10, ms11_11, ms11_12, hj, getD_rows hj, hwj, c15_0, c15_1, hwy]
                        refine CallP.ret (by rw [hy] at htj; exact htj) (by simp only [go_sem]) ?_
                        try simp only [go_sem, ↓reduceIte, c1_0, c1_1, e0_2, e0_3, e0_4, e0_6, e0_7, e0_8, e0_9, m3_2, m3_3, m3_4, m3_6, m3_7, m3_8, m3_9, m3_33, mb2_2, mb2_3, mb2_4, mb2_6, mb2_7, mb2_8, mb2_9, mb2_10, ms11_2, ms11_3, ms11_4, ms11_6, ms11_7, ms11_8, ms11_9, ms11_10, ms11_11, ms11_12, hj, getD_rows hj, hwj, c15_0, c15_1, hwy]
                        refine CallP.pan (by have h := whole_call (c + y); rw [hwny] at h; exact h) (by simp only [go_sem]) ?_
                        try simp only [go_sem, ↓reduceIte, c1_0, c1_1, e0_2, e0_3, e0_4, e0_6, e0_7, e0_8, e0_9, m3_2, m3_3, m3_4, m3_6, m3_7, m3_8, m3_9, m3_33, mb2_2, mb2_3, mb2_4, mb2_6, mb2_7, mb2_8, mb2_9, mb2_10, ms11_2, ms11_3, ms11_4, ms11_6, ms11_7, ms11_8, ms11_9, ms11_10, ms11_11, ms11_12, hj, getD_rows hj, hwj, c15_0, c15_1, hwy]
                        refine hP _ _ _ fun env => ?_
                        have hno := merge_none f rfl hms11_0 h14 hj c15_1
                        rw [hno] at hp0_2
                        rw [hplus, hp0_2]
                        simp [outS, beyondA, go_sem]
                      ·
                        obtain ⟨y, hy⟩ := Option.ne_none_iff_exists'.1 c15_0
                        have hyb := timesS_some hy
                        have hwy : IntKind.wrap .i64 (c + y) = c + y := wrap64 (by omega) (by omega)
                        obtain ⟨c2, hc2⟩ := Option.ne_none_iff_exists'.1 c15_1
                        have hwny : wholeS (c + y) = some c2 := by rw [hy] at hc2; exact hc2
                        refine aw_spdraw {} [14, 16] [0, 0, 2, 0, 14, 30, 62, 0, 254, 511, 1023, 0, 2048, 0, 14336, 30720, 63488, 2047, 262143] [0, 1, 2, 3, 4, 5, 6, 7, 11, 12, 13, 14, 15, 16, 8, 9, 10, 17, 18] mixed (by kernel_rfl) rfl rfl (by simp only [List.filterMap_cons, List.filterMap_nil, List.getElem?_toArray, List.getElem?_cons_zero, List.getElem?_cons_succ]; rfl) fun K KP hK hP => ?_
                        simp only [go_sem, ↓reduceIte, c1_0, c1_1, e0_2, e0_3, e0_4, e0_6, e0_7, e0_8, e0_9, m3_2, m3_3, m3_4, m3_6, m3_7, m3_8, m3_9, m3_33, mb2_2, mb2_3, mb2_4, mb2_6, mb2_7, mb2_8, mb2_9, mb2_10, ms11_2, ms11_3, ms11_4, ms11_6, ms11_7, ms11_8, ms11_9, ms11_10, ms11_11, ms11_12, hj, getD_rows hj, hwj, c15_0, c15_1, hwy]
                        refine CallP.ret (by rw [hy] at htj; exact htj) (by simp only [go_sem]) ?_
                        try simp only [go_sem, ↓reduceIte, c1_0, c1_1, e0_2, e0_3, e0_4, e0_6, e0_7, e0_8, e0_9, m3_2, m3_3, m3_4, m3_6, m3_7, m3_8, m3_9, m3_33, mb2_2, mb2_3, mb2_4, mb2_6, mb2_7, mb2_8, mb2_9, mb2_10, ms11_2, ms11_3, ms11_4, ms11_6, ms11_7, ms11_8, ms11_9, ms11_10, ms11_11, ms11_12, hj, getD_rows hj, hwj, c15_0, c15_1, hwy]
                        refine CallP.ret (by have h := whole_call (c + y); rw [hwny] at h; exact h) (by simp only [go_sem]) ?_
                        try simp only [go_sem, ↓reduceIte, c1_0, c1_1, e0_2, e0_3, e0_4, e0_6, e0_7, e0_8, e0_9, m3_2, m3_3, m3_4, m3_6, m3_7, m3_8, m3_9, m3_33, mb2_2, mb2_3, mb2_4, mb2_6, mb2_7, mb2_8, mb2_9, mb2_10, ms11_2, ms11_3, ms11_4, ms11_6, ms11_7, ms11_8, ms11_9, ms11_10, ms11_11, ms11_12, hj, getD_rows hj, hwj, c15_0, c15_1, hwy]
                        apply hK; clear hK hP
                        refine aw_lreg {} rfl rfl fun K KP hK hP => ?_
                        simp only [go_sem, ↓reduceIte, c1_0, c1_1, e0_2, e0_3, e0_4, e0_6, e0_7, e0_8, e0_9, m3_2, m3_3, m3_4, m3_6, m3_7, m3_8, m3_9, m3_33, mb2_2, mb2_3, mb2_4, mb2_6, mb2_7, mb2_8, mb2_9, mb2_10, ms11_2, ms11_3, ms11_4, ms11_6, ms11_7, ms11_8, ms11_9, ms11_10, ms11_11, ms11_12, hj, getD_rows hj, hwj, c15_0, c15_1]
                        apply hK; clear hK hP
                        refine athen_normal.2 ?_
                        refine ⟨c2, l'[j].t, j + 1, ?_, rfl, ?_, ?_, ?_, ?_, ?_, ?_, ?_, ?_, ?_⟩
                        · exact ⟨fun h => absurd h (by omega), fun _ => ⟨hj, y, hy, hwny, rfl, rfl⟩⟩
                        · simp only [go_sem, ↓reduceIte, c1_0, c1_1, e0_2, e0_3, e0_4, e0_6, e0_7, e0_8, e0_9, m3_2, m3_3, m3_4, m3_6, m3_7, m3_8, m3_9, m3_33, mb2_2, mb2_3, mb2_4, mb2_6, mb2_7, mb2_8, mb2_9, mb2_10, ms11_2, ms11_3, ms11_4, ms11_6, ms11_7, ms11_8, ms11_9, ms11_10, ms11_11, ms11_12, hj, getD_rows hj, hwj, c15_0, c15_1] <;> try rfl
                        · simp only [go_sem, ↓reduceIte, c1_0, c1_1, e0_2, e0_3, e0_4, e0_6, e0_7, e0_8, e0_9, m3_2, m3_3, m3_4, m3_6, m3_7, m3_8, m3_9, m3_33, mb2_2, mb2_3, mb2_4, mb2_6, mb2_7, mb2_8, mb2_9, mb2_10, ms11_2, ms11_3, ms11_4, ms11_6, ms11_7, ms11_8, ms11_9, ms11_10, ms11_11, ms11_12, hj, getD_rows hj, hwj, c15_0, c15_1] <;> try rfl
                        · simp only [go_sem, ↓reduceIte, c1_0, c1_1, e0_2, e0_3, e0_4, e0_6, e0_7, e0_8, e0_9, m3_2, m3_3, m3_4, m3_6, m3_7, m3_8, m3_9, m3_33, mb2_2, mb2_3, mb2_4, mb2_6, mb2_7, mb2_8, mb2_9, mb2_10, ms11_2, ms11_3, ms11_4, ms11_6, ms11_7, ms11_8, ms11_9, ms11_10, ms11_11, ms11_12, hj, getD_rows hj, hwj, c15_0, c15_1] <;> try rfl
                        · simp only [go_sem, ↓reduceIte, c1_0, c1_1, e0_2, e0_3, e0_4, e0_6, e0_7, e0_8, e0_9, m3_2, m3_3, m3_4, m3_6, m3_7, m3_8, m3_9, m3_33, mb2_2, mb2_3, mb2_4, mb2_6, mb2_7, mb2_8, mb2_9, mb2_10, ms11_2, ms11_3, ms11_4, ms11_6, ms11_7, ms11_8, ms11_9, ms11_10, ms11_11, ms11_12, hj, getD_rows hj, hwj, c15_0, c15_1] <;> try rfl
                        · simp only [go_sem, ↓reduceIte, c1_0, c1_1, e0_2, e0_3, e0_4, e0_6, e0_7, e0_8, e0_9, m3_2, m3_3, m3_4, m3_6, m3_7, m3_8, m3_9, m3_33, mb2_2, mb2_3, mb2_4, mb2_6, mb2_7, mb2_8, mb2_9, mb2_10, ms11_2, ms11_3, ms11_4, ms11_6, ms11_7, ms11_8, ms11_9, ms11_10, ms11_11, ms11_12, hj, getD_rows hj, hwj, c15_0, c15_1] <;> try rfl
                        · simp only [go_sem, ↓reduceIte, c1_0, c1_1, e0_2, e0_3, e0_4, e0_6, e0_7, e0_8, e0_9, m3_2, m3_3, m3_4, m3_6, m3_7, m3_8, m3_9, m3_33, mb2_2, mb2_3, mb2_4, mb2_6, mb2_7, mb2_8, mb2_9, mb2_10, ms11_2, ms11_3, ms11_4, ms11_6, ms11_7, ms11_8, ms11_9, ms11_10, ms11_11, ms11_12, hj, getD_rows hj, hwj, c15_0, c15_1] <;> try rfl
                        · simp only [go_sem, ↓reduceIte, c1_0, c1_1, e0_2, e0_3, e0_4, e0_6, e0_7, e0_8, e0_9, m3_2, m3_3, m3_4, m3_6, m3_7, m3_8, m3_9, m3_33, mb2_2, mb2_3, mb2_4, mb2_6, mb2_7, mb2_8, mb2_9, mb2_10, ms11_2, ms11_3, ms11_4, ms11_6, ms11_7, ms11_8, ms11_9, ms11_10, ms11_11, ms11_12, hj, getD_rows hj, hwj, c15_0, c15_1] <;> try rfl
                        · simp only [go_sem, ↓reduceIte, c1_0, c1_1, e0_2, e0_3, e0_4, e0_6, e0_7, e0_8, e0_9, m3_2, m3_3, m3_4, m3_6, m3_7, m3_8, m3_9, m3_33, mb2_2, mb2_3, mb2_4, mb2_6, mb2_7, mb2_8, mb2_9, mb2_10, ms11_2, ms11_3, ms11_4, ms11_6, ms11_7, ms11_8, ms11_9, ms11_10, ms11_11, ms11_12, hj, getD_rows hj, hwj, c15_0, c15_1] <;> try rfl
                        · simp only [go_sem, ↓reduceIte, c1_0, c1_1, e0_2, e0_3, e0_4, e0_6, e0_7, e0_8, e0_9, m3_2, m3_3, m3_4, m3_6, m3_7, m3_8, m3_9, m3_33, mb2_2, mb2_3, mb2_4, mb2_6, mb2_7, mb2_8, mb2_9, mb2_10, ms11_2, ms11_3, ms11_4, ms11_6, ms11_7, ms11_8, ms11_9, ms11_10, ms11_11, ms11_12, hj, getD_rows hj, hwj, c15_0, c15_1] <;> try rfl
                  ·
                    refine aw_skip ?_
                    refine athen_normal.2 ?_
                    refine ⟨c, tf, j, ?_, rfl, ?_, ?_, ?_, ?_, ?_, ?_, ?_, ?_, ?_⟩
                    · exact ⟨fun _ => ⟨rfl, rfl, rfl⟩, fun h => absurd h (by omega)⟩
                    · simp only [go_sem, ↓reduceIte, c1_0, c1_1, e0_2, e0_3, e0_4, e0_6, e0_7, e0_8, e0_9, m3_2, m3_3, m3_4, m3_6, m3_7, m3_8, m3_9, m3_33, mb2_2, mb2_3, mb2_4, mb2_6, mb2_7, mb2_8, mb2_9, mb2_10, ms11_2, ms11_3, ms11_4, ms11_6, ms11_7, ms11_8, ms11_9, ms11_10, ms11_11, ms11_12] <;> try rfl
                    · simp only [go_sem, ↓reduceIte, c1_0, c1_1, e0_2, e0_3, e0_4, e0_6, e0_7, e0_8, e0_9, m3_2, m3_3, m3_4, m3_6, m3_7, m3_8, m3_9, m3_33, mb2_2, mb2_3, mb2_4, mb2_6, mb2_7, mb2_8, mb2_9, mb2_10, ms11_2, ms11_3, ms11_4, ms11_6, ms11_7, ms11_8, ms11_9, ms11_10, ms11_11, ms11_12] <;> try rfl
                    · simp only [go_sem, ↓reduceIte, c1_0, c1_1, e0_2, e0_3, e0_4, e0_6, e0_7, e0_8, e0_9, m3_2, m3_3, m3_4, m3_6, m3_7, m3_8, m3_9, m3_33, mb2_2, mb2_3, mb2_4, mb2_6, mb2_7, mb2_8, mb2_9, mb2_10, ms11_2, ms11_3, ms11_4, ms11_6, ms11_7, ms11_8, ms11_9, ms11_10, ms11_11, ms11_12] <;> try rfl
                    · simp only [go_sem, ↓reduceIte, c1_0, c1_1, e0_2, e0_3, e0_4, e0_6, e0_7, e0_8, e0_9, m3_2, m3_3, m3_4, m3_6, m3_7, m3_8, m3_9, m3_33, mb2_2, mb2_3, mb2_4, mb2_6, mb2_7, mb2_8, mb2_9, mb2_10, ms11_2, ms11_3, ms11_4, ms11_6, ms11_7, ms11_8, ms11_9, ms11_10, ms11_11, ms11_12] <;> try rfl
                    · simp only [go_sem, ↓reduceIte, c1_0, c1_1, e0_2, e0_3, e0_4, e0_6, e0_7, e0_8, e0_9, m3_2, m3_3, m3_4, m3_6, m3_7, m3_8, m3_9, m3_33, mb2_2, mb2_3, mb2_4, mb2_6, mb2_7, mb2_8, mb2_9, mb2_10, ms11_2, ms11_3, ms11_4, ms11_6, ms11_7, ms11_8, ms11_9, ms11_10, ms11_11, ms11_12] <;> try rfl
                    · simp only [go_sem, ↓reduceIte, c1_0, c1_1, e0_2, e0_3, e0_4, e0_6, e0_7, e0_8, e0_9, m3_2, m3_3, m3_4, m3_6, m3_7, m3_8, m3_9, m3_33, mb2_2, mb2_3, mb2_4, mb2_6, mb2_7, mb2_8, mb2_9, mb2_10, ms11_2, ms11_3, ms11_4, ms11_6, ms11_7, ms11_8, ms11_9, ms11_10, ms11_11, ms11_12] <;> try rfl
                    · simp only [go_sem, ↓reduceIte, c1_0, c1_1, e0_2, e0_3, e0_4, e0_6, e0_7, e0_8, e0_9, m3_2, m3_3, m3_4, m3_6, m3_7, m3_8, m3_9, m3_33, mb2_2, mb2_3, mb2_4, mb2_6, mb2_7, mb2_8, mb2_9, mb2_10, ms11_2, ms11_3, ms11_4, ms11_6, ms11_7, ms11_8, ms11_9, ms11_10, ms11_11, ms11_12] <;> try rfl
                    · simp only [go_sem, ↓reduceIte, c1_0, c1_1, e0_2, e0_3, e0_4, e0_6, e0_7, e0_8, e0_9, m3_2, m3_3, m3_4, m3_6, m3_7, m3_8, m3_9, m3_33, mb2_2, mb2_3, mb2_4, mb2_6, mb2_7, mb2_8, mb2_9, mb2_10, ms11_2, ms11_3, ms11_4, ms11_6, ms11_7, ms11_8, ms11_9, ms11_10, ms11_11, ms11_12] <;> try rfl
                    · simp only [go_sem, ↓reduceIte, c1_0, c1_1, e0_2, e0_3, e0_4, e0_6, e0_7, e0_8, e0_9, m3_2, m3_3, m3_4, m3_6, m3_7, m3_8, m3_9, m3_33, mb2_2, mb2_3, mb2_4, mb2_6, mb2_7, mb2_8, mb2_9, mb2_10, ms11_2, ms11_3, ms11_4, ms11_6, ms11_7, ms11_8, ms11_9, ms11_10, ms11_11, ms11_12] <;> try rfl
                ·
                  rintro ⟨envms14, σms14, nxms14⟩ ⟨cq, tq, jq, hms14_0, hmss14, ms14_2, ms14_3, ms14_4, ms14_6, ms14_7, ms14_8, ms14_9, ms14_11, ms14_12⟩
                  dsimp only at hmss14  ms14_2 ms14_3 ms14_4 ms14_6 ms14_7 ms14_8 ms14_9 ms14_11 ms14_12
                  subst hmss14
                  have hadv := take_adv hms11_0 hms14_0 hp0_0 hp0_1
                  have hbq := take_big hms11_0 hms14_0 ht ht'
                  have hst := merge_step f rfl hms11_0 hms14_0
                  have hlim : (out.length + 1) * 64 ≤ limB := by unfold limB; omega
                  have hlim1 : 64 ≤ limB := by decide
                  have hli : out.length + 1 ≤ 4611686018427387904 := by omega
                  refine aw_sreg {} rfl rfl fun K KP hK hP => ?_
                  simp only [go_sem, ↓reduceIte, c1_0, c1_1, e0_2, e0_3, e0_4, e0_6, e0_7, e0_8, e0_9, m3_2, m3_3, m3_4, m3_6, m3_7, m3_8, m3_9, m3_33, mb2_2, mb2_3, mb2_4, mb2_6, mb2_7, mb2_8, mb2_9, mb2_10, ms11_2, ms11_3, ms11_4, ms11_6, ms11_7, ms11_8, ms11_9, ms11_10, ms11_11, ms11_12, ms14_2, ms14_3, ms14_4, ms14_6, ms14_7, ms14_8, ms14_9, ms14_11, ms14_12, hlim, hlim1, hli]
                  apply hK; clear hK hP
                  refine aw_if (¬ cq = 0) (by simp only [go_sem, ↓reduceIte, c1_0, c1_1, e0_2, e0_3, e0_4, e0_6, e0_7, e0_8, e0_9, m3_2, m3_3, m3_4, m3_6, m3_7, m3_8, m3_9, m3_33, mb2_2, mb2_3, mb2_4, mb2_6, mb2_7, mb2_8, mb2_9, mb2_10, ms11_2, ms11_3, ms11_4, ms11_6, ms11_7, ms11_8, ms11_9, ms11_10, ms11_11, ms11_12, ms14_2, ms14_3, ms14_4, ms14_6, ms14_7, ms14_8, ms14_9, ms14_11, ms14_12, hlim, hlim1, hli]) (fun h17 => ?_) (fun h17 => ?_)
                  ·
                    by_cases c18 : out = []
                    ·
                      have htv : tv = .base (.slice none 0 0) := by
                        rcases hp0_3 with ⟨_, h⟩ | ⟨_, _, _, h, _⟩
                        · exact h
                        · exact absurd c18 h
                      subst htv
                      refine aw_ldraw {} [] [0, 1, 0, 0, 8, 28, 60, 127, 255, 511] mixed (by kernel_rfl) rfl rfl fun K KP hK hP => ?_
                      simp only [go_sem, ↓reduceIte, c1_0, c1_1, e0_2, e0_3, e0_4, e0_6, e0_7, e0_8, e0_9, m3_2, m3_3, m3_4, m3_6, m3_7, m3_8, m3_9, m3_33, mb2_2, mb2_3, mb2_4, mb2_6, mb2_7, mb2_8, mb2_9, mb2_10, ms11_2, ms11_3, ms11_4, ms11_6, ms11_7, ms11_8, ms11_9, ms11_10, ms11_11, ms11_12, ms14_2, ms14_3, ms14_4, ms14_6, ms14_7, ms14_8, ms14_9, ms14_11, ms14_12, hlim, hlim1, hli, c18, List.replicate_succ]
                      refine CallP.ret (copy_call _ (by omega)) (by simp only [go_sem]) ?_
                      try simp only [go_sem, ↓reduceIte, c1_0, c1_1, e0_2, e0_3, e0_4, e0_6, e0_7, e0_8, e0_9, m3_2, m3_3, m3_4, m3_6, m3_7, m3_8, m3_9, m3_33, mb2_2, mb2_3, mb2_4, mb2_6, mb2_7, mb2_8, mb2_9, mb2_10, ms11_2, ms11_3, ms11_4, ms11_6, ms11_7, ms11_8, ms11_9, ms11_10, ms11_11, ms11_12, ms14_2, ms14_3, ms14_4, ms14_6, ms14_7, ms14_8, ms14_9, ms14_11, ms14_12, hlim, hlim1, hli, c18, List.replicate_succ]
                      apply hK; clear hK hP
                      refine ablock_normal.2 ?_
                      refine athen_normal.2 ?_
                      refine ⟨_, ?_, iq, jq, out ++ [⟨cq, tq⟩], .sref ((σr ++ [(n12, AObj.cells 24 tq.cells)]).length + 1 + 1) nxms14 5 0 1, (σr ++ [(n12, .cells 24 tq.cells)]) ++ [(nxms14, .gvec 5 68 [Pt.row ⟨cq, tq⟩])], ?_, ?_, ?_, ?_, ?_, rfl, ?_, ?_, ?_, ?_, ?_, ?_, ?_, ?_⟩
                      · omega
                      · first | omega | trivial | assumption
                      · first | omega | trivial | assumption
                      · rw [hp0_2, hst, Option.map_map]; congr 1; funext r; simp [consP, h17]
                      · exact .inr ⟨σr ++ [(n12, .cells 24 tq.cells)], nxms14, [], by simp, by simp [c18], by simp [c18]⟩
                      · simp; omega
                      · simp [Pt.row]
                      · simp only [go_sem, ↓reduceIte, c1_0, c1_1, e0_2, e0_3, e0_4, e0_6, e0_7, e0_8, e0_9, m3_2, m3_3, m3_4, m3_6, m3_7, m3_8, m3_9, m3_33, mb2_2, mb2_3, mb2_4, mb2_6, mb2_7, mb2_8, mb2_9, mb2_10, ms11_2, ms11_3, ms11_4, ms11_6, ms11_7, ms11_8, ms11_9, ms11_10, ms11_11, ms11_12, ms14_2, ms14_3, ms14_4, ms14_6, ms14_7, ms14_8, ms14_9, ms14_11, ms14_12, hlim, hlim1, hli, c18] <;> try rfl
                      · simp only [go_sem, ↓reduceIte, c1_0, c1_1, e0_2, e0_3, e0_4, e0_6, e0_7, e0_8, e0_9, m3_2, m3_3, m3_4, m3_6, m3_7, m3_8, m3_9, m3_33, mb2_2, mb2_3, mb2_4, mb2_6, mb2_7, mb2_8, mb2_9, mb2_10, ms11_2, ms11_3, ms11_4, ms11_6, ms11_7, ms11_8, ms11_9, ms11_10, ms11_11, ms11_12, ms14_2, ms14_3, ms14_4, ms14_6, ms14_7, ms14_8, ms14_9, ms14_11, ms14_12, hlim, hlim1, hli, c18] <;> try rfl
                      · simp only [go_sem, ↓reduceIte, c1_0, c1_1, e0_2, e0_3, e0_4, e0_6, e0_7, e0_8, e0_9, m3_2, m3_3, m3_4, m3_6, m3_7, m3_8, m3_9, m3_33, mb2_2, mb2_3, mb2_4, mb2_6, mb2_7, mb2_8, mb2_9, mb2_10, ms11_2, ms11_3, ms11_4, ms11_6, ms11_7, ms11_8, ms11_9, ms11_10, ms11_11, ms11_12, ms14_2, ms14_3, ms14_4, ms14_6, ms14_7, ms14_8, ms14_9, ms14_11, ms14_12, hlim, hlim1, hli, c18] <;> try rfl
                      · simp only [go_sem, ↓reduceIte, c1_0, c1_1, e0_2, e0_3, e0_4, e0_6, e0_7, e0_8, e0_9, m3_2, m3_3, m3_4, m3_6, m3_7, m3_8, m3_9, m3_33, mb2_2, mb2_3, mb2_4, mb2_6, mb2_7, mb2_8, mb2_9, mb2_10, ms11_2, ms11_3, ms11_4, ms11_6, ms11_7, ms11_8, ms11_9, ms11_10, ms11_11, ms11_12, ms14_2, ms14_3, ms14_4, ms14_6, ms14_7, ms14_8, ms14_9, ms14_11, ms14_12, hlim, hlim1, hli, c18] <;> try rfl
                      · simp only [go_sem, ↓reduceIte, c1_0, c1_1, e0_2, e0_3, e0_4, e0_6, e0_7, e0_8, e0_9, m3_2, m3_3, m3_4, m3_6, m3_7, m3_8, m3_9, m3_33, mb2_2, mb2_3, mb2_4, mb2_6, mb2_7, mb2_8, mb2_9, mb2_10, ms11_2, ms11_3, ms11_4, ms11_6, ms11_7, ms11_8, ms11_9, ms11_10, ms11_11, ms11_12, ms14_2, ms14_3, ms14_4, ms14_6, ms14_7, ms14_8, ms14_9, ms14_11, ms14_12, hlim, hlim1, hli, c18] <;> try rfl
                      · simp only [go_sem, ↓reduceIte, c1_0, c1_1, e0_2, e0_3, e0_4, e0_6, e0_7, e0_8, e0_9, m3_2, m3_3, m3_4, m3_6, m3_7, m3_8, m3_9, m3_33, mb2_2, mb2_3, mb2_4, mb2_6, mb2_7, mb2_8, mb2_9, mb2_10, ms11_2, ms11_3, ms11_4, ms11_6, ms11_7, ms11_8, ms11_9, ms11_10, ms11_11, ms11_12, ms14_2, ms14_3, ms14_4, ms14_6, ms14_7, ms14_8, ms14_9, ms14_11, ms14_12, hlim, hlim1, hli, c18] <;> try rfl
                      · simp only [go_sem, ↓reduceIte, c1_0, c1_1, e0_2, e0_3, e0_4, e0_6, e0_7, e0_8, e0_9, m3_2, m3_3, m3_4, m3_6, m3_7, m3_8, m3_9, m3_33, mb2_2, mb2_3, mb2_4, mb2_6, mb2_7, mb2_8, mb2_9, mb2_10, ms11_2, ms11_3, ms11_4, ms11_6, ms11_7, ms11_8, ms11_9, ms11_10, ms11_11, ms11_12, ms14_2, ms14_3, ms14_4, ms14_6, ms14_7, ms14_8, ms14_9, ms14_11, ms14_12, hlim, hlim1, hli, c18] <;> try rfl
                    ·
                      obtain ⟨pre, nm, rest, hne, htv, hσ⟩ : ∃ pre nm rest, out ≠ [] ∧ tv = .sref (pre.length + 1 + 1) nm 5 0 out.length ∧ σr = pre ++ (nm, .gvec 5 68 (out.map Pt.row)) :: rest := hp0_3.resolve_left fun h => c18 h.1
                      subst htv
                      have hs2 : ∀ (a b : Nat × AObj) (l : Sto), sget (a :: b :: (σr ++ l)) (pre.length + 1 + 1) nm = some (.gvec 5 68 (out.map Pt.row)) := by
                        intro a b l; rw [hσ]; simp [sget]
                      refine aw_ldraw {} [] [0, 1, 0, 0, 8, 28, 60, 127, 255, 511] mixed (by kernel_rfl) rfl rfl fun K KP hK hP => ?_
                      simp only [go_sem, ↓reduceIte, c1_0, c1_1, e0_2, e0_3, e0_4, e0_6, e0_7, e0_8, e0_9, m3_2, m3_3, m3_4, m3_6, m3_7, m3_8, m3_9, m3_33, mb2_2, mb2_3, mb2_4, mb2_6, mb2_7, mb2_8, mb2_9, mb2_10, ms11_2, ms11_3, ms11_4, ms11_6, ms11_7, ms11_8, ms11_9, ms11_10, ms11_11, ms11_12, ms14_2, ms14_3, ms14_4, ms14_6, ms14_7, ms14_8, ms14_9, ms14_11, ms14_12, hlim, hlim1, hli, c18, hs2, List.replicate_succ, List.length_map]
                      refine CallP.ret (copy_call _ (by omega)) (by simp only [go_sem]) ?_
                      try simp only [go_sem, ↓reduceIte, c1_0, c1_1, e0_2, e0_3, e0_4, e0_6, e0_7, e0_8, e0_9, m3_2, m3_3, m3_4, m3_6, m3_7, m3_8, m3_9, m3_33, mb2_2, mb2_3, mb2_4, mb2_6, mb2_7, mb2_8, mb2_9, mb2_10, ms11_2, ms11_3, ms11_4, ms11_6, ms11_7, ms11_8, ms11_9, ms11_10, ms11_11, ms11_12, ms14_2, ms14_3, ms14_4, ms14_6, ms14_7, ms14_8, ms14_9, ms14_11, ms14_12, hlim, hlim1, hli, c18, hs2, List.replicate_succ, List.length_map]
                      apply hK; clear hK hP
                      refine ablock_normal.2 ?_
                      refine athen_normal.2 ?_
                      refine ⟨_, ?_, iq, jq, out ++ [⟨cq, tq⟩], .sref (pre.length + 1 + 1) nxms14 5 0 (out.length + 1), (pre ++ (nxms14, .gvec 5 68 (out.map Pt.row ++ [Pt.row ⟨cq, tq⟩])) :: rest) ++ [(n12, .cells 24 tq.cells)], ?_, ?_, ?_, ?_, ?_, rfl, ?_, ?_, ?_, ?_, ?_, ?_, ?_, ?_⟩
                      · omega
                      · first | omega | trivial | assumption
                      · first | omega | trivial | assumption
                      · rw [hp0_2, hst, Option.map_map]; congr 1; funext r; simp [consP, h17]
                      · exact .inr ⟨pre, nxms14, rest ++ [(n12, .cells 24 tq.cells)], by simp, by simp, by simp⟩
                      · simp; omega
                      · simp [Pt.row, hσ, take_pts]
                      · simp only [go_sem, ↓reduceIte, c1_0, c1_1, e0_2, e0_3, e0_4, e0_6, e0_7, e0_8, e0_9, m3_2, m3_3, m3_4, m3_6, m3_7, m3_8, m3_9, m3_33, mb2_2, mb2_3, mb2_4, mb2_6, mb2_7, mb2_8, mb2_9, mb2_10, ms11_2, ms11_3, ms11_4, ms11_6, ms11_7, ms11_8, ms11_9, ms11_10, ms11_11, ms11_12, ms14_2, ms14_3, ms14_4, ms14_6, ms14_7, ms14_8, ms14_9, ms14_11, ms14_12, hlim, hlim1, hli, c18] <;> try rfl
                      · simp only [go_sem, ↓reduceIte, c1_0, c1_1, e0_2, e0_3, e0_4, e0_6, e0_7, e0_8, e0_9, m3_2, m3_3, m3_4, m3_6, m3_7, m3_8, m3_9, m3_33, mb2_2, mb2_3, mb2_4, mb2_6, mb2_7, mb2_8, mb2_9, mb2_10, ms11_2, ms11_3, ms11_4, ms11_6, ms11_7, ms11_8, ms11_9, ms11_10, ms11_11, ms11_12, ms14_2, ms14_3, ms14_4, ms14_6, ms14_7, ms14_8, ms14_9, ms14_11, ms14_12, hlim, hlim1, hli, c18] <;> try rfl
                      · simp only [go_sem, ↓reduceIte, c1_0, c1_1, e0_2, e0_3, e0_4, e0_6, e0_7, e0_8, e0_9, m3_2, m3_3, m3_4, m3_6, m3_7, m3_8, m3_9, m3_33, mb2_2, mb2_3, mb2_4, mb2_6, mb2_7, mb2_8, mb2_9, mb2_10, ms11_2, ms11_3, ms11_4, ms11_6, ms11_7, ms11_8, ms11_9, ms11_10, ms11_11, ms11_12, ms14_2, ms14_3, ms14_4, ms14_6, ms14_7, ms14_8, ms14_9, ms14_11, ms14_12, hlim, hlim1, hli, c18] <;> try rfl
                      · simp only [go_sem, ↓reduceIte, c1_0, c1_1, e0_2, e0_3, e0_4, e0_6, e0_7, e0_8, e0_9, m3_2, m3_3, m3_4, m3_6, m3_7, m3_8, m3_9, m3_33, mb2_2, mb2_3, mb2_4, mb2_6, mb2_7, mb2_8, mb2_9, mb2_10, ms11_2, ms11_3, ms11_4, ms11_6, ms11_7, ms11_8, ms11_9, ms11_10, ms11_11, ms11_12, ms14_2, ms14_3, ms14_4, ms14_6, ms14_7, ms14_8, ms14_9, ms14_11, ms14_12, hlim, hlim1, hli, c18] <;> try rfl
                      · simp only [go_sem, ↓reduceIte, c1_0, c1_1, e0_2, e0_3, e0_4, e0_6, e0_7, e0_8, e0_9, m3_2, m3_3, m3_4, m3_6, m3_7, m3_8, m3_9, m3_33, mb2_2, mb2_3, mb2_4, mb2_6, mb2_7, mb2_8, mb2_9, mb2_10, ms11_2, ms11_3, ms11_4, ms11_6, ms11_7, ms11_8, ms11_9, ms11_10, ms11_11, ms11_12, ms14_2, ms14_3, ms14_4, ms14_6, ms14_7, ms14_8, ms14_9, ms14_11, ms14_12, hlim, hlim1, hli, c18] <;> try rfl
                      · simp only [go_sem, ↓reduceIte, c1_0, c1_1, e0_2, e0_3, e0_4, e0_6, e0_7, e0_8, e0_9, m3_2, m3_3, m3_4, m3_6, m3_7, m3_8, m3_9, m3_33, mb2_2, mb2_3, mb2_4, mb2_6, mb2_7, mb2_8, mb2_9, mb2_10, ms11_2, ms11_3, ms11_4, ms11_6, ms11_7, ms11_8, ms11_9, ms11_10, ms11_11, ms11_12, ms14_2, ms14_3, ms14_4, ms14_6, ms14_7, ms14_8, ms14_9, ms14_11, ms14_12, hlim, hlim1, hli, c18] <;> try rfl
                      · simp only [go_sem, ↓reduceIte, c1_0, c1_1, e0_2, e0_3, e0_4, e0_6, e0_7, e0_8, e0_9, m3_2, m3_3, m3_4, m3_6, m3_7, m3_8, m3_9, m3_33, mb2_2, mb2_3, mb2_4, mb2_6, mb2_7, mb2_8, mb2_9, mb2_10, ms11_2, ms11_3, ms11_4, ms11_6, ms11_7, ms11_8, ms11_9, ms11_10, ms11_11, ms11_12, ms14_2, ms14_3, ms14_4, ms14_6, ms14_7, ms14_8, ms14_9, ms14_11, ms14_12, hlim, hlim1, hli, c18] <;> try rfl
                  ·
                    refine aw_skip ?_
                    refine ablock_normal.2 ?_
                    refine athen_normal.2 ?_
                    refine ⟨_, ?_, iq, jq, out, tv, σr ++ [(n12, .cells 24 tq.cells)], ?_, ?_, ?_, ?_, ?_, rfl, rfl, ?_, ?_, ?_, ?_, ?_, ?_, ?_⟩
                    · omega
                    · first | omega | trivial | assumption
                    · first | omega | trivial | assumption
                    · rw [hp0_2, hst]
                      have hz : cq = 0 := Classical.not_not.1 h17
                      rw [Option.map_map]; congr 1; funext r; simp [consP, hz]
                    · exact hp0_3.snoc _
                    · first | omega | trivial | assumption
                    · simp only [go_sem, ↓reduceIte, c1_0, c1_1, e0_2, e0_3, e0_4, e0_6, e0_7, e0_8, e0_9, m3_2, m3_3, m3_4, m3_6, m3_7, m3_8, m3_9, m3_33, mb2_2, mb2_3, mb2_4, mb2_6, mb2_7, mb2_8, mb2_9, mb2_10, ms11_2, ms11_3, ms11_4, ms11_6, ms11_7, ms11_8, ms11_9, ms11_10, ms11_11, ms11_12, ms14_2, ms14_3, ms14_4, ms14_6, ms14_7, ms14_8, ms14_9, ms14_11, ms14_12, hlim, hlim1, hli] <;> try rfl
                    · simp only [go_sem, ↓reduceIte, c1_0, c1_1, e0_2, e0_3, e0_4, e0_6, e0_7, e0_8, e0_9, m3_2, m3_3, m3_4, m3_6, m3_7, m3_8, m3_9, m3_33, mb2_2, mb2_3, mb2_4, mb2_6, mb2_7, mb2_8, mb2_9, mb2_10, ms11_2, ms11_3, ms11_4, ms11_6, ms11_7, ms11_8, ms11_9, ms11_10, ms11_11, ms11_12, ms14_2, ms14_3, ms14_4, ms14_6, ms14_7, ms14_8, ms14_9, ms14_11, ms14_12, hlim, hlim1, hli] <;> try rfl
                    · simp only [go_sem, ↓reduceIte, c1_0, c1_1, e0_2, e0_3, e0_4, e0_6, e0_7, e0_8, e0_9, m3_2, m3_3, m3_4, m3_6, m3_7, m3_8, m3_9, m3_33, mb2_2, mb2_3, mb2_4, mb2_6, mb2_7, mb2_8, mb2_9, mb2_10, ms11_2, ms11_3, ms11_4, ms11_6, ms11_7, ms11_8, ms11_9, ms11_10, ms11_11, ms11_12, ms14_2, ms14_3, ms14_4, ms14_6, ms14_7, ms14_8, ms14_9, ms14_11, ms14_12, hlim, hlim1, hli] <;> try rfl
                    · simp only [go_sem, ↓reduceIte, c1_0, c1_1, e0_2, e0_3, e0_4, e0_6, e0_7, e0_8, e0_9, m3_2, m3_3, m3_4, m3_6, m3_7, m3_8, m3_9, m3_33, mb2_2, mb2_3, mb2_4, mb2_6, mb2_7, mb2_8, mb2_9, mb2_10, ms11_2, ms11_3, ms11_4, ms11_6, ms11_7, ms11_8, ms11_9, ms11_10, ms11_11, ms11_12, ms14_2, ms14_3, ms14_4, ms14_6, ms14_7, ms14_8, ms14_9, ms14_11, ms14_12, hlim, hlim1, hli] <;> try rfl
                    · simp only [go_sem, ↓reduceIte, c1_0, c1_1, e0_2, e0_3, e0_4, e0_6, e0_7, e0_8, e0_9, m3_2, m3_3, m3_4, m3_6, m3_7, m3_8, m3_9, m3_33, mb2_2, mb2_3, mb2_4, mb2_6, mb2_7, mb2_8, mb2_9, mb2_10, ms11_2, ms11_3, ms11_4, ms11_6, ms11_7, ms11_8, ms11_9, ms11_10, ms11_11, ms11_12, ms14_2, ms14_3, ms14_4, ms14_6, ms14_7, ms14_8, ms14_9, ms14_11, ms14_12, hlim, hlim1, hli] <;> try rfl
                    · simp only [go_sem, ↓reduceIte, c1_0, c1_1, e0_2, e0_3, e0_4, e0_6, e0_7, e0_8, e0_9, m3_2, m3_3, m3_4, m3_6, m3_7, m3_8, m3_9, m3_33, mb2_2, mb2_3, mb2_4, mb2_6, mb2_7, mb2_8, mb2_9, mb2_10, ms11_2, ms11_3, ms11_4, ms11_6, ms11_7, ms11_8, ms11_9, ms11_10, ms11_11, ms11_12, ms14_2, ms14_3, ms14_4, ms14_6, ms14_7, ms14_8, ms14_9, ms14_11, ms14_12, hlim, hlim1, hli] <;> try rfl
                    · simp only [go_sem, ↓reduceIte, c1_0, c1_1, e0_2, e0_3, e0_4, e0_6, e0_7, e0_8, e0_9, m3_2, m3_3, m3_4, m3_6, m3_7, m3_8, m3_9, m3_33, mb2_2, mb2_3, mb2_4, mb2_6, mb2_7, mb2_8, mb2_9, mb2_10, ms11_2, ms11_3, ms11_4, ms11_6, ms11_7, ms11_8, ms11_9, ms11_10, ms11_11, ms11_12, ms14_2, ms14_3, ms14_4, ms14_6, ms14_7, ms14_8, ms14_9, ms14_11, ms14_12, hlim, hlim1, hli] <;> try rfl
          ·
            refine aw_exit ?_
            refine athen_exit.2 ?_
            refine athen_exit.2 ?_
            refine ablock_here ?_
            refine athen_normal.2 ?_
            by_cases c19 : out = []
            ·
              have htv : tv = .base (.slice none 0 0) := by
                rcases hp0_3 with ⟨_, h⟩ | ⟨_, _, _, h, _⟩
                · exact h
                · exact absurd c19 h
              subst htv
              have hl1 : l.drop i = [] := List.drop_of_length_le (by omega)
              have hl2 : l'.drop j = [] := List.drop_of_length_le (by omega)
              rw [hl1, hl2, mergeL_nn] at hp0_2
              refine aw_sreg {} rfl rfl fun K KP hK hP => ?_
              simp only [go_sem, ↓reduceIte, c1_0, c1_1, e0_2, e0_3, e0_4, e0_6, e0_7, e0_8, e0_9, m3_2, m3_3, m3_4, m3_6, m3_7, m3_8, m3_9, m3_33, c19]
              apply hK; clear hK hP
              refine aw_ret ?_
              simp only [go_sem, ↓reduceIte, c1_0, c1_1, e0_2, e0_3, e0_4, e0_6, e0_7, e0_8, e0_9, m3_2, m3_3, m3_4, m3_6, m3_7, m3_8, m3_9, m3_33, c19, athen_ret] <;> (
                rw [hplus, hp0_2]
                simp [outS, c19, termsA, go_sem])
            ·
              obtain ⟨pre, nm, rest, hne, htv, hσ⟩ : ∃ pre nm rest, out ≠ [] ∧ tv = .sref (pre.length + 1 + 1) nm 5 0 out.length ∧ σr = pre ++ (nm, .gvec 5 68 (out.map Pt.row)) :: rest := hp0_3.resolve_left fun h => c19 h.1
              subst htv
              have hs2 : ∀ (a b : Nat × AObj), sget (a :: b :: σr) (pre.length + 1 + 1) nm = some (.gvec 5 68 (out.map Pt.row)) := by
                intro a b; rw [hσ]; simp [sget]
              have hl1 : l.drop i = [] := List.drop_of_length_le (by omega)
              have hl2 : l'.drop j = [] := List.drop_of_length_le (by omega)
              rw [hl1, hl2, mergeL_nn] at hp0_2
              refine aw_sreg {} rfl rfl fun K KP hK hP => ?_
              simp only [go_sem, ↓reduceIte, c1_0, c1_1, e0_2, e0_3, e0_4, e0_6, e0_7, e0_8, e0_9, m3_2, m3_3, m3_4, m3_6, m3_7, m3_8, m3_9, m3_33, c19]
              apply hK; clear hK hP
              refine aw_ret ?_
              simp only [go_sem, ↓reduceIte, c1_0, c1_1, e0_2, e0_3, e0_4, e0_6, e0_7, e0_8, e0_9, m3_2, m3_3, m3_4, m3_6, m3_7, m3_8, m3_9, m3_33, c19, athen_ret, hs2, List.length_map] <;> (
                rw [hplus, hp0_2]
                have ht : termsA true (out.map Pt.row) = .vec 5 (out.map Pt.row) := by cases out with | nil => exact absurd rfl c19 | cons => rfl
                simp [outS, ht, go_sem])
      ·
        refine ⟨_, 0, 0, [], .base (.slice none 0 0), [], ?_, ?_, ?_, ?_, ?_, rfl, ?_, ?_, ?_, ?_, ?_, ?_, ?_, ?_⟩
        · first | omega | trivial | assumption
        · first | omega | trivial | assumption
        · simp
        · exact .inl ⟨rfl, rfl⟩
        · simp
        · first | rfl | (simp only [go_sem, ↓reduceIte, c1_0, c1_1])
        · simp only [go_sem, ↓reduceIte, c1_0, c1_1] <;> try rfl
        · simp only [go_sem, ↓reduceIte, c1_0, c1_1] <;> try rfl
        · simp only [go_sem, ↓reduceIte, c1_0, c1_1] <;> try rfl
        · simp only [go_sem, ↓reduceIte, c1_0, c1_1] <;> try rfl
        · simp only [go_sem, ↓reduceIte, c1_0, c1_1] <;> try rfl
        · simp only [go_sem, ↓reduceIte, c1_0, c1_1] <;> try rfl
        · simp only [go_sem, ↓reduceIte, c1_0, c1_1] <;> try rfl
end Go.Ab
