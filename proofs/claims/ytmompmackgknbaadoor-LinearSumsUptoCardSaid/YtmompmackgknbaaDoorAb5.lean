/-
  'fop' IS SOUND, part two: slices written out, addresses, fields, parts of strings and slices, arithmetic.
-/
import Derived.Test.YtmompmackgknbaaDoorAb4
set_option linter.unusedVariables false
set_option linter.unusedSimpArgs false
namespace Go.Ab
open Go Go.RowKit

theorem splice_get {α : Type} (l new : List α) (off k : Nat) (h : off + new.length ≤ l.length) :
    (l.take off ++ (new ++ l.drop (off + new.length)))[k]? = if off ≤ k ∧ k < off + new.length then new[k - off]? else l[k]? := by
  have hlt : (l.take off).length = off := by simp; omega
  by_cases h1 : k < off
  · rw [List.getElem?_append_left (by omega), if_neg (by omega), List.getElem?_take, if_pos h1]
  · rw [List.getElem?_append_right (by omega), hlt]
    by_cases h2 : k < off + new.length
    · rw [List.getElem?_append_left (by omega), if_pos ⟨by omega, h2⟩]
    · rw [List.getElem?_append_right (by omega), if_neg (by omega), List.getElem?_drop]
      congr 1; omega
theorem splice_len {α : Type} (l new : List α) (off : Nat) (h : off + new.length ≤ l.length) : (l.take off ++ (new ++ l.drop (off + new.length))).length = l.length := by
  simp; omega

/-- Rows of one width, laid one behind the other. -/
def Flat (kn : Kn) (m : Mp) (sz : Nat) (rows : List (List AV)) (cells : List Value) : Prop :=
  (∀ (i : Nat) (row : List AV), rows[i]? = some row → row.length = sz) ∧ (∀ (i : Nat) (row : List AV) (j : Nat) (x : AV) (v : Value), rows[i]? = some row → row[j]? = some x → cells[i * sz + j]? = some v → Rel kn m x v) ∧ ∀ v ∈ cells, v.oneCell' = true

theorem idx_lt {i j sz n : Nat} (hi : i < n) (hj : j < sz) : i * sz + j < n * sz := by
  have : (i + 1) * sz ≤ n * sz := Nat.mul_le_mul_right _ hi
  rw [Nat.succ_mul] at this; omega
theorem idx_inj {i i' j sz : Nat} (hj : j < sz) (h1 : i * sz ≤ i' * sz + j) (h2 : i' * sz + j < i * sz + sz) : i' = i := by
  rcases Nat.lt_trichotomy i' i with h | h | h
  · have := Nat.mul_le_mul_right sz (show i' + 1 ≤ i from h); rw [Nat.succ_mul] at this; omega
  · exact h
  · have := Nat.mul_le_mul_right sz (show i + 1 ≤ i' from h); rw [Nat.succ_mul] at this; omega

theorem Flat.set {kn : Kn} {m : Mp} {sz : Nat} {rows : List (List AV)} {cells : List Value} (h : Flat kn m sz rows cells) (hl : cells.length = rows.length * sz) {i : Nat} (hi : i < rows.length) {cs : List AV} {vs : List Value}
    (hv : RelC kn m cs vs) (hcs : cs.length = sz) : Flat kn m sz (rows.set i cs) (cells.take (i * sz) ++ (vs ++ cells.drop (i * sz + vs.length))) := by
  have hvl : vs.length = sz := by rw [← hv.1.1]; exact hcs
  have hfit : i * sz + vs.length ≤ cells.length := by
    rw [hl, hvl]; have := Nat.mul_le_mul_right sz (show i + 1 ≤ rows.length from hi); rw [Nat.succ_mul] at this; exact this
  refine ⟨fun k row hk => ?_, fun k row j x v hk hj hc => ?_, fun v hm => ?_⟩
  · rw [List.getElem?_set] at hk
    split at hk
    · cases hk; exact hcs
    · exact h.1 k row hk
  · rw [splice_get _ _ _ _ hfit] at hc
    rw [List.getElem?_set] at hk
    split at hk
    · rename_i hik
      subst hik
      cases hk
      have hjl : j < sz := by rw [← hcs]; exact (List.getElem?_eq_some_iff.1 hj).1
      rw [if_pos ⟨by omega, by omega⟩, show i * sz + j - i * sz = j by omega] at hc
      exact hv.1.2 j x v hj hc
    · rename_i hik
      have hjl : j < sz := by rw [← h.1 k row hk]; exact (List.getElem?_eq_some_iff.1 hj).1
      rw [if_neg (fun hh => hik (idx_inj hjl hh.1 (by omega)).symm)] at hc
      exact h.2.1 k row j x v hk hj hc
  · rcases List.mem_append.1 hm with hm | hm
    · exact h.2.2 v (List.mem_of_mem_take hm)
    · rcases List.mem_append.1 hm with hm | hm
      · exact hv.2 v hm
      · exact h.2.2 v (List.mem_of_mem_drop hm)

theorem rows_sound {kn : Kn} {m : Mp} (sz : Nat) : ∀ (parts : List (Nat × AV)) (parts' : List (Nat × Value)) (rows out : List (List AV)) (cells : List Value), rowsA sz rows parts = some out →
    parts.length = parts'.length → (∀ (i : Nat) (p : Nat × AV) (p' : Nat × Value), parts[i]? = some p → parts'[i]? = some p' → p.1 = p'.1 ∧ Rel kn m p.2 p'.2) → Flat kn m sz rows cells → cells.length = rows.length * sz →
    ∃ out' : Array Value, Instr.fill (fun i => some (i * sz, sz)) cells.toArray parts' = some out' ∧ Flat kn m sz out out'.toList ∧ out'.size = out.length * sz ∧ out.length = rows.length
  | [], parts', rows, out, cells, h, hl, hp, hf, hc => by
    have : parts' = [] := List.eq_nil_of_length_eq_zero (by simpa using hl.symm)
    subst this
    simp only [rowsA, Option.some.injEq] at h
    subst h
    exact ⟨cells.toArray, rfl, by simpa using hf, by simpa using hc, rfl⟩
  | (i, x) :: rest, [], rows, out, cells, h, hl, hp, hf, hc => by simp at hl
  | (i, x) :: rest, (i', v) :: rest', rows, out, cells, h, hl, hp, hf, hc => by
    obtain ⟨e, hx⟩ := hp 0 _ _ rfl rfl
    simp only at e hx
    subst e
    simp only [rowsA] at h
    split at h
    · rename_i cs hcs
      split at h
      · rename_i hok
        have hv := hx.cells hcs
        have hvl : v.cells.size = sz := by rw [← Array.length_toList, ← hv.1.1]; exact hok.1
        have hfit : i * sz + v.cells.toList.length ≤ cells.length := by
          rw [hc, Array.length_toList, hvl]; have := Nat.mul_le_mul_right sz (show i + 1 ≤ rows.length from hok.2); rw [Nat.succ_mul] at this; exact this
        have hput := put_cells cells v.cells.toList (i * sz) hfit
        have hset := hf.set hc hok.2 hv hok.1
        rw [← hput] at hset
        have hlen : ((v.cells.toList.toArray.zipIdx.foldl (fun cs (p : Value × Nat) => cs.setIfInBounds (i * sz + p.2) p.1) cells.toArray).toList).length = (rows.set i cs).length * sz := by
          rw [hput, splice_len _ _ _ hfit, hc, List.length_set]
        obtain ⟨out', h1, h2, h3, h4⟩ := rows_sound sz rest rest' _ out _ h (by simpa using hl) (fun j p p' a b => hp (j + 1) p p' (by simpa using a) (by simpa using b)) hset hlen
        refine ⟨out', ?_, h2, h3, by simpa using h4⟩
        simp only [Instr.fill]
        rw [if_neg (by simp only [Bool.or_eq_true, decide_eq_true_eq, not_or, bne_iff_ne, ne_eq]; simp at hfit ⊢; omega)]
        simpa using h1
      · cases h
    · cases h

section
variable {C : Cx} {B : Base} {kn : Kn} {m : Mp} {σ : Sto} {nx : Nat} {w : World}

theorem elm_sound {t e sz by_ : Nat} (h : elmT C.P t = some (e, sz, by_)) : C.P.underlying t = some (.slice e) ∧ szT C.P e = some sz ∧ ∃ i, C.P.info? e = some i ∧ i.size = sz ∧ i.bytes = by_ := by
  unfold elmT at h
  split at h
  · rename_i e' hu
    split at h
    · rename_i i hi
      cases h
      exact ⟨hu, by simp [szT, hi], i, hi, rfl, rfl⟩
    · cases h
  · cases h

theorem flat_replicate {kn : Kn} {m : Mp} (z : List AV) (zv : Array Value) (hz : RelC kn m z zv.toList) (len : Nat) :
    Flat kn m zv.size (List.replicate len z) ((Array.range (len * zv.size)).map (zv[· % zv.size]!)).toList := by
  have hzl : z.length = zv.size := by simpa using hz.1.1
  refine ⟨fun i row hi => ?_, fun i row j x v hi hj hc => ?_, fun v hv => ?_⟩
  · rw [List.getElem?_replicate] at hi
    split at hi
    · cases hi; exact hzl
    · cases hi
  · rw [List.getElem?_replicate] at hi
    split at hi
    · rename_i hlt
      cases hi
      have hjl : j < zv.size := by rw [← hzl]; exact (List.getElem?_eq_some_iff.1 hj).1
      have hlt2 := idx_lt hlt hjl
      have : ((Array.range (len * zv.size)).map (zv[· % zv.size]!)).toList[i * zv.size + j]? = some zv[j] := by
        have hmod : (i * zv.size + j) % zv.size = j := by rw [Nat.mul_add_mod_self_right, Nat.mod_eq_of_lt hjl]
        simp [hlt2, hmod, getElem!_pos, hjl]
      rw [this] at hc
      cases hc
      exact hz.1.2 j x _ hj (by simp [hjl])
    · cases hi
  · simp only [Array.toList_map, List.mem_map] at hv
    obtain ⟨k, hk, rfl⟩ := hv
    have hk' : k < len * zv.size := by simpa using hk
    have hpos : 0 < zv.size := Nat.pos_of_ne_zero (fun e => by rw [e] at hk'; simp at hk')
    have hlt := Nat.mod_lt k hpos
    rw [getElem!_pos zv (k % zv.size) hlt]
    exact hz.2 _ (by simp)

theorem gives_buildSlice (hI : Inv C B kn m σ nx w) {t len e sz by_ : Nat} {z : List AV} {rows : List (List AV)} {parts : List (Nat × AV)} {parts' : Array (Nat × Value)} (he : elmT C.P t = some (e, sz, by_)) (hz : zeroCells C.P e = some z)
    (hs0 : 0 < sz) (hzl : z.length = sz) (hlim : len * sz ≤ 16777216) (hr : rowsA sz (List.replicate len z) parts = some rows) (hl : parts.length = parts'.size)
    (hp : ∀ (i : Nat) (p : Nat × AV) (p' : Nat × Value), parts[i]? = some p → parts'[i]? = some p' → p.1 = p'.1 ∧ Rel kn m p.2 p'.2) :
    ∃ arr, (Instr.buildSlice t len parts').run C.P w = .ok (.slice (some ⟨w.heap.size, 0, none⟩) len len) (w.alloc (.cells arr e)) ∧ Flat kn m sz rows arr.toList ∧ arr.size = len * sz ∧ rows.length = len := by
  obtain ⟨hu, hsz, i, hi, hs1, hs2⟩ := elm_sound he
  obtain ⟨i', zv, hi', hzv, rfl, hzr⟩ := zero_sound hz kn m
  rw [hi] at hi'; cases hi'
  have hzs : zv.cells.size = sz := by rw [← Array.length_toList, ← hzr.1.1]; exact hzl
  have hfl := flat_replicate _ _ hzr len
  rw [hzs] at hfl
  obtain ⟨out, h1, h2, h3, h4⟩ := rows_sound sz parts parts'.toList _ rows _ hr (by simpa using hl) (fun j p p' a b => hp j p p' a (by simpa using b)) hfl (by simp)
  have h4 : rows.length = len := by simpa using h4
  rw [Array.toArray_toList] at h1
  refine ⟨out, ?_, h2, by rw [h3, h4], h4⟩
  simp only [Instr.buildSlice, Sem.run_bind, run_underlying hu, Result.andThen_ok, run_sizeOf' hsz]
  rw [if_neg (by have h2 : (2 : Nat) ^ 24 = 16777216 := by decide
                 omega)]
  by_cases hz0 : len * sz = 0
  · have hlen : len = 0 := by rcases Nat.mul_eq_zero.1 hz0 with h | h <;> omega
    subst hlen
    simp only [Nat.zero_mul, if_true]
    simp only [Nat.zero_mul] at h1
    have e1 : (Array.range 0).map ((#[] : Array Value)[· % (#[] : Array Value).size]!) = (Array.range 0).map (zv.cells[· % sz]!) := by simp
    rw [Sem.run_bind, Sem.run_pure, Result.andThen_ok, e1, h1]
    rfl
  · rw [if_neg hz0]
    simp only [zeroValue, typeInfo, run_program, Sem.run_bind, Result.andThen_ok, hi, Sem.run_pure, hzv, hzs, h1]
    rfl

theorem gives_vec (hI : Inv C B kn m σ nx w) {e sz len : Nat} {rows : List (List AV)} {arr : Array Value} (hf : Flat kn m sz rows arr.toList) (ha : arr.size = len * sz) (hr : rows.length = len) (hs0 : 0 < sz) (hm62 : len ≤ 2 ^ 62) {r : Result Value}
    (h : r = .ok (.slice (some ⟨w.heap.size, 0, none⟩) len len) (w.alloc (.cells arr e))) : Gives C B kn m σ nx (.vec sz rows) r := by
  obtain ⟨hk, hI'⟩ := hI.box arr e
  refine ⟨_, _, _, h, hk, ?_, hI'⟩
  subst hr
  refine .vec sz rows w.heap.size 0 rows.length (fun i j => arr.getD (i * sz + j) undef) (Nat.le_refl _) hm62 hf.1 (fun i row j x hi hj => ?_) (fun i row j x hi hj => ?_) (fun i row j x hi hj => ?_)
  · have hjl : j < sz := by rw [← hf.1 i row hi]; exact (List.getElem?_eq_some_iff.1 hj).1
    have hlt : i * sz + j < arr.size := by rw [ha]; exact idx_lt (List.getElem?_eq_some_iff.1 hi).1 hjl
    simp [knPut, hlt]
  · have hjl : j < sz := by rw [← hf.1 i row hi]; exact (List.getElem?_eq_some_iff.1 hj).1
    have hlt : i * sz + j < arr.size := by rw [ha]; exact idx_lt (List.getElem?_eq_some_iff.1 hi).1 hjl
    refine (hf.2.1 i row j x _ hi hj ?_).mono hk (MpLe.refl m)
    simp [hlt]
  · have hjl : j < sz := by rw [← hf.1 i row hi]; exact (List.getElem?_eq_some_iff.1 hj).1
    have hlt : i * sz + j < arr.size := by rw [ha]; exact idx_lt (List.getElem?_eq_some_iff.1 hi).1 hjl
    exact hf.2.2 _ (by simp [hlt])

/-! ### Addresses and parts -/
theorem fld_sound {s f off sz : Nat} {ag : Bool} (h : fldT C.P s f = some (off, sz, ag)) : ∃ fs x, C.P.underlying s = some (.struct fs) ∧ fs[f]? = some x ∧ x.offset = off ∧ szT C.P x.type = some sz ∧ aggT C.P x.type = some ag := by
  unfold fldT at h
  split at h
  · rename_i fs hu
    split at h
    · rename_i x hx
      split at h
      · rename_i n a h1 h2
        cases h
        exact ⟨fs, x, hu, hx, rfl, h1, h2⟩
      · cases h
    · cases h
  · cases h

theorem gives_fieldAddr (hI : Inv C B kn m σ nx w) {s f : Nat} {a x : AV} {v : Value} (h : fadA C.P s f a = some x) (ha : Rel kn m a v) : Gives C B kn m σ nx x ((Instr.fieldAt s v f).run C.P w) := by
  unfold fadA at h
  split at h
  · rename_i off sz ag hf
    split at h
    · cases h
    · rename_i hs0
      obtain ⟨fs, fld, hu, hx, ho, hsz, hag⟩ := fld_sound hf
      have hrun : ∀ b o, v = .pointer (some ⟨b, o, none⟩) → (Instr.fieldAt s v f).run C.P w = .ok (.pointer (some ⟨b, o + off, none⟩)) w := by
        intro b o hv
        subst hv
        simp [Instr.fieldAt, run_underlying hu, hx, Instr.sureAddr, fieldPlace, run_sizeOf' hsz, hs0, add_mk, ho]
      cases ha with
      | rptr cs b o vals hk hr ho1 =>
        simp only [Option.some.injEq] at h
        subst h
        refine Gives.pure hI (hrun b o rfl) (.rptr _ b (o + off) (fun j => vals (off + j)) (fun j y hy => ?_) (fun j y hy => ?_) (fun j y hy => ?_))
        · rw [List.getElem?_drop] at hy; rw [Nat.add_assoc]; exact hk _ _ hy
        · rw [List.getElem?_drop] at hy; exact hr _ _ hy
        · rw [List.getElem?_drop] at hy; exact ho1 _ _ hy
      | ref p nm o loc hm =>
        simp only [Option.some.injEq] at h
        subst h
        refine Gives.pure hI (hrun _ _ rfl) ?_
        rw [Nat.add_assoc]
        exact .ref p nm (o + off) loc hm
      | eref p nm i o loc hm =>
        simp only [Option.some.injEq] at h
        subst h
        refine Gives.pure hI (hrun _ _ rfl) ?_
        rw [Nat.add_assoc]
        exact .eref p nm i (o + off) loc hm
      | _ => cases h
  · cases h

theorem gives_field (hI : Inv C B kn m σ nx w) {t f : Nat} {a x : AV} {v : Value} (h : fieldA C.P t f a = some x) (ha : Rel kn m a v) : Gives C B kn m σ nx x ((Instr.field t v f).run C.P w) := by
  unfold fieldA at h
  split at h
  · rename_i off sz cs hf
    split at h
    · rename_i hle
      cases h
      obtain ⟨fs, fld, hu, hx, ho, hsz, hag⟩ := fld_sound hf
      cases ha with
      | agg _ vs hl hr hr1 =>
        refine Gives.pure hI (u := .agg (vs.extract off (off + sz))) ?_ (.agg _ _ (by simp; omega) (fun j y u hy hu' => ?_) (fun j u hu' => ?_))
        · simp [Instr.field, run_underlying hu, hx, asAgg, Go.part, run_isAgg' hag, run_sizeOf' hsz, ho]
        · rw [List.getElem?_take] at hy
          split at hy
          · rename_i hj
            rw [List.getElem?_drop] at hy
            refine hr _ y u hy ?_
            rw [Array.getElem?_extract] at hu'
            split at hu'
            · exact hu'
            · cases hu'
          · cases hy
        · rw [Array.getElem?_extract] at hu'
          split at hu'
          · exact hr1 _ u hu'
          · cases hu'
    · cases h
  · rename_i off sz cs hf
    obtain ⟨fs, fld, hu, hx, ho, hsz, hag⟩ := fld_sound hf
    cases ha with
    | agg _ vs hl hr hr1 =>
      have hlt : off < vs.size := by rw [← hl]; exact (List.getElem?_eq_some_iff.1 h).1
      refine Gives.pure hI (u := vs[off]) ?_ (hr off x _ h (by simp [hlt]))
      simp [Instr.field, run_underlying hu, hx, asAgg, Go.part, run_isAgg' hag, ho, hlt]
  · cases h

theorem gives_indexAddr (hI : Inv C B kn m σ nx w) {t : Nat} {a i x : AV} {v iv : Value} (h : idxA C.P t a i = some x) (ha : Rel kn m a v) (hi : Rel kn m i iv) : Gives C B kn m σ nx x ((Instr.indexAt t v iv).run C.P w) := by
  unfold idxA at h
  cases hi with
  | int k n =>
    simp only at h
    split at h
    · rename_i e sz by_ he
      obtain ⟨hu, hsz, _⟩ := elm_sound he
      cases ha with
      | vecNil esz ad cap => simp at h; omega
      | vec esz rows b o cap vals hc hm hrow hk hr hr1 =>
        simp only [Option.ite_none_right_eq_some, Option.some.injEq] at h
        obtain ⟨⟨rfl, h0, h1⟩, rfl⟩ := h
        have hnl : n.toNat < rows.length := by omega
        have hrow' : rows[n.toNat]? = some (rows.getD n.toNat []) := by simp [hnl]
        refine Gives.pure hI (u := .pointer (some ⟨b, o + n.toNat * esz, none⟩)) ?_ (.rptr _ b _ (fun j => vals n.toNat j) (fun j y hy => hk _ _ _ _ hrow' hy) (fun j y hy => hr _ _ _ _ hrow' hy) (fun j y hy => hr1 _ _ _ _ hrow' hy))
        simp [Instr.indexAt, asIntOf, run_underlying hu, h0, h1, run_sizeOf' hsz, add_mk]
      | sref p nm esz off len loc hm he' hl hm' =>
        simp only [Option.ite_none_right_eq_some, Option.some.injEq] at h
        obtain ⟨⟨rfl, h0, h1⟩, rfl⟩ := h
        refine Gives.pure hI (u := .pointer (some ⟨loc.blk, loc.off + off * esz + n.toNat * esz, none⟩)) ?_ ?_
        · simp [Instr.indexAt, asIntOf, run_underlying hu, h0, h1, run_sizeOf' hsz, add_mk, he']
        · have := Rel.eref (kn := kn) p nm (off + n.toNat) 0 loc hm
          rw [he', Nat.add_mul, ← Nat.add_assoc, Nat.add_zero] at this
          exact this
      | _ => cases h
    · split at h
      · rename_i len e sz he
        split at h
        · rename_i hb
          have hu : C.P.underlying t = some (.array len e) ∧ szT C.P e = some sz := by
            unfold arrT at he
            split at he
            · rename_i n' e' hu
              split at he
              · rename_i s hs; cases he; exact ⟨hu, hs⟩
              · cases he
            · cases he
          have hrun : ∀ b o, v = .pointer (some ⟨b, o, none⟩) → (Instr.indexAt t v (.int k n)).run C.P w = .ok (.pointer (some ⟨b, o + n.toNat * sz, none⟩)) w := by
            intro b o hv
            subst hv
            simp [Instr.indexAt, asIntOf, run_underlying hu.1, Instr.sureAddr, hb.1, hb.2, run_sizeOf' hu.2, add_mk]
          cases ha with
          | rptr cs b o vals hk hr hr1 =>
            simp only [Option.some.injEq] at h
            subst h
            refine Gives.pure hI (hrun b o rfl) (.rptr _ b _ (fun j => vals (n.toNat * sz + j)) (fun j y hy => ?_) (fun j y hy => ?_) (fun j y hy => ?_))
            case refine_3 => rw [List.getElem?_drop] at hy; exact hr1 _ _ hy
            · rw [List.getElem?_drop] at hy; rw [Nat.add_assoc]; exact hk _ _ hy
            · rw [List.getElem?_drop] at hy; exact hr _ _ hy
          | ref p nm o loc hm =>
            simp only [Option.some.injEq] at h
            subst h
            refine Gives.pure hI (hrun _ _ rfl) ?_
            rw [Nat.add_assoc]
            exact .ref p nm _ loc hm
          | eref p nm i o loc hm =>
            simp only [Option.some.injEq] at h
            subst h
            refine Gives.pure hI (hrun _ _ rfl) ?_
            rw [Nat.add_assoc]
            exact .eref p nm i _ loc hm
          | _ => cases h
        · cases h
      · cases h
  | _ => cases h

theorem strT_sound {P : Program} {t : Nat} (h : strT P t = true) : P.underlying t = some .string := by
  unfold strT at h
  split at h
  · assumption
  · cases h

theorem gives_index (hI : Inv C B kn m σ nx w) {t : Nat} {a i x : AV} {v iv : Value} (h : indexA C.P t a i = some x) (ha : Rel kn m a v) (hi : Rel kn m i iv) : Gives C B kn m σ nx x ((Instr.index t v iv).run C.P w) := by
  unfold indexA at h
  split at h
  · rename_i l k n
    cases ha
    cases hi
    split at h
    · rename_i hs
      split at h
      · rename_i b hb
        cases h
        have hlt : n.toNat < l.length := (List.getElem?_eq_some_iff.1 hb).1
        refine Gives.pure hI (u := .int .u8 b.toNat) ?_ (.int _ _)
        have hu := strT_sound hs.1
        have hsz : (ByteArray.mk l.toArray).size = l.length := by simp [ByteArray.size]
        have : (ByteArray.mk l.toArray)[n.toNat]? = some b := by
          rw [ByteArray.getElem?_lt' _ _ (by rw [hsz]; exact hlt)]
          have := (List.getElem?_eq_some_iff.1 hb).2
          rw [← this]; rfl
        simp [Instr.index, asIntOf, run_underlying hu, hs.2, this]
      · cases h
    · cases h
  · cases h
end
end Go.Ab
