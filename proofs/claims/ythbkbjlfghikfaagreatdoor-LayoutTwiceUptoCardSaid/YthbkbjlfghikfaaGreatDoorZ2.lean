/-
  'fop' IS SOUND, the end.
-/
import Derived.Test.YthbkbjlfghikfaaGreatDoorZ1
import Derived.Laws.Concat
import Derived.Laws.IdiomStrings
import Derived.Laws.BytesString
import Derived.Laws.AppendOwn
set_option linter.unusedVariables false
set_option linter.unusedSimpArgs false
namespace Go.Ab
open Go Go.RowKit
section
variable {C : Cx} {B : Base} {kn : Kn} {m : Mp} {σ : Sto} {nx : Nat} {w : World}
def Gives (C : Cx) (B : Base) (kn : Kn) (m : Mp) (σ : Sto) (nx : Nat) (x : AV) (r : Result Value) : Prop :=
 ∃ u kn' w', r = .ok u w' ∧ KnLe kn kn' ∧ Rel kn' m x u ∧ Inv C B kn' m σ nx w'
theorem Gives.pure (hI : Inv C B kn m σ nx w) {x : AV} {u : Value} {r : Result Value} (hr : r = .ok u w) (hx : Rel kn m x u) : Gives C B kn m σ nx x r := ⟨u, kn, w, hr, KnLe.refl _, hx, hI⟩
theorem Gives.map {x y : AV} {r : Result Value} (h : Gives C B kn m σ nx x r) (hm : ∀ kn' u, Rel kn' m x u → Rel kn' m y u) : Gives C B kn m σ nx y r := by
 obtain ⟨u, kn', w', h1, h2, h3, h4⟩ := h
 exact ⟨u, kn', w', h1, h2, hm _ _ h3, h4⟩
theorem run_typeInfo' {t : TypeId} {i : TypeInfo} (h : C.P.info? t = some i) (w : World) : (typeInfo t).run C.P w = .ok i w := by simp [typeInfo, h]
theorem run_sizeOf' {t : TypeId} {n : Nat} (h : szT C.P t = some n) (w : World) : (sizeOf t).run C.P w = .ok n w := by
 unfold szT at h
 cases hi : C.P.info? t with
 | none => simp [hi] at h
 | some i => simp [hi] at h; simp [sizeOf, typeInfo, hi, h]
theorem run_isAgg' {t : TypeId} {b : Bool} (h : aggT C.P t = some b) (w : World) : (isAgg t).run C.P w = .ok b w := by
 unfold aggT at h
 cases hu : C.P.underlying t with
 | none => simp [hu] at h
 | some d =>
  simp only [hu, Option.map_some, Option.some.injEq] at h
  subst h
  unfold isAgg
  rw [Sem.run_bind, run_underlying hu w]
  cases d <;> rfl
theorem zero_sound {T : TypeId} {cs : List AV} (h : zeroCells C.P T = some cs) (kn : Kn) (m : Mp) : ∃ i z, C.P.info? T = some i ∧ i.zero = some z ∧ cs = z.cells.toList.map ofVal ∧ RelC kn m cs z.cells.toList := by
 unfold zeroCells at h
 cases hi : C.P.info? T with
 | none => simp [hi] at h
 | some i =>
  cases hz : i.zero with
  | none => simp [hi, hz] at h
  | some z =>
   simp only [hi, Option.bind_some, hz, Option.ite_none_right_eq_some, Option.some.injEq] at h
   refine ⟨i, z, rfl, hz, h.2.symm, ⟨?_, fun v hv => ?_⟩⟩
   ·rw [← h.2]
    refine ⟨by simp, fun j x v a b => ?_⟩
    rw [List.getElem?_map] at a
    rw [b] at a
    simp at a
    subst a
    exact ofVal_rel kn m v
   ·exact List.all_eq_true.1 h.1 v hv
theorem gives_box (hI : Inv C B kn m σ nx w) {x : AV} {v : Value} {cs : List AV} (hx : Rel kn m x v) (hc : cellsA x = some cs) (T : TypeId) :
  Gives C B kn m σ nx (.rptr cs) ((Instr.box T v).run C.P w) := by
 obtain ⟨hk, hI'⟩ := hI.box v.cells T
 have hrl := hx.cells hc
 refine ⟨_, _, _, rfl, hk, .rptr cs w.heap.size 0 (fun j => v.cells.getD j undef) (fun j y hy => ?_) (fun j y hy => ?_) (fun j y hy => ?_), hI'⟩
 ·have hj : j < v.cells.size := by have := hrl.1.1; have h2 := (List.getElem?_eq_some_iff.1 hy).1; simp at this; omega
  simp [knPut, hj]
 ·have hj : j < v.cells.size := by have := hrl.1.1; have h2 := (List.getElem?_eq_some_iff.1 hy).1; simp at this; omega
  refine (hrl.1.2 j y _ hy ?_).mono hk (MpLe.refl m)
  simp [hj]
 ·have hj : j < v.cells.size := by have := hrl.1.1; have h2 := (List.getElem?_eq_some_iff.1 hy).1; simp at this; omega
  exact hrl.2 _ (by simp [hj])
theorem mapM_places {fs : List Field} {pl : List (Nat × Nat)} (P : Program) (h : fs.mapM (fun x => (szT P x.type).map fun n => (x.offset, n)) = some pl) (w : World) :
  (fs.mapM (fun f : Field => (do pure (f.offset, ← sizeOf f.type) : Sem (Nat × Nat)))).run P w = .ok pl w := by
 induction fs generalizing pl with
 | nil => simp at h; subst h; rfl
 | cons f rest ih =>
  simp only [List.mapM_cons] at h ⊢
  cases hs : szT P f.type with
  | none => simp [hs] at h
  | some n =>
   simp only [hs, Option.map_some, Option.bind_eq_bind, Option.bind_some] at h
   cases hr : rest.mapM (fun x => (szT P x.type).map fun n => (x.offset, n)) with
   | none => simp [hr] at h
   | some pl' =>
    simp [hr] at h
    subst h
    have h1 : (sizeOf f.type).run P w = .ok n w := by
     unfold szT at hs
     cases hi : P.info? f.type with
     | none => simp [hi] at hs
     | some i => simp [hi] at hs; simp [sizeOf, typeInfo, hi, hs]
    simp only [Sem.run_bind, h1, Result.andThen_ok, Sem.run_pure, ih hr]
theorem gives_build (hI : Inv C B kn m σ nx w) {t : TypeId} {z cs : List AV} {pl : List (Nat × Nat)} {parts : List (Nat × AV)} {parts' : Array (Nat × Value)} (hz : zeroCells C.P t = some z) (hb : bldT C.P t = some pl)
  (hf : fillA (pl[·]?) z parts = some cs) (hl : parts.length = parts'.size)
  (hp : ∀ (i : Nat) (p : Nat × AV) (p' : Nat × Value), parts[i]? = some p → parts'[i]? = some p' → p.1 = p'.1 ∧ Rel kn m p.2 p'.2) :
  Gives C B kn m σ nx (.agg cs) ((Instr.build t parts').run C.P w) := by
 obtain ⟨i, zv, hi, hzv, rfl, hzr⟩ := zero_sound hz kn m
 obtain ⟨out, h1, h2⟩ := fill_sound (pl[·]?) parts parts'.toList _ cs _ hf (by simpa using hl) (fun j p p' a b => hp j p p' a (by simpa using b)) hzr
 have h1' : Instr.fill (fun i => pl[i]?) zv.cells parts'.toList = some out := by simpa using h1
 unfold bldT at hb
 cases hu : C.P.underlying t with
 | none => simp [hu] at hb
 | some d =>
  cases d with
  | struct fs =>
   simp only [hu] at hb
   have hm := mapM_places C.P hb w
   have hm2 : (fs.mapM (fun f : Field => (do pure (f.offset, ← sizeOf f.type) : Sem (Nat × Nat)))).run C.P w = .ok pl.toArray w := by
    rw [Array.mapM_eq_mapM_toList]
    simp only [Sem.run_map, hm, Result.andThen_ok]
   refine Gives.pure hI (u := .agg out) ?_ (.agg _ _ (by simpa using h2.1.1) (fun j x v a b => h2.1.2 j x v a (by simpa using b)) (fun j v a => h2.2 v (List.mem_of_getElem? (by simpa using a))))
   simp only [Instr.build, zeroValue, typeInfo, run_program, Sem.run_bind, Result.andThen_ok, hi, hzv, Sem.run_pure, run_underlying hu]
   rw [hm2]
   simp only [Result.andThen_ok]
   have e : (fun (i : Nat) => pl.toArray[i]?) = fun (i : Nat) => pl[i]? := by funext i; simp
   rw [e, h1']
   rfl
  | array n e =>
   simp only [hu] at hb
   cases hs : szT C.P e with
   | none => simp [hs] at hb
   | some s =>
    simp only [hs, Option.map_some, Option.some.injEq] at hb
    have hfill : ∀ (parts : List (Nat × Value)) (cells out : Array Value), Instr.fill (fun (i : Nat) => pl[i]?) cells parts = some out → Instr.fill (fun (i : Nat) => some (i * s, s)) cells parts = some out := by
     intro parts
     induction parts with
     | nil => intro cells out h; simpa [Instr.fill] using h
     | cons p rest ih =>
      obtain ⟨j, v⟩ := p
      intro cells out h
      simp only [Instr.fill] at h ⊢
      cases hpj : pl[j]? with
      | none => simp [hpj] at h
      | some os =>
       obtain ⟨o, s'⟩ := os
       simp only [hpj] at h
       have : o = j * s ∧ s' = s := by
        rw [← hb, List.getElem?_map] at hpj
        cases hr : (List.range n)[j]? with
        | none => simp [hr] at hpj
        | some j' =>
         have hjl : j < n := by
          have := (List.getElem?_eq_some_iff.1 hr).1
          simpa using this
         rw [List.getElem?_range hjl] at hr
         cases hr
         rw [List.getElem?_range hjl] at hpj
         simp at hpj
         exact ⟨hpj.1.symm, hpj.2.symm⟩
       obtain ⟨rfl, rfl⟩ := this
       split at h
       ·cases h
       ·rename_i hc
        rw [if_neg hc]
        exact ih _ _ h
    have h1'' := hfill _ _ _ h1'
    refine Gives.pure hI (u := .agg out) ?_ (.agg _ _ (by simpa using h2.1.1) (fun j x v a b => h2.1.2 j x v a (by simpa using b)) (fun j v a => h2.2 v (List.mem_of_getElem? (by simpa using a))))
    simp only [Instr.build, zeroValue, typeInfo, run_program, Sem.run_bind, Result.andThen_ok, hi, hzv, Sem.run_pure, run_underlying hu, run_sizeOf' hs, h1'']
  | _ => simp [hu] at hb
end
end Go.Ab

namespace Go.Ab
open Go Go.RowKit
theorem splice_get {α : Type} (l new : List α) (off k : Nat) (h : off + new.length ≤ l.length) :
  (l.take off ++ (new ++ l.drop (off + new.length)))[k]? = if off ≤ k ∧ k < off + new.length then new[k - off]? else l[k]? := by
 have hlt : (l.take off).length = off := by simp; omega
 by_cases h1 : k < off
 ·rw [List.getElem?_append_left (by omega), if_neg (by omega), List.getElem?_take, if_pos h1]
 ·rw [List.getElem?_append_right (by omega), hlt]
  by_cases h2 : k < off + new.length
  ·rw [List.getElem?_append_left (by omega), if_pos ⟨by omega, h2⟩]
  ·rw [List.getElem?_append_right (by omega), if_neg (by omega), List.getElem?_drop]
   congr 1; omega
theorem splice_len {α : Type} (l new : List α) (off : Nat) (h : off + new.length ≤ l.length) : (l.take off ++ (new ++ l.drop (off + new.length))).length = l.length := by
 simp; omega
def Flat (kn : Kn) (m : Mp) (sz : Nat) (rows : List (List AV)) (cells : List Value) : Prop :=
 (∀ (i : Nat) (row : List AV), rows[i]? = some row → row.length = sz) ∧ (∀ (i : Nat) (row : List AV) (j : Nat) (x : AV) (v : Value), rows[i]? = some row → row[j]? = some x → cells[i * sz + j]? = some v → Rel kn m x v) ∧ ∀ v ∈ cells, v.oneCell' = true
theorem idx_lt {i j sz n : Nat} (hi : i < n) (hj : j < sz) : i * sz + j < n * sz := by
 have : (i + 1) * sz ≤ n * sz := Nat.mul_le_mul_right _ hi
 rw [Nat.succ_mul] at this; omega
theorem idx_inj {i i' j sz : Nat} (hj : j < sz) (h1 : i * sz ≤ i' * sz + j) (h2 : i' * sz + j < i * sz + sz) : i' = i := by
 rcases Nat.lt_trichotomy i' i with h | h | h
 ·have := Nat.mul_le_mul_right sz (show i' + 1 ≤ i from h); rw [Nat.succ_mul] at this; omega
 ·exact h
 ·have := Nat.mul_le_mul_right sz (show i + 1 ≤ i' from h); rw [Nat.succ_mul] at this; omega
theorem Flat.set {kn : Kn} {m : Mp} {sz : Nat} {rows : List (List AV)} {cells : List Value} (h : Flat kn m sz rows cells) (hl : cells.length = rows.length * sz) {i : Nat} (hi : i < rows.length) {cs : List AV} {vs : List Value}
  (hv : RelC kn m cs vs) (hcs : cs.length = sz) : Flat kn m sz (rows.set i cs) (cells.take (i * sz) ++ (vs ++ cells.drop (i * sz + vs.length))) := by
 have hvl : vs.length = sz := by rw [← hv.1.1]; exact hcs
 have hfit : i * sz + vs.length ≤ cells.length := by
  rw [hl, hvl]; have := Nat.mul_le_mul_right sz (show i + 1 ≤ rows.length from hi); rw [Nat.succ_mul] at this; exact this
 refine ⟨fun k row hk => ?_, fun k row j x v hk hj hc => ?_, fun v hm => ?_⟩
 ·rw [List.getElem?_set] at hk
  split at hk
  ·cases hk; exact hcs
  ·exact h.1 k row hk
 ·rw [splice_get _ _ _ _ hfit] at hc
  rw [List.getElem?_set] at hk
  split at hk
  ·rename_i hik
   subst hik
   cases hk
   have hjl : j < sz := by rw [← hcs]; exact (List.getElem?_eq_some_iff.1 hj).1
   rw [if_pos ⟨by omega, by omega⟩, show i * sz + j - i * sz = j by omega] at hc
   exact hv.1.2 j x v hj hc
  ·rename_i hik
   have hjl : j < sz := by rw [← h.1 k row hk]; exact (List.getElem?_eq_some_iff.1 hj).1
   rw [if_neg (fun hh => hik (idx_inj hjl hh.1 (by omega)).symm)] at hc
   exact h.2.1 k row j x v hk hj hc
 ·rcases List.mem_append.1 hm with hm | hm
  ·exact h.2.2 v (List.mem_of_mem_take hm)
  ·rcases List.mem_append.1 hm with hm | hm
   ·exact hv.2 v hm
   ·exact h.2.2 v (List.mem_of_mem_drop hm)
theorem rows_sound {kn : Kn} {m : Mp} (sz : Nat) : ∀ (parts : List (Nat × AV)) (parts' : List (Nat × Value)) (rows out : List (List AV)) (cells : List Value), rowsA sz rows parts = some out →
  parts.length = parts'.length → (∀ (i : Nat) (p : Nat × AV) (p' : Nat × Value), parts[i]? = some p → parts'[i]? = some p' → p.1 = p'.1 ∧ Rel kn m p.2 p'.2) → Flat kn m sz rows cells → cells.length = rows.length * sz →
  ∃ out' : Array Value, Instr.fill (fun i => some (i * sz, sz)) cells.toArray parts' = some out' ∧ Flat kn m sz out out'.toList ∧ out'.size = out.length * sz ∧ out.length = rows.length
 | [], parts', rows, out, cells, h, hl, hp, hf, hc => by
  have : parts' = [] := List.eq_nil_of_length_eq_zero (by simpa using hl.symm)
  subst this
  simp only [rowsA, Option.some.injEq] at h
  subst h
  exact ⟨cells.toArray, rfl, by simpa using hf, by simpa using hc, rfl⟩
 | (i, x) :: rest, [], rows, out, cells, h, hl, hp, hf, hc => by simp at hl
 | (i, x) :: rest, (i', v) :: rest', rows, out, cells, h, hl, hp, hf, hc => by
  obtain ⟨e, hx⟩ := hp 0 _ _ rfl rfl
  simp only at e hx
  subst e
  simp only [rowsA] at h
  split at h
  ·rename_i cs hcs
   split at h
   ·rename_i hok
    have hv := hx.cells hcs
    have hvl : v.cells.size = sz := by rw [← Array.length_toList, ← hv.1.1]; exact hok.1
    have hfit : i * sz + v.cells.toList.length ≤ cells.length := by
     rw [hc, Array.length_toList, hvl]; have := Nat.mul_le_mul_right sz (show i + 1 ≤ rows.length from hok.2); rw [Nat.succ_mul] at this; exact this
    have hput := put_cells cells v.cells.toList (i * sz) hfit
    have hset := hf.set hc hok.2 hv hok.1
    rw [← hput] at hset
    have hlen : ((v.cells.toList.toArray.zipIdx.foldl (fun cs (p : Value × Nat) => cs.setIfInBounds (i * sz + p.2) p.1) cells.toArray).toList).length = (rows.set i cs).length * sz := by
     rw [hput, splice_len _ _ _ hfit, hc, List.length_set]
    obtain ⟨out', h1, h2, h3, h4⟩ := rows_sound sz rest rest' _ out _ h (by simpa using hl) (fun j p p' a b => hp (j + 1) p p' (by simpa using a) (by simpa using b)) hset hlen
    refine ⟨out', ?_, h2, h3, by simpa using h4⟩
    simp only [Instr.fill]
    rw [if_neg (by simp only [Bool.or_eq_true, decide_eq_true_eq, not_or, bne_iff_ne, ne_eq]; simp at hfit ⊢; omega)]
    simpa using h1
   ·cases h
  ·cases h
section
variable {C : Cx} {B : Base} {kn : Kn} {m : Mp} {σ : Sto} {nx : Nat} {w : World}
theorem elm_sound {t e sz by_ : Nat} (h : elmT C.P t = some (e, sz, by_)) : C.P.underlying t = some (.slice e) ∧ szT C.P e = some sz ∧ ∃ i, C.P.info? e = some i ∧ i.size = sz ∧ i.bytes = by_ := by
 unfold elmT at h
 split at h
 ·rename_i e' hu
  split at h
  ·rename_i i hi
   cases h
   exact ⟨hu, by simp [szT, hi], i, hi, rfl, rfl⟩
  ·cases h
 ·cases h
theorem flat_replicate {kn : Kn} {m : Mp} (z : List AV) (zv : Array Value) (hz : RelC kn m z zv.toList) (len : Nat) :
  Flat kn m zv.size (List.replicate len z) ((Array.range (len * zv.size)).map (zv[· % zv.size]!)).toList := by
 have hzl : z.length = zv.size := by simpa using hz.1.1
 refine ⟨fun i row hi => ?_, fun i row j x v hi hj hc => ?_, fun v hv => ?_⟩
 ·rw [List.getElem?_replicate] at hi
  split at hi
  ·cases hi; exact hzl
  ·cases hi
 ·rw [List.getElem?_replicate] at hi
  split at hi
  ·rename_i hlt
   cases hi
   have hjl : j < zv.size := by rw [← hzl]; exact (List.getElem?_eq_some_iff.1 hj).1
   have hlt2 := idx_lt hlt hjl
   have : ((Array.range (len * zv.size)).map (zv[· % zv.size]!)).toList[i * zv.size + j]? = some zv[j] := by
    have hmod : (i * zv.size + j) % zv.size = j := by rw [Nat.mul_add_mod_self_right, Nat.mod_eq_of_lt hjl]
    simp [hlt2, hmod, getElem!_pos, hjl]
   rw [this] at hc
   cases hc
   exact hz.1.2 j x _ hj (by simp [hjl])
  ·cases hi
 ·simp only [Array.toList_map, List.mem_map] at hv
  obtain ⟨k, hk, rfl⟩ := hv
  have hk' : k < len * zv.size := by simpa using hk
  have hpos : 0 < zv.size := Nat.pos_of_ne_zero (fun e => by rw [e] at hk'; simp at hk')
  have hlt := Nat.mod_lt k hpos
  rw [getElem!_pos zv (k % zv.size) hlt]
  exact hz.2 _ (by simp)
theorem gives_buildSlice (hI : Inv C B kn m σ nx w) {t len e sz by_ : Nat} {z : List AV} {rows : List (List AV)} {parts : List (Nat × AV)} {parts' : Array (Nat × Value)} (he : elmT C.P t = some (e, sz, by_)) (hz : zeroCells C.P e = some z)
  (hs0 : 0 < sz) (hzl : z.length = sz) (hlim : len * sz ≤ 16777216) (hr : rowsA sz (List.replicate len z) parts = some rows) (hl : parts.length = parts'.size)
  (hp : ∀ (i : Nat) (p : Nat × AV) (p' : Nat × Value), parts[i]? = some p → parts'[i]? = some p' → p.1 = p'.1 ∧ Rel kn m p.2 p'.2) :
  ∃ arr, (Instr.buildSlice t len parts').run C.P w = .ok (.slice (some ⟨w.heap.size, 0, none⟩) len len) (w.alloc (.cells arr e)) ∧ Flat kn m sz rows arr.toList ∧ arr.size = len * sz ∧ rows.length = len := by
 obtain ⟨hu, hsz, i, hi, hs1, hs2⟩ := elm_sound he
 obtain ⟨i', zv, hi', hzv, rfl, hzr⟩ := zero_sound hz kn m
 rw [hi] at hi'; cases hi'
 have hzs : zv.cells.size = sz := by rw [← Array.length_toList, ← hzr.1.1]; exact hzl
 have hfl := flat_replicate _ _ hzr len
 rw [hzs] at hfl
 obtain ⟨out, h1, h2, h3, h4⟩ := rows_sound sz parts parts'.toList _ rows _ hr (by simpa using hl) (fun j p p' a b => hp j p p' a (by simpa using b)) hfl (by simp)
 have h4 : rows.length = len := by simpa using h4
 rw [Array.toArray_toList] at h1
 refine ⟨out, ?_, h2, by rw [h3, h4], h4⟩
 simp only [Instr.buildSlice, Sem.run_bind, run_underlying hu, Result.andThen_ok, run_sizeOf' hsz]
 rw [if_neg (by have h2 : (2 : Nat) ^ 24 = 16777216 := by decide
                omega)]
 by_cases hz0 : len * sz = 0
 ·have hlen : len = 0 := by rcases Nat.mul_eq_zero.1 hz0 with h | h <;> omega
  subst hlen
  simp only [Nat.zero_mul, if_true]
  simp only [Nat.zero_mul] at h1
  have e1 : (Array.range 0).map ((#[] : Array Value)[· % (#[] : Array Value).size]!) = (Array.range 0).map (zv.cells[· % sz]!) := by simp
  rw [Sem.run_bind, Sem.run_pure, Result.andThen_ok, e1, h1]
  rfl
 ·rw [if_neg hz0]
  simp only [zeroValue, typeInfo, run_program, Sem.run_bind, Result.andThen_ok, hi, Sem.run_pure, hzv, hzs, h1]
  rfl
theorem gives_vec (hI : Inv C B kn m σ nx w) {e sz len : Nat} {rows : List (List AV)} {arr : Array Value} (hf : Flat kn m sz rows arr.toList) (ha : arr.size = len * sz) (hr : rows.length = len) (hs0 : 0 < sz) (hm62 : len ≤ 2 ^ 62) {r : Result Value}
  (h : r = .ok (.slice (some ⟨w.heap.size, 0, none⟩) len len) (w.alloc (.cells arr e))) : Gives C B kn m σ nx (.vec sz rows) r := by
 obtain ⟨hk, hI'⟩ := hI.box arr e
 refine ⟨_, _, _, h, hk, ?_, hI'⟩
 subst hr
 refine .vec sz rows w.heap.size 0 rows.length (fun i j => arr.getD (i * sz + j) undef) (Nat.le_refl _) hm62 hf.1 (fun i row j x hi hj => ?_) (fun i row j x hi hj => ?_) (fun i row j x hi hj => ?_)
 ·have hjl : j < sz := by rw [← hf.1 i row hi]; exact (List.getElem?_eq_some_iff.1 hj).1
  have hlt : i * sz + j < arr.size := by rw [ha]; exact idx_lt (List.getElem?_eq_some_iff.1 hi).1 hjl
  simp [knPut, hlt]
 ·have hjl : j < sz := by rw [← hf.1 i row hi]; exact (List.getElem?_eq_some_iff.1 hj).1
  have hlt : i * sz + j < arr.size := by rw [ha]; exact idx_lt (List.getElem?_eq_some_iff.1 hi).1 hjl
  refine (hf.2.1 i row j x _ hi hj ?_).mono hk (MpLe.refl m)
  simp [hlt]
 ·have hjl : j < sz := by rw [← hf.1 i row hi]; exact (List.getElem?_eq_some_iff.1 hj).1
  have hlt : i * sz + j < arr.size := by rw [ha]; exact idx_lt (List.getElem?_eq_some_iff.1 hi).1 hjl
  exact hf.2.2 _ (by simp [hlt])
theorem fld_sound {s f off sz : Nat} {ag : Bool} (h : fldT C.P s f = some (off, sz, ag)) : ∃ fs x, C.P.underlying s = some (.struct fs) ∧ fs[f]? = some x ∧ x.offset = off ∧ szT C.P x.type = some sz ∧ aggT C.P x.type = some ag := by
 unfold fldT at h
 split at h
 ·rename_i fs hu
  split at h
  ·rename_i x hx
   split at h
   ·rename_i n a h1 h2
    cases h
    exact ⟨fs, x, hu, hx, rfl, h1, h2⟩
   ·cases h
  ·cases h
 ·cases h
theorem gives_fieldAddr (hI : Inv C B kn m σ nx w) {s f : Nat} {a x : AV} {v : Value} (h : fadA C.P s f a = some x) (ha : Rel kn m a v) : Gives C B kn m σ nx x ((Instr.fieldAt s v f).run C.P w) := by
 unfold fadA at h
 split at h
 ·rename_i off sz ag hf
  split at h
  ·cases h
  ·rename_i hs0
   obtain ⟨fs, fld, hu, hx, ho, hsz, hag⟩ := fld_sound hf
   have hrun : ∀ b o, v = .pointer (some ⟨b, o, none⟩) → (Instr.fieldAt s v f).run C.P w = .ok (.pointer (some ⟨b, o + off, none⟩)) w := by
    intro b o hv
    subst hv
    simp [Instr.fieldAt, run_underlying hu, hx, Instr.sureAddr, fieldPlace, run_sizeOf' hsz, hs0, add_mk, ho]
   cases ha with
   | rptr cs b o vals hk hr ho1 =>
    simp only [Option.some.injEq] at h
    subst h
    refine Gives.pure hI (hrun b o rfl) (.rptr _ b (o + off) (fun j => vals (off + j)) (fun j y hy => ?_) (fun j y hy => ?_) (fun j y hy => ?_))
    ·rw [List.getElem?_drop] at hy; rw [Nat.add_assoc]; exact hk _ _ hy
    ·rw [List.getElem?_drop] at hy; exact hr _ _ hy
    ·rw [List.getElem?_drop] at hy; exact ho1 _ _ hy
   | ref p nm o loc hm =>
    simp only [Option.some.injEq] at h
    subst h
    refine Gives.pure hI (hrun _ _ rfl) ?_
    rw [Nat.add_assoc]
    exact .ref p nm (o + off) loc hm
   | eref p nm i o loc hm =>
    simp only [Option.some.injEq] at h
    subst h
    refine Gives.pure hI (hrun _ _ rfl) ?_
    rw [Nat.add_assoc]
    exact .eref p nm i (o + off) loc hm
   | _ => cases h
 ·cases h
theorem gives_field (hI : Inv C B kn m σ nx w) {t f : Nat} {a x : AV} {v : Value} (h : fieldA C.P t f a = some x) (ha : Rel kn m a v) : Gives C B kn m σ nx x ((Instr.field t v f).run C.P w) := by
 unfold fieldA at h
 split at h
 ·rename_i off sz cs hf
  split at h
  ·rename_i hle
   cases h
   obtain ⟨fs, fld, hu, hx, ho, hsz, hag⟩ := fld_sound hf
   cases ha with
   | agg _ vs hl hr hr1 =>
    refine Gives.pure hI (u := .agg (vs.extract off (off + sz))) ?_ (.agg _ _ (by simp; omega) (fun j y u hy hu' => ?_) (fun j u hu' => ?_))
    ·simp [Instr.field, run_underlying hu, hx, asAgg, Go.part, run_isAgg' hag, run_sizeOf' hsz, ho]
    ·rw [List.getElem?_take] at hy
     split at hy
     ·rename_i hj
      rw [List.getElem?_drop] at hy
      refine hr _ y u hy ?_
      rw [Array.getElem?_extract] at hu'
      split at hu'
      ·exact hu'
      ·cases hu'
     ·cases hy
    ·rw [Array.getElem?_extract] at hu'
     split at hu'
     ·exact hr1 _ u hu'
     ·cases hu'
  ·cases h
 ·rename_i off sz cs hf
  obtain ⟨fs, fld, hu, hx, ho, hsz, hag⟩ := fld_sound hf
  cases ha with
  | agg _ vs hl hr hr1 =>
   have hlt : off < vs.size := by rw [← hl]; exact (List.getElem?_eq_some_iff.1 h).1
   refine Gives.pure hI (u := vs[off]) ?_ (hr off x _ h (by simp [hlt]))
   simp [Instr.field, run_underlying hu, hx, asAgg, Go.part, run_isAgg' hag, ho, hlt]
 ·cases h
theorem gives_indexAddr0 (hI : Inv C B kn m σ nx w) {t : Nat} {a i x : AV} {v iv : Value} (hnt : ∀ e l, a ≠ .tvec e l) (hng : ∀ p nm e l, a ≠ .gs p nm e l) (hnv : ∀ p nm e o l, a ≠ .gv p nm e o l) (h : idxA C.P t a i = some x) (ha : Rel kn m a v) (hi : Rel kn m i iv) : Gives C B kn m σ nx x ((Instr.indexAt t v iv).run C.P w) := by
 unfold idxA at h
 cases hi with
 | int k n =>
  simp only at h
  split at h
  ·rename_i e sz by_ he
   obtain ⟨hu, hsz, _⟩ := elm_sound he
   cases ha with
   | vecNil esz ad cap => simp at h; omega
   | vecNone esz => simp at h; omega
   | srefNil p nm esz loc hm hn => simp at h; omega
   | tvec e l _ _ => exact absurd rfl (hnt e l)
   | gs p nm e len _ _ _ _ _ => exact absurd rfl (hng p nm e len)
   | gvE p nm e off _ _ => exact absurd rfl (hnv p nm e off 0)
   | gvS p nm e off len _ _ => exact absurd rfl (hnv p nm e off len)
   | vec esz rows b o cap vals hc hm hrow hk hr hr1 =>
    simp only [Option.ite_none_right_eq_some, Option.some.injEq] at h
    obtain ⟨⟨rfl, h0, h1⟩, rfl⟩ := h
    have hnl : n.toNat < rows.length := by omega
    have hrow' : rows[n.toNat]? = some (rows.getD n.toNat []) := by simp [hnl]
    refine Gives.pure hI (u := .pointer (some ⟨b, o + n.toNat * esz, none⟩)) ?_ (.rptr _ b _ (fun j => vals n.toNat j) (fun j y hy => hk _ _ _ _ hrow' hy) (fun j y hy => hr _ _ _ _ hrow' hy) (fun j y hy => hr1 _ _ _ _ hrow' hy))
    simp [Instr.indexAt, asIntOf, run_underlying hu, h0, h1, run_sizeOf' hsz, add_mk]
   | sref p nm esz off len loc hm hn he' hl hm' =>
    simp only [Option.ite_none_right_eq_some, Option.some.injEq] at h
    obtain ⟨⟨rfl, h0, h1⟩, rfl⟩ := h
    refine Gives.pure hI (u := .pointer (some ⟨loc.blk, loc.off + off * esz + n.toNat * esz, none⟩)) ?_ ?_
    ·simp [Instr.indexAt, asIntOf, run_underlying hu, h0, h1, run_sizeOf' hsz, add_mk, he']
    ·have := Rel.eref (kn := kn) p nm (off + n.toNat) 0 loc hm
     rw [he', Nat.add_mul, ← Nat.add_assoc, Nat.add_zero] at this
     exact this
   | _ => cases h
  ·split at h
   ·rename_i len e sz he
    split at h
    ·rename_i hb
     have hu : C.P.underlying t = some (.array len e) ∧ szT C.P e = some sz := by
      unfold arrT at he
      split at he
      ·rename_i n' e' hu
       split at he
       ·rename_i s hs; cases he; exact ⟨hu, hs⟩
       ·cases he
      ·cases he
     have hrun : ∀ b o, v = .pointer (some ⟨b, o, none⟩) → (Instr.indexAt t v (.int k n)).run C.P w = .ok (.pointer (some ⟨b, o + n.toNat * sz, none⟩)) w := by
      intro b o hv
      subst hv
      simp [Instr.indexAt, asIntOf, run_underlying hu.1, Instr.sureAddr, hb.1, hb.2, run_sizeOf' hu.2, add_mk]
     cases ha with
     | rptr cs b o vals hk hr hr1 =>
      simp only [Option.some.injEq] at h
      subst h
      refine Gives.pure hI (hrun b o rfl) (.rptr _ b _ (fun j => vals (n.toNat * sz + j)) (fun j y hy => ?_) (fun j y hy => ?_) (fun j y hy => ?_))
      case refine_3 => rw [List.getElem?_drop] at hy; exact hr1 _ _ hy
      ·rw [List.getElem?_drop] at hy; rw [Nat.add_assoc]; exact hk _ _ hy
      ·rw [List.getElem?_drop] at hy; exact hr _ _ hy
     | ref p nm o loc hm =>
      simp only [Option.some.injEq] at h
      subst h
      refine Gives.pure hI (hrun _ _ rfl) ?_
      rw [Nat.add_assoc]
      exact .ref p nm _ loc hm
     | eref p nm i o loc hm =>
      simp only [Option.some.injEq] at h
      subst h
      refine Gives.pure hI (hrun _ _ rfl) ?_
      rw [Nat.add_assoc]
      exact .eref p nm i _ loc hm
     | _ => cases h
    ·cases h
   ·cases h
 | _ => cases h
theorem gives_indexAddr (hI : Inv C B kn m σ nx w) {t : Nat} {a i x : AV} {v iv : Value} (h : idxA C.P t a i = some x) (ha : Rel kn m a v) (hi : Rel kn m i iv) : Gives C B kn m σ nx x ((Instr.indexAt t v iv).run C.P w) := by
 by_cases hnt : ∃ e l, a = .tvec e l
 ·obtain ⟨e, l, rfl⟩ := hnt
  have key : ∃ y, idxA C.P t (.vec e.size (l.map e.row)) i = some (.rptr (e.row y)) ∧ x = .rptr (e.cells y) := by
   unfold idxA at h ⊢
   split at h
   ·rename_i k n
    split at h
    ·rename_i q sz by_ he
     simp only [Option.ite_none_right_eq_some, Option.some.injEq] at h
     obtain ⟨hc, rfl⟩ := h
     refine ⟨l.getD n.toNat e.dflt, ?_, rfl⟩
     have hlt : n.toNat < l.length := by omega
     simp only [List.length_map]
     rw [if_pos hc]
     simp [hlt]
    ·split at h
     ·split at h <;> cases h
     ·cases h
   ·cases h
  obtain ⟨y, h0, rfl⟩ := key
  exact (gives_indexAddr0 hI (fun e l => by simp) (fun p n e l => by simp) (fun p n e o l => by simp) h0 (rel_tvec.1 ha) hi).map fun kn' u hr => rel_rptr_congr hr (by rw [E.cells_len, E.row_len]) fun vs => (E.rel_cells e y vs).2
 ·by_cases hng : ∃ p nm e l, a = .gs p nm e l
  ·obtain ⟨p, nm, e, l, rfl⟩ := hng
   have h0 : idxA C.P t (.sref p nm e.size 0 l) i = some x := by
    unfold idxA at h ⊢
    split at h
    ·split at h
     ·simpa using h
     ·split at h
      ·split at h <;> cases h
      ·cases h
    ·cases h
   have ha' : Rel kn m (.sref p nm e.size 0 l) v := by cases ha; assumption
   exact gives_indexAddr0 hI (fun e l => by simp) (fun p n e l => by simp) (fun p n e o l => by simp) h0 ha' hi
  ·by_cases hnv : ∃ p nm e o l, a = .gv p nm e o l
   ·obtain ⟨p, nm, e, o, l, rfl⟩ := hnv
    have key : idxA C.P t (.sref p nm e.size o l) i = some x ∧ l ≠ 0 := by
     unfold idxA at h ⊢
     split at h
     ·split at h
      ·simp only [Option.ite_none_right_eq_some] at h
       exact ⟨by simpa using h, by have := h.1.2; omega⟩
      ·split at h
       ·split at h <;> cases h
       ·cases h
     ·cases h
    have ha' : Rel kn m (.sref p nm e.size o l) v := by
     cases ha with
     | gvE => exact absurd rfl key.2
     | gvS _ _ _ _ _ _ h => exact h
    exact gives_indexAddr0 hI (fun e l => by simp) (fun p n e l => by simp) (fun p n e o l => by simp) key.1 ha' hi
   ·exact gives_indexAddr0 hI (fun e l hh => hnt ⟨e, l, hh⟩) (fun p n e l hh => hng ⟨p, n, e, l, hh⟩) (fun p n e o l hh => hnv ⟨p, n, e, o, l, hh⟩) h ha hi
theorem strT_sound {P : Program} {t : Nat} (h : strT P t = true) : P.underlying t = some .string := by
 unfold strT at h
 split at h
 ·assumption
 ·cases h
theorem gives_index (hI : Inv C B kn m σ nx w) {t : Nat} {a i x : AV} {v iv : Value} (h : indexA C.P t a i = some x) (ha : Rel kn m a v) (hi : Rel kn m i iv) : Gives C B kn m σ nx x ((Instr.index t v iv).run C.P w) := by
 unfold indexA at h
 split at h
 ·rename_i l k n
  cases ha
  cases hi
  split at h
  ·rename_i hs
   split at h
   ·rename_i b hb
    cases h
    have hlt : n.toNat < l.length := (List.getElem?_eq_some_iff.1 hb).1
    refine Gives.pure hI (u := .int .u8 b.toNat) ?_ (.int _ _)
    have hu := strT_sound hs.1
    have hsz : (ByteArray.mk l.toArray).size = l.length := by simp [ByteArray.size]
    have : (ByteArray.mk l.toArray)[n.toNat]? = some b := by
     rw [ByteArray.getElem?_lt' _ _ (by rw [hsz]; exact hlt)]
     have := (List.getElem?_eq_some_iff.1 hb).2
     rw [← this]; rfl
    simp [Instr.index, asIntOf, run_underlying hu, hs.2, this]
   ·cases h
  ·cases h
 ·cases h
end
end Go.Ab

namespace Go.Ab
open Go Go.RowKit
section
variable {C : Cx} {B : Base} {kn : Kn} {m : Mp} {σ : Sto} {nx : Nat} {w : World}
theorem bnd_sound {len cap : Nat} {lo hi : Option AV} {l h : Int} {lo' hi' : Option Value} (hb : bndA len lo hi = some (l, h)) (hlo : ∀ a, lo = some a → ∃ v, lo' = some v ∧ Rel kn m a v) (hlo0 : lo = none → lo' = none)
  (hhi : ∀ a, hi = some a → ∃ v, hi' = some v ∧ Rel kn m a v) (hhi0 : hi = none → hi' = none) (h0 : 0 ≤ l) (h1 : l ≤ h) (h2 : h ≤ cap) (isS : Bool) :
  (Instr.sliceBounds isS len cap lo' hi' none).run C.P w = .ok (l.toNat, h.toNat, cap) w := by
 have one : ∀ (k : IntKind) (i : Int) (y : Nat) (code : BoundsCode), 0 ≤ i → i ≤ y → (Instr.sliceBound (.int k i) y code).run C.P w = .ok i.toNat w := by
  intro k i y code a b
  simp [Instr.sliceBound, asIntOf, a, b]
 unfold bndA at hb
 split at hb
 ·cases hb
  rw [hlo0 rfl, hhi0 rfl]
  simp [Instr.sliceBounds]
 ·rename_i k l'
  cases hb
  obtain ⟨v, e, hr⟩ := hlo _ rfl
  cases hr
  rw [e, hhi0 rfl]
  have := one k l len .sliceB h0 h1
  simp [Instr.sliceBounds, this]
 ·rename_i k h'
  cases hb
  obtain ⟨v, e, hr⟩ := hhi _ rfl
  cases hr
  rw [e, hlo0 rfl]
  have := one k h cap (if isS then .sliceAcap else .sliceAlen) h1 h2
  simp [Instr.sliceBounds, this]
 ·rename_i k l' k' h'
  cases hb
  obtain ⟨v, e, hr⟩ := hlo _ rfl
  obtain ⟨v', e', hr'⟩ := hhi _ rfl
  cases hr; cases hr'
  rw [e, e']
  have a := one k' h cap (if isS then .sliceAcap else .sliceAlen) (by omega) h2
  have b := one k l h.toNat .sliceB h0 (by omega)
  simp [Instr.sliceBounds, a, b]
 ·cases hb
theorem gives_slice0 (hI : Inv C B kn m σ nx w) {t : Nat} {a x : AV} {v : Value} {lo hi mx : Option AV} {lo' hi' mx' : Option Value} (hnt : ∀ e l, a ≠ .tvec e l) (hng : ∀ p nm e l, a ≠ .gs p nm e l) (h : sliceA C.P t a lo hi mx = some x) (ha : Rel kn m a v)
  (hlo : ∀ a, lo = some a → ∃ v, lo' = some v ∧ Rel kn m a v) (hlo0 : lo = none → lo' = none) (hhi : ∀ a, hi = some a → ∃ v, hi' = some v ∧ Rel kn m a v) (hhi0 : hi = none → hi' = none)
  (hmx : ∀ a, mx = some a → ∃ v, mx' = some v ∧ Rel kn m a v) (hmx0 : mx = none → mx' = none) :
  Gives C B kn m σ nx x ((Instr.sliceAt t v lo' hi' mx').run C.P w) := by
 unfold sliceA at h
 split at h
 ·rename_i s
  rw [hmx0 rfl]
  split at h
  ·rename_i hs
   split at h
   ·rename_i l h' hb
    split at h
    ·rename_i hc
     cases h
     cases ha
     have hsz : (ByteArray.mk s.toArray).size = s.length := by simp [ByteArray.size]
     have hbs := bnd_sound (C := C) (w := w) (cap := s.length) hb hlo hlo0 hhi hhi0 hc.1 hc.2.1 hc.2.2 false
     refine Gives.pure hI (u := .string ((ByteArray.mk s.toArray).extract l.toNat h'.toNat)) ?_ ?_
     ·have hu := strT_sound hs
      simp only [Instr.sliceAt, Sem.run_bind, run_underlying hu, Result.andThen_ok, Instr.slice, hsz, hbs]
      simp [hbs]
     ·rw [ByteArray.extract_mk]
      exact .str _
    ·cases h
   ·cases h
  ·cases h
 ·rename_i esz rows
  rw [hmx0 rfl]
  split at h
  ·rename_i e sz by_ l h' he hb
   split at h
   ·rename_i hc
    cases h
    obtain ⟨rfl, h0, h1, h2⟩ := hc
    obtain ⟨hu, hsz, _⟩ := elm_sound he
    have fin : ∀ (ad : Option Addr) (cap : Nat), rows.length ≤ cap → (Instr.sliceAt t (.slice ad rows.length cap) lo' hi' none).run C.P w =
      .ok (.slice (if cap = l.toNat then ad else ad.map (·.add (l.toNat * esz))) (h'.toNat - l.toNat) (cap - l.toNat)) w := by
     intro ad cap hcap
     have hbs := bnd_sound (C := C) (w := w) (cap := cap) hb hlo hlo0 hhi hhi0 h0 h1 (by omega) true
     simp [Instr.sliceAt, run_underlying hu, Instr.slice, hbs, run_sizeOf' hsz]
    cases ha with
    | vecNil _ ad cap =>
     have hl0 : l = 0 := by simp at h2; omega
     have hh0 : h' = 0 := by simp at h2; omega
     subst hl0; subst hh0
     refine Gives.pure hI (fin ad cap (Nat.zero_le _)) ?_
     simp
     split <;> exact .vecNil _ _ _
    | vecNone _ =>
     have hl0 : l = 0 := by simp at h2; omega
     have hh0 : h' = 0 := by simp at h2; omega
     subst hl0; subst hh0
     refine Gives.pure hI (fin none 0 (Nat.zero_le _)) ?_
     simp
     exact .vecNone _
    | vec _ _ b o cap vals hcp hm hrow hk hr hr1 =>
     refine Gives.pure hI (fin _ cap hcp) ?_
     by_cases hlh : l = h'
     ·subst hlh
      simp
      split <;> exact .vecNil _ _ _
     ·have hne : ¬ cap = l.toNat := by omega
      simp only [if_neg hne, Option.map_some, add_mk]
      have hlen : ((rows.drop l.toNat).take (h'.toNat - l.toNat)).length = h'.toNat - l.toNat := by simp; omega
      have := Rel.vec (kn := kn) (m := m) esz ((rows.drop l.toNat).take (h'.toNat - l.toNat)) b (o + l.toNat * esz) (cap - l.toNat) (fun i j => vals (l.toNat + i) j) (by rw [hlen]; omega) (by rw [hlen]; omega)
       (fun i row hi => by
        rw [List.getElem?_take] at hi
        split at hi
        ·rw [List.getElem?_drop] at hi; exact hrow _ _ hi
        ·cases hi)
       (fun i row j y hi hj => by
        rw [List.getElem?_take] at hi
        split at hi
        ·rw [List.getElem?_drop] at hi
         have := hk _ _ _ _ hi hj
         rw [Nat.add_mul] at this
         rw [show o + l.toNat * esz + i * esz + j = o + (l.toNat * esz + i * esz) + j by omega]
         exact this
        ·cases hi)
       (fun i row j y hi hj => by
        rw [List.getElem?_take] at hi
        split at hi
        ·rw [List.getElem?_drop] at hi; exact hr _ _ _ _ hi hj
        ·cases hi)
       (fun i row j y hi hj => by
        rw [List.getElem?_take] at hi
        split at hi
        ·rw [List.getElem?_drop] at hi; exact hr1 _ _ _ _ hi hj
        ·cases hi)
      rw [hlen] at this
      exact this
   ·cases h
  ·cases h
 ·exact absurd rfl (hnt _ _)
 ·rename_i p nm esz off len
  rw [hmx0 rfl]
  split at h
  ·rename_i e sz by_ l h' he hb
   split at h
   ·rename_i hc
    obtain ⟨rfl, h0, h1, h2⟩ := hc
    obtain ⟨hu, hsz, _⟩ := elm_sound he
    cases ha with
    | srefNil _ _ _ loc hm hn =>
     have hl0 : l = 0 := by simp at h2; omega
     have hh0 : h' = 0 := by simp at h2; omega
     subst hl0; subst hh0
     have hbs := bnd_sound (C := C) (w := w) (cap := 0) hb hlo hlo0 hhi hhi0 (Int.le_refl _) (Int.le_refl _) (by simp) true
     have hrun : (Instr.sliceAt t (.slice none 0 0) lo' hi' none).run C.P w = .ok (.slice none 0 0) w := by
      simp [Instr.sliceAt, run_underlying hu, Instr.slice, hbs, run_sizeOf' hsz]
     refine Gives.pure hI hrun ?_
     simp at h
     subst h
     exact .srefNil p nm esz loc hm hn
    | sref _ _ _ _ _ loc hm hn he' hl hm' =>
     have hbs := bnd_sound (C := C) (w := w) (cap := loc.cap - off) hb hlo hlo0 hhi hhi0 h0 h1 (by omega) true
     have hrun : (Instr.sliceAt t (.slice (some ⟨loc.blk, loc.off + off * loc.esz, none⟩) len (loc.cap - off)) lo' hi' none).run C.P w =
       .ok (.slice (if loc.cap - off = l.toNat then some ⟨loc.blk, loc.off + off * loc.esz, none⟩ else some ⟨loc.blk, loc.off + off * loc.esz + l.toNat * esz, none⟩) (h'.toNat - l.toNat) (loc.cap - off - l.toNat)) w := by
      simp [Instr.sliceAt, run_underlying hu, Instr.slice, hbs, run_sizeOf' hsz, add_mk]
     refine Gives.pure hI hrun ?_
     split at h
     ·rename_i hor
      cases h
      have hadr : (if loc.cap - off = l.toNat then some (⟨loc.blk, loc.off + off * loc.esz, none⟩ : Addr) else some ⟨loc.blk, loc.off + off * loc.esz + l.toNat * esz, none⟩) = some ⟨loc.blk, loc.off + (off + l.toNat) * loc.esz, none⟩ := by
       rw [Nat.add_mul, ← Nat.add_assoc, he']
       split
       ·rename_i hcap
        have : l.toNat = 0 := by omega
        rw [this]; simp
       ·rfl
      rw [hadr]
      rw [show loc.cap - off - l.toNat = loc.cap - (off + l.toNat) by omega]
      exact .sref p nm esz (off + l.toNat) _ loc hm hn he' (by omega) (by omega)
     ·rename_i hor
      cases h
      rw [show h'.toNat - l.toNat = 0 by omega]
      split <;> exact .vecNil _ _ _
   ·cases h
  ·cases h
 ·exact absurd rfl (hng _ _ _ _)
 ·rw [hmx0 rfl]
  split at h
  ·rename_i e' l h' he hb
   split at h
   ·rename_i hc
    cases h
    obtain ⟨rfl, rfl⟩ := hc
    obtain ⟨e, sz, by_⟩ := e'
    obtain ⟨hu, hsz, _⟩ := elm_sound he
    cases ha
    have hbs := bnd_sound (C := C) (w := w) (cap := 0) hb hlo hlo0 hhi hhi0 (Int.le_refl _) (Int.le_refl _) (by simp) true
    refine Gives.pure hI (u := .slice none 0 0) ?_ (.base _)
    simp [Instr.sliceAt, run_underlying hu, Instr.slice, hbs, run_sizeOf' hsz]
   ·cases h
  ·cases h
 ·rename_i a' k kk
  obtain ⟨kv, ek, hkr⟩ := hmx _ rfl
  cases hkr
  rw [ek]
  have three : ∀ (ad : Option Addr) (n cap e sz by_ : Nat) (l h' : Int), elmT C.P t = some (e, sz, by_) → bndA 0 lo hi = some (l, h') → l = 0 → h' = 0 → hi.isSome = true →
    (Instr.sliceAt t (.slice ad n cap) lo' hi' (some (.int k 0))).run C.P w = .ok (.slice ad 0 0) w := by
   intro ad n cap e sz by_ l h' he hb hl hh his
   subst hl; subst hh
   obtain ⟨hu, hsz, _⟩ := elm_sound he
   have one : ∀ (k : IntKind) (y : Nat) (code : BoundsCode), (Instr.sliceBound (.int k 0) y code).run C.P w = .ok 0 w := by
    intro k y code
    simp [Instr.sliceBound, asIntOf]
   obtain ⟨hA, rfl⟩ := Option.isSome_iff_exists.1 his
   obtain ⟨hv, rfl, hhr⟩ := hhi _ rfl
   unfold bndA at hb
   cases lo with
   | none =>
    rw [hlo0 rfl]
    cases hhr <;> simp at hb
    subst hb
    simp [Instr.sliceAt, run_underlying hu, Instr.slice, Instr.sliceBounds, one, run_sizeOf' hsz]
   | some la =>
    obtain ⟨lv, rfl, hlr⟩ := hlo _ rfl
    cases hhr <;> cases hlr <;> simp at hb
    obtain ⟨rfl, rfl⟩ := hb
    simp [Instr.sliceAt, run_underlying hu, Instr.slice, Instr.sliceBounds, one, run_sizeOf' hsz]
  split at h
  ·rename_i e' l h' he hb
   split at h
   ·rename_i hc
    cases h
    obtain ⟨h1, rfl, h2, h3, h4⟩ := hc
    obtain ⟨e, sz, by_⟩ := e'
    cases ha with
    | base _ =>
     have hu : v = Value.slice none 0 0 := by
      unfold sliceish at h4
      split at h4 <;> simp_all
     subst hu
     exact Gives.pure hI (three _ _ _ _ _ _ _ _ he hb h2 h3 h1) (.base _)
    | vecNil _ _ _ => exact Gives.pure hI (three _ _ _ _ _ _ _ _ he hb h2 h3 h1) (.emp _)
    | vecNone _ => exact Gives.pure hI (three _ _ _ _ _ _ _ _ he hb h2 h3 h1) .empNone
    | srefNil _ _ _ _ _ _ => exact Gives.pure hI (three _ _ _ _ _ _ _ _ he hb h2 h3 h1) .empNone
    | vec _ _ _ _ _ _ _ _ _ _ _ _ => exact Gives.pure hI (three _ _ _ _ _ _ _ _ he hb h2 h3 h1) (.emp _)
    | sref _ _ _ _ _ _ _ _ _ _ _ => exact Gives.pure hI (three _ _ _ _ _ _ _ _ he hb h2 h3 h1) (.emp _)
    | _ => simp [sliceish] at h4
   ·cases h
  ·cases h
 ·cases h
theorem gives_slice (hI : Inv C B kn m σ nx w) {t : Nat} {a x : AV} {v : Value} {lo hi mx : Option AV} {lo' hi' mx' : Option Value} (h : sliceA C.P t a lo hi mx = some x) (ha : Rel kn m a v)
  (hlo : ∀ a, lo = some a → ∃ v, lo' = some v ∧ Rel kn m a v) (hlo0 : lo = none → lo' = none) (hhi : ∀ a, hi = some a → ∃ v, hi' = some v ∧ Rel kn m a v) (hhi0 : hi = none → hi' = none)
  (hmx : ∀ a, mx = some a → ∃ v, mx' = some v ∧ Rel kn m a v) (hmx0 : mx = none → mx' = none) :
  Gives C B kn m σ nx x ((Instr.sliceAt t v lo' hi' mx').run C.P w) := by
 by_cases hnt : ∃ e l, a = .tvec e l
 ·obtain ⟨e, l, rfl⟩ := hnt
  cases mx with
  | some k =>
   unfold sliceA at h
   cases k <;> simp [sliceish] at h
   split at h <;> cases h
  | none =>
   have h0 : ∃ lo2 hi2, bndA l.length lo hi = some (lo2, hi2) ∧ x = .tvec e ((l.drop lo2.toNat).take (hi2.toNat - lo2.toNat)) ∧ sliceA C.P t (.vec e.size (l.map e.row)) lo hi none = some (.vec e.size (((l.drop lo2.toNat).take (hi2.toNat - lo2.toNat)).map e.row)) := by
    unfold sliceA at h ⊢
    simp only [List.length_map] at h ⊢
    cases he : elmT C.P t with
    | none => simp [he] at h
    | some q =>
     obtain ⟨q1, sz, q3⟩ := q
     cases hb : bndA l.length lo hi with
     | none => simp [he, hb] at h
     | some r =>
      obtain ⟨lo2, hi2⟩ := r
      simp only [he, hb] at h ⊢
      split at h
      ·rename_i hc
       cases h
       exact ⟨lo2, hi2, rfl, rfl, by rw [if_pos hc, List.map_take, List.map_drop]⟩
      ·cases h
   obtain ⟨lo2, hi2, -, rfl, h0⟩ := h0
   exact (gives_slice0 hI (fun e l => by simp) (fun p n e l => by simp) h0 (rel_tvec.1 ha) hlo hlo0 hhi hhi0 hmx hmx0).map fun kn' u hr => .tvec _ _ _ hr
 ·by_cases hng : ∃ p nm e l, a = .gs p nm e l
  ·obtain ⟨p, nm, e, len, rfl⟩ := hng
   have ha' : Rel kn m (.sref p nm e.size 0 len) v := by cases ha; assumption
   cases mx with
   | some k =>
    unfold sliceA at h
    cases k <;> simp [sliceish] at h
    split at h <;> cases h
   | none =>
    obtain ⟨y, h0, hy⟩ : ∃ y, sliceA C.P t (.sref p nm e.size 0 len) lo hi none = some y ∧ ∀ kn' u, Rel kn' m y u → Rel kn' m x u := by
     unfold sliceA at h ⊢
     simp only at h ⊢
     cases he : elmT C.P t with
     | none => simp [he] at h
     | some q =>
      obtain ⟨q1, sz, q3⟩ := q
      cases hb : bndA len lo hi with
      | none => simp [he, hb] at h
      | some r =>
       obtain ⟨l, h'⟩ := r
       simp only [he, hb] at h ⊢
       split at h
       ·rename_i hc
        cases h
        rw [if_pos hc]
        split
        ·refine ⟨_, rfl, fun kn' u hu => .gvS _ _ _ _ _ _ (by rw [Nat.zero_add] at hu; exact hu)⟩
        ·rename_i hor
         have hz : h'.toNat - l.toNat = 0 := by omega
         rw [hz]
         refine ⟨_, rfl, fun kn' u hu => ?_⟩
         cases hu with
         | vecNil => exact .gvE _ _ _ _ _ _
         | vecNone => exact .gvE _ _ _ _ _ _
         | vec => exact .gvE _ _ _ _ _ _
       ·cases h
    exact (gives_slice0 hI (fun e l => by simp) (fun p n e l => by simp) h0 ha' hlo hlo0 hhi hhi0 hmx hmx0).map hy
  ·exact gives_slice0 hI (fun e l hh => hnt ⟨e, l, hh⟩) (fun p n e l hh => hng ⟨p, n, e, l, hh⟩) h ha hlo hlo0 hhi hhi0 hmx hmx0
theorem gives_binInt (hI : Inv C B kn m σ nx w) {op : BinOp} {t : Nat} {k : IntKind} {p q : Int} {x : AV} {a b : Operand} (h : abinInt op k p q = some x) :
  Gives C B kn m σ nx x ((do eqGuard op t a b (.int k p) (.int k q); binOp op t (.int k p) (.int k q) : Sem Value).run C.P w) := by
 simp only [eqGuard_at_int, pure_bind]
 cases op <;> simp only [abinInt, Option.some.injEq] at h
 case add => subst h; exact Gives.pure hI (by simp [binOp_add, Op.intArith]) (.int _ _)
 case sub => subst h; exact Gives.pure hI (by simp [binOp_sub, Op.intArith]) (.int _ _)
 case mul => subst h; exact Gives.pure hI (by simp [binOp_mul, Op.intArith]) (.int _ _)
 case quo =>
  split at h
  ·cases h
  ·rename_i hq; cases h; exact Gives.pure hI (by simp [binOp_quo, Op.intDiv, hq]) (.int _ _)
 case rem =>
  split at h
  ·cases h
  ·rename_i hq; cases h; exact Gives.pure hI (by simp [binOp_rem, Op.intDiv, hq]) (.int _ _)
 case and => subst h; exact Gives.pure hI (by simp [binOp_and, intBits_and]) (.int _ _)
 case or => subst h; exact Gives.pure hI (by simp [binOp_or, intBits_or]) (.int _ _)
 case xor => subst h; exact Gives.pure hI (by simp [binOp_xor, intBits_xor]) (.int _ _)
 case andNot => subst h; exact Gives.pure hI (by simp [binOp_andNot, intBits_andNot]) (.int _ _)
 case eql => subst h; exact Gives.pure hI (by simp [binOp_eql]; rfl) (.bool _)
 case neq => subst h; exact Gives.pure hI (by simp [binOp_neq]; rfl) (.bool _)
 case lss => subst h; exact Gives.pure hI (by simp [binOp_lss]) (.bool _)
 case leq => subst h; exact Gives.pure hI (by simp [binOp_leq]) (.bool _)
 case gtr => subst h; exact Gives.pure hI (by simp [binOp_gtr]) (.bool _)
 case geq => subst h; exact Gives.pure hI (by simp [binOp_geq]) (.bool _)
 all_goals cases h
theorem gives_binStr (hI : Inv C B kn m σ nx w) {op : BinOp} {t : Nat} {p q : List UInt8} {x : AV} {a b : Operand} (h : abinStr op p q = some x) :
  Gives C B kn m σ nx x ((do eqGuard op t a b (.string ⟨p.toArray⟩) (.string ⟨q.toArray⟩); binOp op t (.string ⟨p.toArray⟩) (.string ⟨q.toArray⟩) : Sem Value).run C.P w) := by
 have hs : ∀ l : List UInt8, (ByteArray.mk l.toArray).size = l.length := fun l => by simp [ByteArray.size]
 have hb : binOp op t (.string ⟨p.toArray⟩) (.string ⟨q.toArray⟩) = Op.stringOp op ⟨p.toArray⟩ ⟨q.toArray⟩ := by cases op <;> rfl
 have heq : (p == q) = decide (p = q) := by
  by_cases e : p = q <;> simp [e]
 simp only [eqGuard_at_string, pure_bind, hb]
 cases op <;> simp only [abinStr, Option.some.injEq] at h
 case add =>
  split at h
  ·rename_i hl
   cases h
   refine Gives.pure hI (u := .string (ByteArray.mk p.toArray ++ ByteArray.mk q.toArray)) ?_ ?_
   ·simp only [Op.stringOp, hs, IntKind.max_i64]
    rw [if_neg (by omega)]
    rfl
   ·have : ByteArray.mk p.toArray ++ ByteArray.mk q.toArray = ByteArray.mk (p ++ q).toArray := by
     apply ByteArray.ext
     simp
    rw [this]
    exact .str _
  ·cases h
 case eql => subst h; exact Gives.pure hI (by simp [Op.stringOp, heq]) (.bool _)
 case neq => subst h; exact Gives.pure hI (by simp [Op.stringOp, heq]) (.bool _)
 case lss => subst h; exact Gives.pure hI (by simp [Op.stringOp]) (.bool _)
 case leq => subst h; exact Gives.pure hI (by simp [Op.stringOp, heq]) (.bool _)
 case gtr => subst h; exact Gives.pure hI (by simp [Op.stringOp, heq]) (.bool _)
 case geq => subst h; exact Gives.pure hI (by simp [Op.stringOp]) (.bool _)
 all_goals cases h
end
end Go.Ab

namespace Go.Ab
open Go Go.RowKit
section
variable {C : Cx} {B : Base} {kn : Kn} {m : Mp} {σ : Sto} {nx : Nat} {w : World}
inductive NV : TypeDesc → Value → Bool → Prop where
 | s0 (e : TypeId) : NV (.slice e) (.slice none 0 0) true
 | s1 (e : TypeId) (a : Addr) (l c : Nat) : NV (.slice e) (.slice (some a) l c) false
 | p0 (e : TypeId) : NV (.pointer e) (.pointer none) true
 | p1 (e : TypeId) (a : Addr) : NV (.pointer e) (.pointer (some a)) false
 | m0 (k e : TypeId) : NV (.map k e) (.map none) true
 | m1 (k e : TypeId) (a : Nat) : NV (.map k e) (.map (some a)) false
 | f0 (x y : _) (z : _) : NV (.func x y z) .nilFunc true
 | f1 (x y : _) (z : _) (f : Fn) (a b : Array Value) : NV (.func x y z) (.func f a b) false
 | i0 (ms : _) : NV (.interface ms) .nilIface true
 | i1 (ms : _) (t : TypeId) (v : Value) : NV (.interface ms) (.iface t v) false
theorem nv_sref {p n e o l : Nat} {el : TypeId} {v : Value} (h : Rel kn m (.sref p n e o l) v) (hl : l ≠ 0) : NV (.slice el) v false := by
 cases h with
 | sref => exact .s1 _ _ _ _
 | srefNil => exact absurd rfl hl
theorem nv_vec {e : Nat} {rows : List (List AV)} {el : TypeId} {v : Value} (h : Rel kn m (.vec e rows) v) (hl : rows ≠ []) : NV (.slice el) v false := by
 cases h with
 | vec => exact .s1 _ _ _ _
 | vecNil => exact absurd rfl hl
 | vecNone => exact absurd rfl hl
theorem nv_of {d : TypeDesc} {a : AV} {v : Value} {r : Bool} (ha : Rel kn m a v) (ht : nilT d a = true) (hn : nilA a = some r) : NV d v r := by
 unfold nilT at ht
 split at ht
 ·cases ha; simp only [nilA, Option.some.injEq] at hn; subst hn; exact .s0 _
 ·cases ha; simp only [nilA, Option.some.injEq] at hn; subst hn; exact .s1 _ _ _ _
 ·simp only [nilA] at hn; split at hn
  ·cases hn
  ·rename_i h; cases hn; exact nv_vec ha (fun e => h (by simp [e]))
 ·simp only [nilA] at hn; split at hn
  ·cases hn
  ·rename_i h; cases hn; exact nv_sref ha h
 ·simp [nilA] at hn
 ·simp only [nilA] at hn; split at hn
  ·cases hn
  ·rename_i h; cases hn; exact nv_vec (rel_tvec.1 ha) (fun e => h (by simpa using e))
 ·simp only [nilA] at hn; split at hn
  ·cases hn
  ·rename_i h; cases hn; cases ha; rename_i hh; exact nv_sref hh h
 ·cases ha; simp only [nilA, Option.some.injEq] at hn; subst hn; exact .p0 _
 ·cases ha; simp only [nilA, Option.some.injEq] at hn; subst hn; exact .p1 _ _
 ·cases ha; simp only [nilA, Option.some.injEq] at hn; subst hn; exact .p1 _ _
 ·cases ha; simp only [nilA, Option.some.injEq] at hn; subst hn; exact .p1 _ _
 ·cases ha; simp only [nilA, Option.some.injEq] at hn; subst hn; exact .m0 _ _
 ·cases ha; simp only [nilA, Option.some.injEq] at hn; subst hn; exact .m1 _ _ _
 ·cases ha; simp only [nilA, Option.some.injEq] at hn; subst hn; exact .f0 _ _ _
 ·cases ha; simp only [nilA, Option.some.injEq] at hn; subst hn; exact .f1 _ _ _ _ _ _
 ·cases ha; simp only [nilA, Option.some.injEq] at hn; subst hn; exact .i0 _
 ·cases ha; simp only [nilA, Option.some.injEq] at hn; subst hn; exact .i1 _ _ _
 ·cases ha <;> (simp only [nilA, Option.some.injEq] at hn; subst hn)
  ·exact .i0 _
  ·exact .i1 _ _ _
 ·cases ht
theorem run_equalIn_nil (n : Nat) {t : Nat} {d : TypeDesc} (hd : C.P.underlying t = some d) {a b : AV} {v u : Value} (ha : Rel kn m a v) (hb : Rel kn m b u) (hta : nilT d a = true) (htb : nilT d b = true) {r : Bool} (hna : nilA a = some r) (hnb : nilA b = some true) :
  (Op.equalIn (n + 1) t v u).run C.P w = .ok r w := by
 have h1 := nv_of ha hta hna
 have h2 := nv_of hb htb hnb
 simp only [Op.equalIn, Sem.run_bind, run_underlying hd, Result.andThen_ok]
 cases h2 <;> cases h1 <;> rfl
theorem isNil_cases {y : Operand} (h : isNilConst y = true) : ∃ c, y = .const c := by
 cases y with
 | const c => exact ⟨c, rfl⟩
 | _ => simp [isNilConst] at h
theorem gives_bin (hI : Inv C B kn m σ nx w) {op : BinOp} {t : Nat} {a b x : AV} {v u : Value} {ox oy : Operand} (h : abin C op t ox oy a b = some x) (ha : Rel kn m a v) (hb : Rel kn m b u) :
  Gives C B kn m σ nx x ((do eqGuard op t ox oy v u; binOp op t v u : Sem Value).run C.P w) := by
 unfold abin at h
 split at h
 ·rename_i k p k' q
  cases ha; cases hb
  split at h
  ·split at h
   ·rename_i hq
    cases h
    refine Gives.pure hI ?_ (.int _ _)
    simp only [eqGuard_shl, pure_bind, binOp_shl, shift_shl k k' p q hq.1 hq.2, Sem.run_pure]
   ·cases h
  ·split at h
   ·rename_i hq
    cases h
    refine Gives.pure hI ?_ (.int _ _)
    simp only [eqGuard_shr, pure_bind, binOp_shr, shift_shr k k' p q hq.1 hq.2, Sem.run_pure]
   ·cases h
  ·split at h
   ·rename_i hk
    subst hk
    exact gives_binInt hI h
   ·cases h
 ·cases ha; cases hb
  exact gives_binStr hI h
 ·rename_i p q
  cases ha; cases hb
  split at h
  ·rename_i ht
   have hu : C.P.underlying t = some .bool := by
    unfold isBoolT at ht
    split at ht
    ·assumption
    ·cases ht
   have heq : (Op.equal t (.bool p) (.bool q)).run C.P w = .ok (p == q) w := by
    unfold Op.equal Op.maxDepth
    show (Op.equalIn (9999 + 1) t (.bool p) (.bool q)).run C.P w = _
    generalize 9999 = n
    simp only [Op.equalIn, Sem.run_bind, run_underlying hu, Result.andThen_ok, Sem.run_pure]
   simp only [eqGuard_at_bool, pure_bind]
   split at h
   ·cases h
    exact Gives.pure hI (by simp [binOp, heq]) (.bool _)
   ·cases h
    exact Gives.pure hI (by simp [binOp, heq]) (.bool _)
   ·cases h
  ·cases h
 ·rename_i hx1 hx2 hx3
  split at h
  ·rename_i hn
   obtain ⟨c, rfl⟩ := isNil_cases hn
   split at h
   ·rename_i r h1 h2
    cases h
    unfold nilTest at h1 h2
    split at h1
    ·rename_i d hd
     simp only [hd] at h2
     split at h1
     ·rename_i hta
      split at h2
      ·rename_i htb
       have heq := run_equalIn_nil (w := w) 9999 hd ha hb hta htb h1 h2
       have heq' : (Op.equal t v u).run C.P w = .ok r w := heq
       have hg : eqGuard .eql t ox (.const c) v u = pure () := by
        cases nv_of hb htb h2 <;> cases v <;> first | rfl | exact eqGuard_nil_constR _ _ _ _
       have hbn : (binOp .eql t v u).run C.P w = .ok (.bool r) w := by
        have e : binOp .eql t v u = (do pure (.bool (← Op.equal t v u))) := by
         cases nv_of hb htb h2 <;> cases v <;> rfl
        rw [e]; simp [heq']
       exact Gives.pure hI (by rw [hg]; simpa using hbn) (.bool _)
      ·cases h2
     ·cases h1
    ·cases h1
   ·rename_i r h1 h2
    cases h
    unfold nilTest at h1 h2
    split at h1
    ·rename_i d hd
     simp only [hd] at h2
     split at h1
     ·rename_i hta
      split at h2
      ·rename_i htb
       have heq := run_equalIn_nil (w := w) 9999 hd ha hb hta htb h1 h2
       have heq' : (Op.equal t v u).run C.P w = .ok r w := heq
       have hg : eqGuard .neq t ox (.const c) v u = pure () := by
        cases nv_of hb htb h2 <;> cases v <;> first | rfl | exact eqGuard_nil_constR _ _ _ _
       have hbn : (binOp .neq t v u).run C.P w = .ok (.bool (!r)) w := by
        have e : binOp .neq t v u = (do pure (.bool (!(← Op.equal t v u)))) := by
         cases nv_of hb htb h2 <;> cases v <;> rfl
        rw [e]; simp [heq']
       exact Gives.pure hI (by rw [hg]; simpa using hbn) (.bool _)
      ·cases h2
     ·cases h1
    ·cases h1
   ·cases h
  ·cases h
theorem gives_un (hI : Inv C B kn m σ nx w) {op : UnOp} {a x : AV} {v : Value} (h : aun op a = some x) (ha : Rel kn m a v) : Gives C B kn m σ nx x ((Op.unary op v).run C.P w) := by
 unfold aun at h
 split at h
 ·cases h; cases ha; exact Gives.pure hI (by simp [unary_neg, Op.intArith]) (.int _ _)
 ·cases h; cases ha; exact Gives.pure hI (by simp [unary_not]) (.bool _)
 ·cases h
theorem bytT_sound {P : Program} {t : Nat} (h : bytT P t = true) : ∃ e, P.underlying t = some (.slice e) ∧ P.underlying e = some (.int .u8) := by
 unfold bytT at h
 split at h
 ·rename_i e he
  split at h
  ·rename_i h2; exact ⟨e, he, h2⟩
  ·cases h
 ·cases h
theorem addr_add0 (g o j : Nat) : (⟨g, o, none⟩ : Addr).add j = ⟨g, o + j, none⟩ := by
 unfold Addr.add
 by_cases h : j = 0
 ·subst h; simp
 ·simp [h]
theorem foldl_bytes : ∀ (l : List Int) (r : ByteArray), l.foldl (fun r n => r.push (UInt8.ofNat n.toNat)) r = ⟨r.data ++ (strOf l).toArray⟩
 | [], r => by simp [strOf]
 | b :: l, r => by
  simp only [List.foldl_cons]
  rw [foldl_bytes l]
  simp [ByteArray.push, strOf]
theorem gives_bytes (hI : Inv C B kn m σ nx w) {s d : Nat} {l : List UInt8} (hs : strT C.P s = true) (hd : bytT C.P d = true) (hl : l.length ≤ 4611686018427387904) : Gives C B kn m σ nx (.tvec (.int .u8) (intsOf l)) ((convert s d (.string ⟨l.toArray⟩)).run C.P w) := by
 obtain ⟨e, hd1, hd2⟩ := bytT_sound hd
 have hrun := run_bytes_of_string w s d e ⟨l.toArray⟩ (strT_sound hs) hd1 hd2
 generalize hrow : bytesRow ⟨l.toArray⟩ (grownCap w (⟨l.toArray⟩ : ByteArray).size 0 e) = row at hrun
 have hsz : (⟨l.toArray⟩ : ByteArray).size = l.length := by simp [ByteArray.size]
 have hcap := grownCap_ge w l.length 0 e
 rw [hsz] at hrun hrow
 have hget : ∀ (i : Nat) (b : UInt8), l[i]? = some b → row[i]? = some (Value.int .u8 b.toNat) := fun i b h => by
  rw [← hrow]
  have hi := (List.getElem?_eq_some_iff.1 h).1
  unfold bytesRow
  rw [Array.getElem?_append_left (by simpa using hi)]
  simp [h]
 have hI0 := hI.drew
 obtain ⟨k1, k2⟩ := hI.grow (kn' := knPut kn w.heap.size row) (w' := w.drew.alloc (.cells row e (row.size, row.size + 1))) (by simp) rfl rfl rfl (fun b hb => Below.heap_alloc w.drew _ _ hb) (fun b hb => by funext o; simp [knPut, Nat.ne_of_lt hb]) (fun b o v hb h => by
  unfold knPut at h
  split at h
  ·rename_i hbb
   subst hbb
   have : (w.drew.alloc (.cells row e (row.size, row.size + 1))).heap[w.heap.size]? = some (.cells row e (row.size, row.size + 1)) := heap_alloc_new w.drew _
   unfold World.cell?
   simp only [this]
   simpa using h
  ·exact absurd (hI.kn_lt h) (by omega))
 refine ⟨_, _, _, hrun, k1, .tvec _ _ _ ?_, k2⟩
 have hlen : ((intsOf l).map (E.row (.int .u8))).length = l.length := by
  show (List.map (fun n : Int => [AV.int .u8 n]) (l.map fun b => (b.toNat : Int))).length = _
  simp
 have hmem : ∀ (i : Nat) (r : List AV), ((intsOf l).map (E.row (.int .u8)))[i]? = some r → ∃ b, l[i]? = some b ∧ r = [.int .u8 (b.toNat : Int)] := fun i r h => by
  have h : (List.map (fun n : Int => [AV.int .u8 n]) (l.map fun b => (b.toNat : Int)))[i]? = some r := h
  rw [List.map_map, List.getElem?_map] at h
  cases hx : l[i]? with
  | none => rw [hx] at h; cases h
  | some b => rw [hx] at h; cases h; exact ⟨b, rfl, rfl⟩
 have hv := Rel.vec (kn := knPut kn w.heap.size row) (m := m) 1 ((intsOf l).map (E.row (.int .u8))) w.heap.size 0 (grownCap w l.length 0 e) (fun i _ => .int .u8 ((l.getD i 0).toNat)) (by rw [hlen]; exact hcap) (by rw [hlen]; exact hl)
  (fun i r h => by obtain ⟨b, _, rfl⟩ := hmem i r h; rfl)
  (fun i r j x h hj => by
   obtain ⟨b, hb, rfl⟩ := hmem i r h
   have hj0 : j = 0 := by
    have := (List.getElem?_eq_some_iff.1 hj).1
    simp at this; exact this
   subst hj0
   rw [Nat.zero_add, Nat.mul_one, Nat.add_zero, knPut_same, hget i b hb]
   simp [List.getD_eq_getElem?_getD, hb])
  (fun i r j x h hj => by
   obtain ⟨b, hb, rfl⟩ := hmem i r h
   have hj0 : j = 0 := by
    have := (List.getElem?_eq_some_iff.1 hj).1
    simp at this; exact this
   subst hj0
   simp at hj
   subst hj
   simp [List.getD_eq_getElem?_getD, hb]
   exact .int _ _)
  (fun i r j x h hj => rfl)
 rw [hlen] at hv
 exact hv
theorem gives_str (hI : Inv C B kn m σ nx w) {s d : Nat} {l : List Int} {v : Value} (hs : bytT C.P s = true) (hd : strT C.P d = true) (ha : Rel kn m (.tvec (.int .u8) l) v) : Gives C B kn m σ nx (.str (strOf l)) ((convert s d v).run C.P w) := by
 obtain ⟨e, hs1, hs2⟩ := bytT_sound hs
 have ha := rel_tvec.1 ha
 have hrow : ∀ (j : Nat) (n : Int), l[j]? = some n → (List.map (E.row (.int .u8)) l)[j]? = some [.int .u8 n] := fun j n h => show (List.map (fun n : Int => [AV.int .u8 n]) l)[j]? = _ from by rw [List.getElem?_map, h]; rfl
 have hlen : (List.map (E.row (.int .u8)) l).length = l.length := List.length_map ..
 generalize hrs : List.map (E.row (.int .u8)) l = rows at ha hrow hlen
 have hesz : (E.int .u8).size = 1 := rfl
 rw [hesz] at ha
 have hnil : rows = [] → l = [] := fun h => by rw [h] at hlen; exact List.eq_nil_of_length_eq_zero hlen.symm
 cases ha with
 | vecNil _ a cap =>
  have := hnil rfl
  subst this
  refine Gives.pure hI ?_ (.str _)
  rw [run_convert_bytes_string w s d e (some a) 0 cap hs1 hs2 (strT_sound hd)]
  rw [run_bytesToString w a 0 cap [] (by rfl), foldl_bytes]
  rfl
 | vecNone =>
  have := hnil rfl
  subst this
  refine Gives.pure hI ?_ (.str _)
  rw [run_convert_bytes_string w s d e none 0 0 hs1 hs2 (strT_sound hd)]
  rfl
 | vec _ _ b o cap vals hc hm hr hk hrel h1 =>
  refine Gives.pure hI ?_ (.str _)
  rw [run_convert_bytes_string w s d e _ _ cap hs1 hs2 (strT_sound hd)]
  have hcells := run_loadCells_list (P := C.P) w ⟨b, o, none⟩ (l.map (Value.int .u8)) (fun j v hj => by
   rw [List.getElem?_map] at hj
   cases hlj : l[j]? with
   | none => rw [hlj] at hj; cases hj
   | some n =>
    rw [hlj] at hj
    cases hj
    have q1 := hk j _ 0 _ (hrow j n hlj) rfl
    have q2 := hrel j _ 0 _ (hrow j n hlj) rfl
    rw [Nat.mul_one, Nat.add_zero] at q1
    rw [addr_add0, hI.knok _ _ _ q1]
    generalize vals j 0 = u at q2
    cases q2; rfl)
  rw [List.length_map] at hcells
  rw [hlen, run_bytesToString w _ _ cap l hcells, foldl_bytes]
  have he0 : ByteArray.empty.data = #[] := rfl
  rw [he0]
  simp
theorem gives_conv (hI : Inv C B kn m σ nx w) {s d : Nat} {a x : AV} {v : Value} (h : aconv C.P s d a = some x) (ha : Rel kn m a v) : Gives C B kn m σ nx x ((convert s d v).run C.P w) := by
 unfold aconv at h
 split at h
 ·cases ha
  split at h
  ·rename_i k hs hd
   cases h
   obtain ⟨ds, hs'⟩ := Option.isSome_iff_exists.1 hs
   have hd' : C.P.underlying d = some (.int k) := by
    unfold intT at hd
    split at hd
    ·cases hd; assumption
    ·cases hd
   refine Gives.pure hI ?_ (.int _ _)
   simp [convert, run_underlying hs', run_underlying hd', Conv.intToInt]
  ·cases h
 ·cases ha
  split at h
  ·rename_i hc
   cases h
   refine Gives.pure hI ?_ (.str _)
   simp [convert, run_underlying (strT_sound hc.1), run_underlying (strT_sound hc.2)]
  ·split at h
   ·rename_i hc
    cases h
    exact gives_bytes hI hc.1 hc.2.1 hc.2.2
   ·cases h
 ·split at h
  ·rename_i hc
   cases h
   exact gives_str hI hc.1 hc.2 ha
  ·cases h
 ·split at h
  ·rename_i hc
   obtain ⟨l, h1, rfl⟩ := Option.map_eq_some_iff.1 h
   obtain ⟨rfl, hc1, hc2⟩ := hc
   have := rowsU8_sound _ _ h1
   subst this
   exact gives_str hI hc1 hc2 (.tvec (.int .u8) l v ha)
  ·cases h
 ·cases h
theorem gives_strgs (hI : Inv C B kn m σ nx w) {s d p nm len ety : Nat} {l : List Int} {v : Value} (hs : bytT C.P s = true) (hd : strT C.P d = true) (hp : σ[p]? = some (nm, .tg (.int .u8) ety l)) (ha : Rel kn m (.gs p nm (.int .u8) len) v) : Gives C B kn m σ nx (.str (strOf l)) ((convert s d v).run C.P w) := by
 obtain ⟨e, hs1, hs2⟩ := bytT_sound hs
 have hob : GvRel kn m w nm 1 ety (List.map (E.row (.int .u8)) l) := hI.obj p nm _ hp
 have hrow : ∀ (j : Nat) (n : Int), l[j]? = some n → (List.map (E.row (.int .u8)) l)[j]? = some [.int .u8 n] := fun j n h => show (List.map (fun n : Int => [AV.int .u8 n]) l)[j]? = _ from by rw [List.getElem?_map, h]; rfl
 have hlen : (List.map (E.row (.int .u8)) l).length = l.length := List.length_map ..
 generalize hrs : List.map (E.row (.int .u8)) l = rows at hob hrow hlen
 obtain ⟨locx, hmx, hl0, hob⟩ := hob
 cases ha with
 | gs _ _ _ _ _ loc hm hl hsl =>
  rw [hmx] at hm; cases hm
  have hll : len = l.length := by rw [← hl, hl0, hlen]
  subst hll
  have hsl : Rel kn m (.sref p nm 1 0 l.length) v := hsl
  generalize hn : l.length = n at hsl
  cases hsl with
  | srefNil _ _ _ locz hz hznil =>
   have : l = [] := List.eq_nil_of_length_eq_zero hn
   subst this
   refine Gives.pure hI ?_ (.str _)
   rw [run_convert_bytes_string w s d e none 0 0 hs1 hs2 (strT_sound hd)]
   rfl
  | sref _ _ _ _ _ locz hz hznil hze hzl hzm =>
   subst hn
   rw [hmx] at hz; cases hz
   rcases hob with ⟨hnil, _⟩ | ⟨_, hesz, arr, hw, hsz, hcap, hmax, hone, hrw, hrel⟩
   ·rw [hnil] at hznil; cases hznil
   refine Gives.pure hI ?_ (.str _)
   rw [run_convert_bytes_string w s d e _ _ _ hs1 hs2 (strT_sound hd)]
   have hcells := run_loadCells_list (P := C.P) w ⟨locx.blk, locx.off + 0 * locx.esz, none⟩ (l.map (Value.int .u8)) (fun j v hj => by
    rw [List.getElem?_map] at hj
    cases hlj : l[j]? with
    | none => rw [hlj] at hj; cases hj
    | some n =>
     rw [hlj] at hj
     cases hj
     have hjl := (List.getElem?_eq_some_iff.1 hlj).1
     have hin : locx.off + j < arr.size := by rw [hlen] at hcap; omega
     have q2 := hrel j _ 0 _ arr[locx.off + j] (hrow j n hlj) rfl (by rw [Nat.mul_one, Nat.add_zero]; exact Array.getElem?_eq_getElem hin)
     rw [Nat.zero_mul, Nat.add_zero, addr_add0]
     simp only [World.cell?, hw]
     rw [Array.getElem?_eq_getElem hin]
     generalize arr[locx.off + j] = u at q2
     cases q2; rfl)
   rw [List.length_map] at hcells
   rw [run_bytesToString w _ _ _ l hcells, foldl_bytes]
   have he0 : ByteArray.empty.data = #[] := rfl
   rw [he0]
   simp
theorem slcT_sound {P : Program} {t : Nat} (h : slcT P t = true) : ∃ e, P.underlying t = some (.slice e) := by
 unfold slcT at h
 split at h
 ·rename_i e hu; exact ⟨e, hu⟩
 ·cases h
theorem run_len_slice {t ty e : Nat} (hu : C.P.underlying t = some (.slice e)) (ad : Option Addr) (n cap : Nat) : (Builtin.len_ #[t] ty #[.slice ad n cap]).run C.P w = .ok (.int .i64 n) w := by
 simp [Builtin.len_, run_underlying hu, goInt]
theorem vec_slice {esz : Nat} {rows : List (List AV)} {v : Value} (h : Rel kn m (.vec esz rows) v) : ∃ ad cap, v = .slice ad rows.length cap := by
 cases h <;> exact ⟨_, _, rfl⟩
theorem sref_slice {p n e o l : Nat} {v : Value} (h : Rel kn m (.sref p n e o l) v) : ∃ ad cap, v = .slice ad l cap := by
 cases h <;> exact ⟨_, _, rfl⟩
theorem gives_len (hI : Inv C B kn m σ nx w) {t ty : Nat} {a x : AV} {v : Value} (h : lenA C.P t a = some x) (ha : Rel kn m a v) : Gives C B kn m σ nx x ((Builtin.len_ #[t] ty #[v]).run C.P w) := by
 have hs : ∀ l : List UInt8, (ByteArray.mk l.toArray).size = l.length := fun l => by simp [ByteArray.size]
 have key : slcT C.P t = true → ∀ n : Nat, (∃ ad cap, v = .slice ad n cap) → Gives C B kn m σ nx (.int .i64 n) ((Builtin.len_ #[t] ty #[v]).run C.P w) := fun hc n hv => by
  obtain ⟨e, hu⟩ := slcT_sound hc
  obtain ⟨ad, cap, rfl⟩ := hv
  exact Gives.pure hI (run_len_slice hu ad n cap) (.int _ _)
 unfold lenA at h
 split at h
 ·cases ha
  split at h
  ·rename_i l hc
   cases h
   have := Go.run_len_string (P := C.P) w t ty (ByteArray.mk l.toArray) (strT_sound hc)
   rw [hs] at this
   exact Gives.pure hI this (.int _ _)
  ·cases h
 ·split at h
  ·rename_i hc; cases h; exact key hc _ (vec_slice ha)
  ·cases h
 ·split at h
  ·rename_i hc; cases h; have := vec_slice (rel_tvec.1 ha); rw [List.length_map] at this; exact key hc _ this
  ·cases h
 ·split at h
  ·rename_i hc; cases h; cases ha; rename_i hh; exact key hc _ (sref_slice hh)
  ·cases h
 ·split at h
  ·rename_i hc
   cases h
   cases ha with
   | gvE => exact key hc 0 ⟨_, _, rfl⟩
   | gvS _ _ _ _ _ _ hh => exact key hc _ (sref_slice hh)
  ·cases h
 ·split at h
  ·rename_i hc; cases h; exact key hc _ (sref_slice ha)
  ·cases h
 ·split at h
  ·rename_i hc; cases h; exact key hc 0 (by cases ha <;> exact ⟨_, _, rfl⟩)
  ·cases h
 ·split at h
  ·rename_i hc; cases h; exact key hc 0 (by cases ha; exact ⟨_, _, rfl⟩)
  ·cases h
 ·cases h
theorem gives_ext (hI : Inv C B kn m σ nx w) {i : Nat} {a x : AV} {v : Value} (h : extA a i = some x) (ha : Rel kn m a v) : Gives C B kn m σ nx x ((Instr.extract v i).run C.P w) := by
 unfold extA at h
 split at h
 ·cases ha with
  | tup _ vs hl hr =>
   have hlt : i < vs.size := by rw [← hl]; exact (List.getElem?_eq_some_iff.1 h).1
   exact Gives.pure hI (u := vs[i]) (by simp [Instr.extract, hlt]) (hr i x _ h (by simp [hlt]))
 ·cases h
theorem conT_sound {P : Program} {t : Nat} (h : conT P t = true) : ∃ d, P.underlying t = some d ∧ ∀ ms, d ≠ .interface ms := by
 unfold conT at h
 split at h
 ·cases h
 ·cases h
 ·rename_i x h1 h2
  cases hx : P.underlying t with
  | none => exact absurd hx h2
  | some d => exact ⟨d, rfl, fun ms e => h1 ms (by rw [hx, e])⟩
theorem zeroV_sound {t : Nat} {z : AV} (h : assertA.zeroV C.P t = some z) : ∃ u, (zeroValue t).run C.P w = .ok u w ∧ Rel kn m z u := by
 unfold assertA.zeroV at h
 cases hi : C.P.info? t with
 | none => simp [hi] at h
 | some i =>
  cases hz : i.zero with
  | none => simp [hi, hz] at h
  | some v =>
   simp only [hi, Option.bind_some, hz] at h
   refine ⟨v, by simp [zeroValue, typeInfo, hi, hz], ?_⟩
   split at h
   ·rename_i cs
    simp only [Option.ite_none_right_eq_some, Option.some.injEq] at h
    obtain ⟨h1, rfl⟩ := h
    refine .agg _ _ (by simp) (fun j x v a b => ?_) (fun j v b => List.all_eq_true.1 h1 v (List.mem_of_getElem? (by simpa using b)))
    rw [List.getElem?_map] at a
    have b' : cs.toList[j]? = some v := by simpa using b
    rw [b'] at a
    simp at a
    subst a
    exact ofVal_rel kn m v
   ·cases h
    exact ofVal_rel kn m _
theorem gives_assert (hI : Inv C B kn m σ nx w) {xt t : Nat} {ok : Bool} {a x : AV} {v : Value} (h : assertA C.P a t ok = some x) (ha : Rel kn m a v) : Gives C B kn m σ nx x ((Instr.typeAssert v xt t ok).run C.P w) := by
 have tup2 : ∀ (a b : AV) (u v : Value), Rel kn m a u → Rel kn m b v → Rel kn m (.tup [a, b]) (.tuple #[u, v]) := fun a b u v h1 h2 =>
  .tup _ _ rfl (fun i x y p q => by
   match i with
   | 0 => simp at p q; subst p; subst q; exact h1
   | 1 => simp at p q; subst p; subst q; exact h2
   | i + 2 => simp at p)
 unfold assertA at h
 split at h
 ·rename_i hc
  obtain ⟨d, hd, hni⟩ := conT_sound hc
  split at h
  ·rename_i t' y
   cases ha with
   | iface _ _ v' hr =>
    split at h
    ·rename_i he
     subst he
     cases h
     cases ok
     ·refine Gives.pure hI (u := v') ?_ hr
      cases d <;> simp [Instr.typeAssert, run_underlying hd] <;> exact absurd rfl (hni _)
     ·refine Gives.pure hI (u := .tuple #[v', .bool true]) ?_ (tup2 _ _ _ _ hr (.bool _))
      cases d <;> simp [Instr.typeAssert, run_underlying hd] <;> exact absurd rfl (hni _)
    ·rename_i he
     cases ok
     ·simp at h
     ·simp only [if_true] at h
      split at h
      ·rename_i z hz
       cases h
       obtain ⟨u, hu, hzr⟩ := zeroV_sound (kn := kn) (m := m) (w := w) hz
       refine Gives.pure hI (u := .tuple #[u, .bool false]) ?_ (tup2 _ _ _ _ hzr (.bool _))
       cases d <;> simp [Instr.typeAssert, run_underlying hd, he, hu] <;> exact absurd rfl (hni _)
      ·cases h
  ·cases ha
   cases ok
   ·simp at h
   ·simp only [if_true] at h
    split at h
    ·rename_i z hz
     cases h
     obtain ⟨u, hu, hzr⟩ := zeroV_sound (kn := kn) (m := m) (w := w) hz
     refine Gives.pure hI (u := .tuple #[u, .bool false]) ?_ (tup2 _ _ _ _ hzr (.bool _))
     cases d <;> simp [Instr.typeAssert, run_underlying hd, hu] <;> exact absurd rfl (hni _)
    ·cases h
  ·cases h
 ·cases h
theorem rel_map {env : Nat → AV} {n : Nat} {act : Act} (hI : Inv C B kn m σ nx w) (hE : RelEnv kn m env n act) (l : Array Operand) :
  (l.toList.map (opv C env)).length = (l.map act.eval).size ∧ ∀ (i : Nat) (x : AV) (v : Value), (l.toList.map (opv C env))[i]? = some x → (l.map act.eval)[i]? = some v → Rel kn m x v := by
 refine ⟨by simp, fun i x v a b => ?_⟩
 rw [List.getElem?_map] at a
 rw [Array.getElem?_map] at b
 have hl : l.toList[i]? = l[i]? := by simp
 rw [hl] at a
 cases ho : l[i]? with
 | none => simp [ho] at a
 | some o =>
  simp [ho] at a b
  subst a; subst b
  exact rel_opv hI hE o
theorem rel_parts {env : Nat → AV} {n : Nat} {act : Act} (hI : Inv C B kn m σ nx w) (hE : RelEnv kn m env n act) (l : Array (Nat × Operand)) :
  (l.toList.map fun p => (p.1, opv C env p.2)).length = (l.map fun (i, x) => (i, act.eval x)).size ∧
  ∀ (i : Nat) (p : Nat × AV) (p' : Nat × Value), (l.toList.map fun p => (p.1, opv C env p.2))[i]? = some p → (l.map fun (i, x) => (i, act.eval x))[i]? = some p' → p.1 = p'.1 ∧ Rel kn m p.2 p'.2 := by
 refine ⟨by simp, fun i p p' a b => ?_⟩
 rw [List.getElem?_map] at a
 rw [Array.getElem?_map] at b
 have hl : l.toList[i]? = l[i]? := by simp
 rw [hl] at a
 cases ho : l[i]? with
 | none => simp [ho] at a
 | some o =>
  simp [ho] at a b
  subst a; subst b
  exact ⟨rfl, rel_opv hI hE o.2⟩
theorem rel_omap {env : Nat → AV} {n : Nat} {act : Act} (hI : Inv C B kn m σ nx w) (hE : RelEnv kn m env n act) (o : Option Operand) :
  (∀ a, o.map (opv C env) = some a → ∃ v, o.map act.eval = some v ∧ Rel kn m a v) ∧ (o.map (opv C env) = none → o.map act.eval = none) := by
 cases o with
 | none => exact ⟨fun a h => by simp at h, fun _ => rfl⟩
 | some x => exact ⟨fun a h => by simp at h; subst h; exact ⟨_, rfl, rel_opv hI hE x⟩, fun h => by simp at h⟩
theorem arr_one {a : Array Value} (h : a.size = 1) : ∃ v, a = #[v] := by
 obtain ⟨l⟩ := a
 match l, h with
 | [v], _ => exact ⟨v, rfl⟩
theorem arr_two {a : Array Value} (h : a.size = 2) : ∃ v u, a = #[v, u] := by
 obtain ⟨l⟩ := a
 match l, h with
 | [v, u], _ => exact ⟨v, u, rfl⟩
def isAlloc : Op → Bool
 | .alloc _ => true
 | _ => false
theorem fop_sound {env : Nat → AV} {n : Nat} {act : Act} (hI : Inv C B kn m σ nx w) (hE : RelEnv kn m env n act) {al : Nat × Nat} {o : Oper} {x : AV} (hna : isAlloc o.op = false) (h : fop C al o.op env σ = some x) :
  ∃ u kn' w', (execOp act.eval o).run C.P w = .ok (.value u) w' ∧ KnLe kn kn' ∧ Rel kn' m x u ∧ Inv C B kn' m σ nx w' := by
 have lift : ∀ {s : Sem Value}, (execOp act.eval o = do pure (.value (← s))) → Gives C B kn m σ nx x (s.run C.P w) → ∃ u kn' w', (execOp act.eval o).run C.P w = .ok (.value u) w' ∧ KnLe kn kn' ∧ Rel kn' m x u ∧ Inv C B kn' m σ nx w' := by
  intro s e ⟨u, kn', w', h1, h2, h3, h4⟩
  exact ⟨u, kn', w', by rw [e]; simp [h1], h2, h3, h4⟩
 obtain ⟨dst, op, type, pos, after, guard⟩ := o
 simp only at h hna
 unfold fop at h
 split at h
 ·rename_i y; cases h; exact ⟨_, kn, w, rfl, KnLe.refl _, rel_opv hI hE y, hI⟩
 ·rename_i y; cases h; exact ⟨_, kn, w, rfl, KnLe.refl _, rel_opv hI hE y, hI⟩
 ·rename_i c a b
  split at h
  ·rename_i t ht
   cases h
   have hc := rel_opv hI hE c
   rw [ht] at hc
   generalize hcv : act.eval c = cv at hc
   cases hc
   refine lift (s := do pure (if ← asBool (act.eval c) then act.eval a else act.eval b)) (by simp [execOp]) (Gives.pure hI (u := if t = true then act.eval a else act.eval b) (by simp [hcv, asBool]) ?_)
   cases t
   ·exact rel_opv hI hE b
   ·exact rel_opv hI hE a
  ·cases h
 ·simp [isAlloc] at hna
 ·rename_i T y
  cases hc : cellsA (opv C env y) with
  | none => simp [hc] at h
  | some cs =>
   simp [hc] at h
   subst h
   exact lift rfl (gives_box hI (rel_opv hI hE y) hc T)
 ·rename_i t parts
  split at h
  ·rename_i z pl hz hb
   cases hf : fillA (pl[·]?) z (parts.toList.map fun p => (p.1, opv C env p.2)) with
   | none => simp [hf] at h
   | some cs =>
    simp [hf] at h
    subst h
    exact lift rfl (gives_build hI hz hb hf (rel_parts hI hE parts).1 (rel_parts hI hE parts).2)
  ·cases h
 ·rename_i t len parts
  split at h
  ·rename_i e sz by_ he
   split at h
   ·rename_i z hz
    split at h
    ·rename_i hc
     cases hr : rowsA sz (List.replicate len z) (parts.toList.map fun p => (p.1, opv C env p.2)) with
     | none => simp [hr] at h
     | some rows =>
      simp [hr] at h
      subst h
      obtain ⟨arr, h1, h2, h3, h4⟩ := gives_buildSlice hI he hz hc.1 hc.2.1 hc.2.2 hr (rel_parts hI hE parts).1 (rel_parts hI hE parts).2
      have hlen : len ≤ 2 ^ 62 := by
       have : len * 1 ≤ len * sz := Nat.mul_le_mul_left _ hc.1
       have h2 : (16777216 : Nat) ≤ 2 ^ 62 := by decide
       omega
      exact lift rfl (gives_vec hI h2 h3 h4 hc.1 hlen h1)
    ·cases h
   ·cases h
  ·cases h
 ·rename_i T a
  obtain ⟨u, h1, h2⟩ := run_readA hI h (rel_opv hI hE a)
  exact lift rfl (Gives.pure hI h1 h2)
 ·rename_i y
  unfold nilckA at h
  have hr := rel_opv hI hE y
  generalize hv : act.eval y = v at hr
  split at h
  ·rename_i hy
   cases h
   rw [hy] at hr
   cases hr with
   | rptr cs b o vals hk hh hh1 => exact ⟨_, kn, w, by simp [execOp, hv], KnLe.refl _, .rptr _ b o vals hk hh hh1, hI⟩
  ·rename_i hy
   cases h
   rw [hy] at hr
   cases hr with
   | ref p nm o loc hm => exact ⟨_, kn, w, by simp [execOp, hv], KnLe.refl _, .ref _ _ _ loc hm, hI⟩
  ·rename_i hy
   cases h
   rw [hy] at hr
   cases hr with
   | eref p nm i o loc hm => exact ⟨_, kn, w, by simp [execOp, hv], KnLe.refl _, .eref _ _ _ _ loc hm, hI⟩
  ·rename_i hy
   cases h
   rw [hy] at hr
   cases hr with
   | fn f a b a' b' h1 h2 h3 h4 => exact ⟨_, kn, w, by simp [execOp, hv], KnLe.refl _, .fn _ _ _ a' b' h1 h2 h3 h4, hI⟩
  ·cases h
 ·rename_i bop t a b yt
  exact lift rfl (gives_bin hI h (rel_opv hI hE a) (rel_opv hI hE b))
 ·rename_i uop t a
  exact lift rfl (gives_un hI h (rel_opv hI hE a))
 ·rename_i s d a
  exact lift rfl (gives_conv hI h (rel_opv hI hE a))
 ·rename_i t a
  split at h
  ·rename_i hc
   cases h
   obtain ⟨d, hd, hni⟩ := conT_sound hc
   refine lift rfl (Gives.pure hI (u := .iface t (act.eval a)) ?_ (.iface t _ _ (rel_opv hI hE a)))
   cases d <;> simp [Instr.makeInterface, run_underlying hd] <;> exact absurd rfl (hni _)
  ·cases h
 ·rename_i f a b
  cases h
  refine lift rfl (Gives.pure hI (u := .func f (a.map act.eval) (b.map act.eval)) rfl ?_)
  exact .fn f _ _ _ _ (rel_map hI hE a).1 (rel_map hI hE b).1 (rel_map hI hE a).2 (rel_map hI hE b).2
 ·rename_i s a f
  exact lift rfl (gives_fieldAddr hI h (rel_opv hI hE a))
 ·rename_i t a f
  exact lift rfl (gives_field hI h (rel_opv hI hE a))
 ·rename_i t a i
  exact lift rfl (gives_indexAddr hI h (rel_opv hI hE a) (rel_opv hI hE i))
 ·rename_i t a i
  exact lift rfl (gives_index hI h (rel_opv hI hE a) (rel_opv hI hE i))
 ·rename_i t a lo hi mx
  exact lift rfl (gives_slice hI h (rel_opv hI hE a) (rel_omap hI hE lo).1 (rel_omap hI hE lo).2 (rel_omap hI hE hi).1 (rel_omap hI hE hi).2 (rel_omap hI hE mx).1 (rel_omap hI hE mx).2)
 ·rename_i a i
  exact lift rfl (gives_ext hI h (rel_opv hI hE a))
 ·rename_i a xt t ok
  exact lift rfl (gives_assert hI h (rel_opv hI hE a))
 ·rename_i c
  split at h
  ·rename_i b hb
   have hargs := rel_map hI hE c.args
   obtain ⟨consts, hexec⟩ : ∃ consts, execOp act.eval { dst := dst, op := .call c, type := type, pos := pos, after := after, guard := guard } = builtin b c.argTypes type consts (c.args.map act.eval) :=
    ⟨_, by simp only [execOp, resolve, hb, invoke, pure_bind]; rfl⟩
   unfold bfun at h
   split at h
   ·rename_i t x' ht hx
    rw [hx] at hargs
    have hsz : (c.args.map act.eval).size = 1 := hargs.1.symm
    obtain ⟨v, hv⟩ := arr_one hsz
    have hr := hargs.2 0 x' v rfl (by rw [hv]; rfl)
    have hts : c.argTypes = #[t] := by rw [← Array.toArray_toList (xs := c.argTypes), ht]
    refine lift (s := Builtin.len_ #[t] type #[v]) ?_ (gives_len hI h hr)
    rw [hexec, hv, hts]
    rfl
   ·rename_i ts x' y' hx
    rw [hx] at hargs
    have hsz : (c.args.map act.eval).size = 2 := hargs.1.symm
    obtain ⟨v, u, hv⟩ := arr_two hsz
    have h1 := hargs.2 0 x' v rfl (by rw [hv]; rfl)
    have h2 := hargs.2 1 y' u rfl (by rw [hv]; rfl)
    unfold maxA at h
    split at h
    ·rename_i k p k' q
     cases h
     cases h1; cases h2
     refine lift (s := Builtin.max_ c.argTypes type #[.int k p, .int k' q]) ?_ (Gives.pure hI (u := .int k (if q > p then q else p)) ?_ (.int _ _))
     ·rw [hexec, hv]; rfl
     ·simp [Builtin.max_, Builtin.max2]
    ·cases h
   ·rename_i ts x' y' hx
    rw [hx] at hargs
    have hsz : (c.args.map act.eval).size = 2 := hargs.1.symm
    obtain ⟨v, u, hv⟩ := arr_two hsz
    have h1 := hargs.2 0 x' v rfl (by rw [hv]; rfl)
    have h2 := hargs.2 1 y' u rfl (by rw [hv]; rfl)
    unfold maxA at h
    split at h
    ·rename_i k p k' q
     cases h
     cases h1; cases h2
     refine lift (s := Builtin.min_ c.argTypes type #[.int k p, .int k' q]) ?_ (Gives.pure hI (u := .int k (if q < p then q else p)) ?_ (.int _ _))
     ·rw [hexec, hv]; rfl
     ·simp [Builtin.min_, Builtin.min2]
    ·cases h
   ·cases h
  ·cases h
 ·cases h
end
end Go.Ab
