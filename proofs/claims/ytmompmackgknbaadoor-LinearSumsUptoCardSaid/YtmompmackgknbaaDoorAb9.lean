/-
  OPERATIONS THAT WRITE, part two: 'eop' and that it is sound.
-/
import Derived.Test.YtmompmackgknbaaDoorAb8
set_option linter.unusedVariables false
set_option linter.unusedSimpArgs false
namespace Go.Ab
open Go Go.RowKit

/-- A value stored into cells. -/
def spliceA (cs : List AV) (off : Nat) (vs : List AV) : Option (List AV) := if off + vs.length ≤ cs.length then some (cs.take off ++ (vs ++ cs.drop (off + vs.length))) else none
def storeA (P : Program) (T : TypeId) (σ : Sto) (a x : AV) : Option Sto :=
  match cellsA x, szT P T with
  | some vs, some n => if vs.length = n then (match a with
    | .ref p nm off => match sget σ p nm with
      | some (.cells T' cs) => (spliceA cs off vs).map fun cs' => σ.set p (nm, .cells T' cs')
      | _ => none
    | .eref p nm i off => match sget σ p nm with
      | some (.gvec esz ety rows) => match rows[i]? with
        | some row => (spliceA row off vs).map fun row' => σ.set p (nm, .gvec esz ety (rows.set i row'))
        | none => none
      | _ => none
    | _ => none) else none
  | _, _ => none
/-- The elements of a slice (or a string's bytes) that are appended. -/
def elemsA (sz : Nat) (σ : Sto) (y : AV) : Option (List (List AV)) :=
  match y with
  | .vec esz rows => if esz = sz ∨ rows = [] then some rows else none
  | .sref p nm esz off len => match sget σ p nm with
    | some (.gvec esz' _ rows) => if esz = sz ∧ esz' = sz ∧ off + len ≤ rows.length then some ((rows.drop off).take len) else none
    | _ => none
  | .base (.slice none 0 0) => some []
  | .emp => some []
  | _ => none
def strElems (l : List UInt8) : List (List AV) := l.map fun b => [.int .u8 b.toNat]
def limB : Nat := 140737488355328
def appendA (P : Program) (t t' : TypeId) (σ : Sto) (nx : Nat) (x y : AV) : Option (AV × Sto × Nat) :=
  match elmT P t with
  | some (e, sz, bytes) => if 0 < sz ∧ ((zeroCells P e).map (·.length)) = some sz then (match (match y with
      | .str l => if strT P t' ∧ sz = 1 then some (strElems l) else none
      | y => if slcT P t' then elemsA sz σ y else none) with
    | some ys => (match x with
      | .base (.slice none 0 0) => if ys.length * bytes ≤ limB ∧ ys.length ≤ 4611686018427387904 then (if ys.length = 0 then some (.base (.slice none 0 0), σ, nx) else some (.sref σ.length nx sz 0 ys.length, σ ++ [(nx, .gvec sz e ys)], nx + 1)) else none
      | .emp => if ys.length * bytes ≤ limB ∧ ys.length ≤ 4611686018427387904 then (if ys.length = 0 then some (.emp, σ, nx) else some (.sref σ.length nx sz 0 ys.length, σ ++ [(nx, .gvec sz e ys)], nx + 1)) else none
      | .sref p nm esz off len => match sget σ p nm with
        | some (.gvec esz' e' rows) => if esz = sz ∧ esz' = sz ∧ e' = e ∧ off + len ≤ rows.length ∧ (len + ys.length) * bytes ≤ limB ∧ len + ys.length ≤ 4611686018427387904 then
            some (.sref p nx sz 0 (len + ys.length), σ.set p (nx, .gvec sz e ((rows.drop off).take len ++ ys)), nx + 1) else none
        | _ => none
      | _ => none)
    | none => none) else none
  | none => none
def makeA (P : Program) (t : TypeId) (σ : Sto) (nx : Nat) (l c : AV) : Option (AV × Sto × Nat) :=
  match elmT P t, l, c with
  | some (e, sz, bytes), .int _ n, .int _ k => (match zeroCells P e with
    | some z => if 0 < sz ∧ z.length = sz ∧ 0 ≤ n ∧ n ≤ k ∧ k * bytes ≤ 281474976710656 ∧ k ≤ 4611686018427387904 then some (.sref σ.length nx sz 0 n.toNat, σ ++ [(nx, .gvec sz e (List.replicate n.toNat z))], nx + 1) else none
    | none => none)
  | _, _, _ => none

/-- The next character of a text. -/
def nextA (σ : Sto) (nx : Nat) (it : AV) : Option (AV × Sto × Nat) :=
  match it with
  | .ref p nm 0 => match sget σ p nm with
    | some (.siter l pos) => if pos < l.length then some (.tup [.bool true, .int .i64 pos, .int .i32 (Utf8.decode ⟨l.toArray⟩ pos).1], σ.set p (nm, .siter l (pos + (Utf8.decode ⟨l.toArray⟩ pos).2)), nx)
      else some (.tup [.bool false], σ, nx)
    | _ => none
  | _ => none
def rangeA (P : Program) (t : TypeId) (σ : Sto) (nx : Nat) (x : AV) : Option (AV × Sto × Nat) :=
  match x with
  | .str l => if strT P t = true then some (.ref σ.length nx 0, σ ++ [(nx, .siter l 0)], nx + 1) else none
  | _ => none

/-- The value, the store and the next name behind an operation that writes. -/
def eop (C : Cx) (op : Op) (env : Nat → AV) (σ : Sto) (nx : Nat) : Option (AV × Sto × Nat) :=
  match op with
  | .box T x => (cellsA (opv C env x)).map fun cs => (.ref σ.length nx 0, σ ++ [(nx, .cells T cs)], nx + 1)
  | .buildSlice t len parts => match elmT C.P t with
    | some (e, sz, _) => match zeroCells C.P e with
      | some z => if 0 < sz ∧ z.length = sz ∧ len * sz ≤ 16777216 then (rowsA sz (List.replicate len z) (parts.toList.map fun p => (p.1, opv C env p.2))).map fun rows =>
          (.sref σ.length nx sz 0 len, σ ++ [(nx, .gvec sz e rows)], nx + 1) else none
      | none => none
    | none => none
  | .store T a x => (storeA C.P T σ (opv C env a) (opv C env x)).map fun σ' => (.undef, σ', nx)
  | .makeSlice t l c => makeA C.P t σ nx (opv C env l) (opv C env c)
  | .range t x => rangeA C.P t σ nx (opv C env x)
  | .next x true => nextA σ nx (opv C env x)
  | .call c => match c.callee, c.argTypes.toList, c.args.toList.map (opv C env) with
    | .builtin .append, [t, t'], [x, y] => appendA C.P t t' σ nx x y
    | _, _, _ => none
  | _ => none

section
variable {C : Cx} {B : Base} {kn : Kn} {m : Mp} {σ : Sto} {nx : Nat} {w : World}

def Writes (C : Cx) (B : Base) (kn : Kn) (m : Mp) (σ : Sto) (nx : Nat) (x : AV) (σ' : Sto) (nx' : Nat) (r : Result Next) : Prop :=
  ∃ nxt u m' w', r = .ok nxt w' ∧ (nxt = .value u ∨ (nxt = .skip ∧ u = undef)) ∧ Rel kn m' x u ∧ Inv C B kn m' σ' nx' w' ∧ Keep m σ nx m' σ' nx'

theorem run_alloc_cells (w : World) (arr : Array Value) (T : TypeId) : (w.alloc (.cells arr T)).heap[w.heap.size]? = some (.cells arr T (0, 0)) := heap_alloc_new w _

theorem writes_box (hI : Inv C B kn m σ nx w) {T : TypeId} {x : AV} {v : Value} {cs : List AV} (hx : Rel kn m x v) (hc : cellsA x = some cs) :
    ∃ u m' w', (Instr.box T v).run C.P w = .ok u w' ∧ Rel kn m' (.ref σ.length nx 0) u ∧ Inv C B kn m' (σ ++ [(nx, .cells T cs)]) (nx + 1) w' ∧ Keep m σ nx m' (σ ++ [(nx, .cells T cs)]) (nx + 1) := by
  have hrl := hx.cells hc
  have hmle : MpLe m (mput m nx ⟨w.heap.size, 0, 0, 0⟩) := fun n l e => by
    rw [mput_ne]
    · exact e
    · intro en; subst en; rw [hI.dom n (Nat.le_refl _)] at e; cases e
  obtain ⟨h1, h2⟩ := hI.new (ob' := .cells T cs) (loc' := ⟨w.heap.size, 0, 0, 0⟩) (w' := w.alloc (.cells v.cells T)) (by simp) rfl rfl rfl (Nat.le_refl _) (by simp) (fun b hb => Below.heap_alloc _ _ _ hb)
    (by
      simp only [ObjRel, mput_same]
      exact ⟨trivial, v.cells, T, run_alloc_cells w v.cells T, hrl.mono (KnLe.refl _) hmle⟩)
  exact ⟨_, _, _, rfl, .ref _ _ _ _ (mput_same _ _ _), h1, h2⟩

theorem gvec_obj {nm esz ety : Nat} {rows : List (List AV)} {loc : Loc} {arr : Array Value} {w : World} (hm : m nm = some loc) (he : loc.esz = esz) (hw : w.heap[loc.blk]? = some (.cells arr ety (0, 0))) (ho : loc.off = 0) (hs : loc.cap * esz ≤ arr.size)
    (hr : rows.length ≤ loc.cap) (hcm : loc.cap ≤ maxLen) (h1 : ∀ v ∈ arr.toList, v.oneCell' = true) (hrow : ∀ (i : Nat) (row : List AV), rows[i]? = some row → row.length = esz)
    (hrel : ∀ (i : Nat) (row : List AV) (j : Nat) (x : AV) (v : Value), rows[i]? = some row → row[j]? = some x → arr[i * esz + j]? = some v → Rel kn m x v) : ObjRel C.P kn m w nm (.gvec esz ety rows) :=
  ⟨loc, hm, he, arr, hw, by omega, hr, hcm, h1, hrow, fun i row j x v a b c => hrel i row j x v a b (by rwa [ho, Nat.zero_add] at c)⟩

theorem le62 {n : Nat} (h : n ≤ 4611686018427387904) : n ≤ 2 ^ 62 := h
theorem le62_max {n : Nat} (h : n ≤ 4611686018427387904) : n ≤ maxLen := by unfold maxLen; omega

theorem writes_buildSlice (hI : Inv C B kn m σ nx w) {t len e sz by_ : Nat} {z : List AV} {rows : List (List AV)} {parts : List (Nat × AV)} {parts' : Array (Nat × Value)} (he : elmT C.P t = some (e, sz, by_)) (hz : zeroCells C.P e = some z)
    (hs0 : 0 < sz) (hzl : z.length = sz) (hlim : len * sz ≤ 16777216) (hr : rowsA sz (List.replicate len z) parts = some rows) (hl : parts.length = parts'.size)
    (hp : ∀ (i : Nat) (p : Nat × AV) (p' : Nat × Value), parts[i]? = some p → parts'[i]? = some p' → p.1 = p'.1 ∧ Rel kn m p.2 p'.2) :
    ∃ u m' w', (Instr.buildSlice t len parts').run C.P w = .ok u w' ∧ Rel kn m' (.sref σ.length nx sz 0 len) u ∧ Inv C B kn m' (σ ++ [(nx, .gvec sz e rows)]) (nx + 1) w' ∧ Keep m σ nx m' (σ ++ [(nx, .gvec sz e rows)]) (nx + 1) := by
  obtain ⟨arr, hrun, hfl, has, hrl⟩ := gives_buildSlice hI he hz hs0 hzl hlim hr hl hp
  have hlen : len ≤ 16777216 := by have : len * 1 ≤ len * sz := Nat.mul_le_mul_left _ hs0; omega
  have hmle : MpLe m (mput m nx ⟨w.heap.size, 0, len, sz⟩) := fun n l e => by
    rw [mput_ne]
    · exact e
    · intro en; subst en; rw [hI.dom n (Nat.le_refl _)] at e; cases e
  obtain ⟨h1, h2⟩ := hI.new (ob' := .gvec sz e rows) (loc' := ⟨w.heap.size, 0, len, sz⟩) (w' := w.alloc (.cells arr e)) (by simp) rfl rfl rfl (Nat.le_refl _) (by simp) (fun b hb => Below.heap_alloc _ _ _ hb)
    (gvec_obj (mput_same _ _ _) rfl (run_alloc_cells w arr e) rfl (by rw [has]; exact Nat.le_refl _) (by rw [hrl]; exact Nat.le_refl _) (by show len ≤ maxLen; unfold maxLen; omega) hfl.2.2 hfl.1
      (fun i row j x v a b c => (hfl.2.1 i row j x v a b (by simpa using c)).mono (KnLe.refl _) hmle))
  refine ⟨_, _, _, hrun, ?_, h1, h2⟩
  have := Rel.sref (kn := kn) (m := mput m nx ⟨w.heap.size, 0, len, sz⟩) σ.length nx sz 0 len _ (mput_same _ _ _) rfl (by simp) (le62 (by omega))
  simpa using this

/-! ### A store -/
theorem run_store_cells {g : Nat} {o : Nat} {ty : TypeId} {cur : Array Value} {T n : Nat} {v : Value} (hg : w.heap[g]? = some (.cells cur ty (0, 0))) (hT : szT C.P T = some n) (hn : v.cells.size = n) (hfit : o + n ≤ cur.size) (h1 : ∀ u ∈ v.cells.toList, u.oneCell' = true) :
    (Instr.storeAt T (.pointer (some ⟨g, o, none⟩)) v).run C.P w = .ok () (w.setRow g (cur.toList.take o ++ (v.cells.toList ++ cur.toList.drop (o + n))).toArray) := by
  have hst := run_storeCells_at C.P g o ty v.cells.toList 0 cur w hg (by simp [hn]; exact hfit) h1
  simp only [Nat.add_zero, List.append_assoc] at hst
  simp only [Instr.storeAt, Instr.sureAddr, storeVar, Sem.run_bind, Sem.run_pure, Result.andThen_ok, run_sizeOf' hT, hn]
  simp [hst, hn]

theorem store_sound (hI : Inv C B kn m σ nx w) {T : TypeId} {a x : AV} {av v : Value} {σ' : Sto} (h : storeA C.P T σ a x = some σ') (ha : Rel kn m a av) (hx : Rel kn m x v) :
    ∃ w', (Instr.storeAt T av v).run C.P w = .ok () w' ∧ Inv C B kn m σ' nx w' ∧ Keep m σ nx m σ' nx := by
  unfold storeA at h
  split at h
  · rename_i vs n hvs hT
    split at h
    · rename_i hlen
      have hv := hx.cells hvs
      have hvn : v.cells.size = n := by rw [← Array.length_toList, ← hv.1.1]; exact hlen
      cases ha with
      | ref p nm off loc hm =>
        simp only at h
        split at h
        · rename_i T' cs hs
          have hp := sget_some hs
          unfold spliceA at h
          split at h
          · rename_i hfit
            simp only [Option.map_some, Option.some.injEq] at h
            subst h
            have hob := hI.obj _ _ _ hp
            simp only [ObjRel, hm] at hob
            obtain ⟨h0, arr, ty, hw, hrl⟩ := hob
            have hfit' : off + n ≤ arr.size := by rw [← Array.length_toList, ← hrl.1.1]; omega
            have hrun := run_store_cells (C := C) (w := w) (o := loc.off + off) (T := T) (v := v) hw hT hvn (by rw [h0]; omega) hv.2
            rw [h0, Nat.zero_add] at hrun
            obtain ⟨q1, q2⟩ := hI.write (ob' := .cells T' (cs.take off ++ (vs ++ cs.drop (off + vs.length)))) hp trivial hm (w' := w.setRow loc.blk (arr.toList.take off ++ (v.cells.toList ++ arr.toList.drop (off + n))).toArray) (by simp) rfl rfl rfl
              (fun b hb => setRow_other _ _ _ _ hb)
              (by
                simp only [ObjRel, hm]
                refine ⟨h0, _, ty, setRow_heap w loc.blk arr _ ty (0, 0) hw, ?_⟩
                have e := (hrl.take off).append (hv.append (hrl.drop (off + vs.length)))
                rw [hlen] at e ⊢
                simpa using e)
            exact ⟨_, by rw [h0, Nat.zero_add]; exact hrun, q1, q2⟩
          · simp at h
        · cases h
      | eref p nm i off loc hm =>
        simp only at h
        split at h
        · rename_i esz ety rows hs
          have hp := sget_some hs
          split at h
          · rename_i row hrow
            unfold spliceA at h
            split at h
            · rename_i hfit
              simp only [Option.map_some, Option.some.injEq] at h
              subst h
              have hob := hI.obj _ _ _ hp
              obtain ⟨loc', hm', he, arr, hw, hsz, hle, hmx, hone, hrl, hrr⟩ := hob
              rw [hm] at hm'; cases hm'
              subst he
              have hir : i < rows.length := (List.getElem?_eq_some_iff.1 hrow).1
              have hrowl := hrl i row hrow
              have hoff : i * loc.esz + loc.esz ≤ loc.cap * loc.esz := by rw [← Nat.succ_mul]; exact Nat.mul_le_mul_right _ (by omega)
              have hfit' : loc.off + i * loc.esz + off + n ≤ arr.size := by omega
              have hrun := run_store_cells (C := C) (w := w) (o := loc.off + i * loc.esz + off) (T := T) (v := v) hw hT hvn hfit' hv.2
              have hvl : v.cells.toList.length = n := by simpa using hvn
              have hget : ∀ k, (arr.toList.take (loc.off + i * loc.esz + off) ++ (v.cells.toList ++ arr.toList.drop (loc.off + i * loc.esz + off + n)))[k]? = if loc.off + i * loc.esz + off ≤ k ∧ k < loc.off + i * loc.esz + off + n then v.cells.toList[k - (loc.off + i * loc.esz + off)]? else arr.toList[k]? := fun k => by
                have := splice_get arr.toList v.cells.toList (loc.off + i * loc.esz + off) k (by rw [hvl]; simpa using hfit')
                rw [hvl] at this; exact this
              obtain ⟨q1, q2⟩ := hI.write (ob' := .gvec loc.esz ety (rows.set i (row.take off ++ (vs ++ row.drop (off + vs.length))))) hp trivial hm
                (w' := w.setRow loc.blk (arr.toList.take (loc.off + i * loc.esz + off) ++ (v.cells.toList ++ arr.toList.drop (loc.off + i * loc.esz + off + n))).toArray) (by simp) rfl rfl rfl
                (fun b hb => setRow_other _ _ _ _ hb)
                (by
                  refine ⟨loc, hm, rfl, _, setRow_heap w loc.blk arr _ ety (0, 0) hw, ?_, by simpa using hle, hmx, fun u hu => ?_, fun k r hk => ?_, fun k r j y u hk hj hu => ?_⟩
                  · rw [List.size_toArray]
                    have := splice_len arr.toList v.cells.toList (loc.off + i * loc.esz + off) (by rw [hvl]; simpa using hfit')
                    rw [hvl] at this
                    rw [this]; simpa using hsz
                  · simp only [List.mem_append] at hu
                    rcases hu with hu | hu | hu
                    · exact hone u (List.mem_of_mem_take hu)
                    · exact hv.2 u hu
                    · exact hone u (List.mem_of_mem_drop hu)
                  · rw [List.getElem?_set] at hk
                    split at hk
                    · cases hk; simp; omega
                    · exact hrl k r hk
                  · rw [List.getElem?_toArray, hget] at hu
                    rw [List.getElem?_set] at hk
                    split at hk
                    · rename_i hki
                      subst hki
                      cases hk
                      rw [splice_get _ _ _ _ hfit] at hj
                      split at hj
                      · rename_i hjr
                        rw [if_pos ⟨by omega, by omega⟩] at hu
                        exact hv.1.2 (j - off) y u hj (by rw [← hu]; congr 1; omega)
                      · rename_i hjr
                        rw [if_neg (by omega)] at hu
                        exact hrr i row j y u hrow hj (by simpa using hu)
                    · rename_i hki
                      have hjl : j < loc.esz := by rw [← hrl k r hk]; exact (List.getElem?_eq_some_iff.1 hj).1
                      rw [if_neg (fun hh => hki (idx_inj hjl (by omega) (by omega)).symm)] at hu
                      exact hrr k r j y u hk hj (by simpa using hu))
              exact ⟨_, hrun, q1, q2⟩
            · simp at h
          · cases h
        · cases h
      | _ => cases h
    · cases h
  · cases h

/-! ### Reading elements -/
/-- A list of cells out of rows of one width. -/
theorem flat_mk {sz : Nat} (hs0 : 0 < sz) {rows : List (List AV)} (hrow : ∀ (i : Nat) (row : List AV), rows[i]? = some row → row.length = sz) (vals : Nat → Nat → Value)
    (hr : ∀ (i : Nat) (row : List AV) (j : Nat) (x : AV), rows[i]? = some row → row[j]? = some x → Rel kn m x (vals i j))
    (h1 : ∀ (i : Nat) (row : List AV) (j : Nat) (x : AV), rows[i]? = some row → row[j]? = some x → (vals i j).oneCell' = true) :
    Flat kn m sz rows ((List.range (rows.length * sz)).map fun k => vals (k / sz) (k % sz)) := by
  refine ⟨hrow, fun i row j x v hi hj hv => ?_, fun v hv => ?_⟩
  · have hjl : j < sz := by rw [← hrow i row hi]; exact (List.getElem?_eq_some_iff.1 hj).1
    have hlt := idx_lt (List.getElem?_eq_some_iff.1 hi).1 hjl
    rw [List.getElem?_map, List.getElem?_range hlt] at hv
    simp only [Option.map_some, Option.some.injEq] at hv
    have e1 : (i * sz + j) / sz = i := by rw [Nat.mul_comm, Nat.mul_add_div hs0, Nat.div_eq_of_lt hjl]; omega
    have e2 : (i * sz + j) % sz = j := by rw [Nat.mul_add_mod_self_right, Nat.mod_eq_of_lt hjl]
    rw [e1, e2] at hv
    subst hv
    exact hr i row j x hi hj
  · rw [List.mem_map] at hv
    obtain ⟨k, hk, rfl⟩ := hv
    have hk' : k < rows.length * sz := List.mem_range.1 hk
    have hq : k / sz < rows.length := (Nat.div_lt_iff_lt_mul hs0).2 hk'
    have hi : rows[k / sz]? = some rows[k / sz] := List.getElem?_eq_getElem hq
    have hj : k % sz < rows[k / sz].length := by rw [hrow _ _ hi]; exact Nat.mod_lt _ hs0
    exact h1 _ _ _ _ hi (List.getElem?_eq_getElem hj)

def Elems (C : Cx) (kn : Kn) (m : Mp) (w : World) (sz : Nat) (ys : List (List AV)) (yv : Value) : Prop :=
  ∃ news : List Value, news.length = ys.length * sz ∧ Flat kn m sz ys news ∧ ∀ w2 : World, w2.heap = w.heap → (Builtin.lenOf yv).run C.P w2 = .ok ys.length w2 ∧ (Builtin.firstCells sz ys.length yv).run C.P w2 = .ok news.toArray w2

theorem cell_heap {w w2 : World} (h : w2.heap = w.heap) (a : Addr) : w2.cell? a = w.cell? a := by unfold World.cell?; rw [h]

theorem run_loadRange {P : Program} {w : World} (b o n : Nat) (news : List Value) (hl : news.length = n) (h : ∀ (k : Nat) (v : Value), news[k]? = some v → w.cell? ⟨b, o + k, none⟩ = some v) (w2 : World) (hw : w2.heap = w.heap) :
    (loadCells ⟨b, o, none⟩ n).run P w2 = .ok news.toArray w2 := by
  have := run_loadCells_list (P := P) w2 ⟨b, o, none⟩ news (fun k v hv => by rw [add_mk, cell_heap hw]; exact h k v hv)
  rwa [hl] at this

theorem elems_nil {sz : Nat} {yv : Value} (h : ∃ a c, yv = .slice a 0 c) : Elems C kn m w sz [] yv := by
  obtain ⟨a, c, rfl⟩ := h
  refine ⟨[], by simp, ⟨fun i row h => by simp at h, fun i row j x v h => by simp at h, fun v h => by simp at h⟩, fun w2 hw => ⟨rfl, ?_⟩⟩
  cases a with
  | none => rfl
  | some ad => simp [Builtin.firstCells, loadCells, loadCellsFrom]

theorem elems_sound (hI : Inv C B kn m σ nx w) {sz : Nat} (hs0 : 0 < sz) {y : AV} {yv : Value} {ys : List (List AV)} (h : elemsA sz σ y = some ys) (hy : Rel kn m y yv) : Elems C kn m w sz ys yv := by
  unfold elemsA at h
  split at h
  · split at h
    · rename_i hc
      cases h
      cases hy with
      | vecNil _ a cap => exact elems_nil ⟨a, cap, rfl⟩
      | vec _ _ b o cap vals hcp hm hrow hk hr h1 =>
        by_cases hnil : ys = []
        · subst hnil; exact elems_nil ⟨_, cap, rfl⟩
        · have he := hc.resolve_right hnil
          simp only [he] at hrow hk
          refine ⟨_, by simp, flat_mk hs0 hrow vals hr h1, fun w2 hw => ⟨rfl, ?_⟩⟩
          refine run_loadRange b o _ _ (by simp) (fun k v hv => ?_) w2 hw
          have hk' : k < ys.length * sz := by
            have := (List.getElem?_eq_some_iff.1 hv).1
            simpa using this
          rw [List.getElem?_map, List.getElem?_range hk'] at hv
          simp only [Option.map_some, Option.some.injEq] at hv
          subst hv
          have hq : k / sz < ys.length := (Nat.div_lt_iff_lt_mul hs0).2 hk'
          have hi : ys[k / sz]? = some ys[k / sz] := List.getElem?_eq_getElem hq
          have hj : k % sz < ys[k / sz].length := by rw [hrow _ _ hi]; exact Nat.mod_lt _ hs0
          have := hI.knok _ _ _ (hk _ _ _ _ hi (List.getElem?_eq_getElem hj))
          rw [show o + k / sz * sz + k % sz = o + k by rw [Nat.add_assoc, Nat.div_add_mod' k _]] at this
          exact this
    · cases h
  · rename_i p nm esz off len
    split at h
    · rename_i esz' ety rows hs
      split at h
      · rename_i hc
        cases h
        obtain ⟨rfl, rfl, hle⟩ := hc
        cases hy with
        | sref _ _ _ _ _ loc hm he hl hm' =>
          have hob := hI.obj _ _ _ (sget_some hs)
          obtain ⟨loc', hm'', he', arr, hw, hsz, hle', hmx, hone, hrl, hrr⟩ := hob
          rw [hm] at hm''; cases hm''
          have hlen : ((rows.drop off).take len).length = len := by simp; omega
          have hsub : ∀ (i : Nat) (row : List AV), ((rows.drop off).take len)[i]? = some row → i < len ∧ rows[off + i]? = some row := fun i row hi => by
            rw [List.getElem?_take] at hi
            split at hi
            · rename_i hil; rw [List.getElem?_drop] at hi; exact ⟨hil, hi⟩
            · cases hi
          have hin : ∀ i j, i < len → j < esz' → loc.off + (off + i) * esz' + j < arr.size := fun i j hi hj => by
            have h1 := idx_lt (show off + i < loc.cap by omega) hj
            omega
          have hmem : ∀ i j, i < len → j < esz' → w.cell? ⟨loc.blk, loc.off + (off + i) * esz' + j, none⟩ = some (arr.getD (loc.off + (off + i) * esz' + j) undef) := fun i j hi hj => by
            have := hin i j hi hj
            simp [World.cell?, hw, this]
          have fm := flat_mk (kn := kn) (m := m) hs0 (rows := (rows.drop off).take len) (fun i row hi => hrl _ _ (hsub i row hi).2) (fun i j => arr.getD (loc.off + (off + i) * esz' + j) undef)
            (fun i row j x hi hj => by
              obtain ⟨hil, hi'⟩ := hsub i row hi
              have hjl : j < esz' := by rw [← hrl _ _ hi']; exact (List.getElem?_eq_some_iff.1 hj).1
              exact hrr _ _ _ _ _ hi' hj (by simp [hin i j hil hjl]))
            (fun i row j x hi hj => by
              obtain ⟨hil, hi'⟩ := hsub i row hi
              have hjl : j < esz' := by rw [← hrl _ _ hi']; exact (List.getElem?_eq_some_iff.1 hj).1
              exact hone _ (by simp [hin i j hil hjl]))
          refine ⟨_, by simp, fm, fun w2 hw2 => ⟨by rw [hlen]; rfl, ?_⟩⟩
          refine run_loadRange loc.blk (loc.off + off * loc.esz) _ _ (by simp) (fun k v hv => ?_) w2 hw2
          have hk' : k < ((rows.drop off).take len).length * esz' := by
            have := (List.getElem?_eq_some_iff.1 hv).1
            simpa using this
          rw [List.getElem?_map, List.getElem?_range hk'] at hv
          simp only [Option.map_some, Option.some.injEq] at hv
          subst hv
          rw [hlen] at hk'
          have hq : k / esz' < len := (Nat.div_lt_iff_lt_mul hs0).2 hk'
          have := hmem (k / esz') (k % esz') hq (Nat.mod_lt _ hs0)
          rw [← this]
          congr 2
          rw [he, Nat.add_mul]
          have := Nat.div_add_mod' k esz'
          omega
      · cases h
    · cases h
  · cases hy; cases h; exact elems_nil ⟨none, 0, rfl⟩
  · cases hy; cases h; exact elems_nil ⟨_, 0, rfl⟩
  · cases h

theorem elems_str {l : List UInt8} : Elems C kn m w 1 (strElems l) (.string ⟨l.toArray⟩) := by
  refine ⟨l.map fun b => .int .u8 b.toNat, by simp [strElems], ⟨fun i row hi => ?_, fun i row j x v hi hj hv => ?_, fun v hv => ?_⟩, fun w2 hw => ⟨?_, ?_⟩⟩
  · rw [strElems, List.getElem?_map] at hi
    cases hb : l[i]? with
    | none => simp [hb] at hi
    | some b => simp [hb] at hi; subst hi; rfl
  · rw [strElems, List.getElem?_map] at hi
    cases hb : l[i]? with
    | none => simp [hb] at hi
    | some b =>
      simp [hb] at hi
      subst hi
      cases j with
      | succ j => simp at hj
      | zero =>
        simp at hj
        subst hj
        simp [hb] at hv
        subst hv
        exact .int _ _
  · rw [List.mem_map] at hv
    obtain ⟨b, _, rfl⟩ := hv
    rfl
  · have hs : (ByteArray.mk l.toArray).size = l.length := by simp [ByteArray.size]
    simp only [Builtin.lenOf, Sem.run_pure, hs, strElems, List.length_map]
  · simp only [Builtin.firstCells, strElems, List.length_map]
    have : ((ByteArray.mk l.toArray).extract 0 l.length) = ByteArray.mk l.toArray := by
      rw [ByteArray.extract_mk]; simp
    rw [this]
    simp
end
end Go.Ab
