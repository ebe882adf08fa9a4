/-
  OPERATIONS THAT WRITE, part three: append, make; and the whole.
-/
import Derived.Test.YtdagildojaagiaaGreatDoorZ2
set_option linter.unusedVariables false
set_option linter.unusedSimpArgs false
namespace Go.Ab
open Go Go.RowKit
def mapO {α β : Type} (f : α → Option β) : List α → Option (List β)
 | [] => some []
 | a :: t => match f a, mapO f t with
  | some b, some l => some (b :: l)
  | _, _ => none
def castL {e' e : E} (h : e' = e) (l : List e'.den) : List e.den := h ▸ l
theorem castL_rfl {e : E} (l : List e.den) : castL (rfl : e = e) l = l := rfl
def absSl (e : E) (rec : List AV → Option e.den) : AV → Option (List e.den)
 | .tvec e' l => if h : e' = e then some (castL h l) else none
 | .base (.slice none 0 0) => some []
 | .base (.slice (some _) 0 _) => some []
 | .emp => some []
 | .vec esz rows => if esz = e.size then mapO rec rows else none
 | _ => none
def absInt (k : IntKind) : List AV → Option Int
 | [.int k' n] => if k' = k then some n else none
 | _ => none
def absBool : List AV → Option Bool
 | [.bool b] => some b
 | _ => none
def absStr : List AV → Option (List UInt8)
 | [.str l] => some l
 | _ => none
def absErri : List AV → Option Bool
 | [.erri b] => some b
 | [.base .nilIface] => some true
 | [.iface _ _] => some false
 | _ => none
def absForm (rec : List AV → Option Fm) : List AV → Option Fm
 | [.int .i64 k, .int .i64 n, .str t, s] => (absSl .form rec s).map (Fm.mk k n t)
 | _ => none
def absUn : List AV → Option Unit
 | [] => some ()
 | _ => none
def absPr {α β : Type} : Option α → Option β → Option (α × β)
 | some x, some y => some (x, y)
 | _, _ => none
def absOne (e : E) (rec : List AV → Option e.den) : List AV → Option (List e.den)
 | [s] => absSl e rec s
 | _ => none
def absStep (rec : (e : E) → List AV → Option e.den) : (e : E) → List AV → Option e.den
 | .int k, cs => absInt k cs
 | .bool, cs => absBool cs
 | .str, cs => absStr cs
 | .erri, cs => absErri cs
 | .form, cs => absForm (rec .form) cs
 | .un, cs => absUn cs
 | .pr a b, cs => absPr (rec a (cs.take a.size)) (rec b (cs.drop a.size))
 | .slice e, cs => absOne e (rec e) cs
def absC : Nat → (e : E) → List AV → Option e.den
 | 0, _, _ => none
 | f + 1, e, cs => absStep (absC f) e cs
def absF : Nat := 40
def spliceA (cs : List AV) (off : Nat) (vs : List AV) : Option (List AV) := if off + vs.length ≤ cs.length then some (cs.take off ++ (vs ++ cs.drop (off + vs.length))) else none
def storeA (P : Program) (T : TypeId) (σ : Sto) (a x : AV) : Option Sto :=
 match cellsA x, szT P T with
 | some vs, some n => if vs.length = n then (match a with
  | .ref p nm off => match sget σ p nm with
   | some (.cells T' cs) => (spliceA cs off vs).map fun cs' => σ.set p (nm, .cells T' cs')
   | _ => none
  | .eref p nm i off => match sget σ p nm with
   | some (.gvec esz ety rows) => match rows[i]? with
    | some row => (spliceA row off vs).map fun row' => σ.set p (nm, .gvec esz ety (rows.set i row'))
    | none => none
   | some (.tg e ety l) => if i < l.length then (spliceA (e.cells (l.getD i e.dflt)) off vs).bind fun row' => (absC absF e row').map fun y => σ.set p (nm, .tg e ety (l.set i y)) else none
   | _ => none
  | _ => none) else none
 | _, _ => none
def elemsA (sz : Nat) (σ : Sto) (y : AV) : Option (List (List AV)) :=
 match y with
 | .vec esz rows => if esz = sz ∨ rows = [] then some rows else none
 | .sref p nm esz off len => match sget σ p nm with
  | some (.gvec esz' _ rows) => if esz = sz ∧ esz' = sz ∧ off + len ≤ rows.length then some ((rows.drop off).take len) else none
  | _ => none
 | .base (.slice none 0 0) => some []
 | .emp => some []
 | _ => none
def strElems (l : List UInt8) : List (List AV) := l.map fun b => [.int .u8 b.toNat]
def limB : Nat := 140737488355328
def appendA (P : Program) (t t' : TypeId) (σ : Sto) (nx : Nat) (x y : AV) : Option (AV × Sto × Nat) :=
 match elmT P t with
 | some (e, sz, bytes) => if 0 < sz ∧ ((zeroCells P e).map (·.length)) = some sz then (match (match y with
   | .str l => if strT P t' ∧ sz = 1 then some (strElems l) else none
   | y => if slcT P t' then elemsA sz σ y else none) with
  | some ys => (match x with
   | .base (.slice none 0 0) => if ys.length * bytes ≤ limB ∧ ys.length ≤ 4611686018427387904 then (if ys.length = 0 then some (.base (.slice none 0 0), σ, nx) else some (.sref σ.length nx sz 0 ys.length, σ ++ [(nx, .gvec sz e ys)], nx + 1)) else none
   | .emp => if ys.length * bytes ≤ limB ∧ ys.length ≤ 4611686018427387904 then (if ys.length = 0 then some (.emp, σ, nx) else some (.sref σ.length nx sz 0 ys.length, σ ++ [(nx, .gvec sz e ys)], nx + 1)) else none
   | .sref p nm esz off len => match sget σ p nm with
    | some (.gvec esz' e' rows) => if esz = sz ∧ esz' = sz ∧ e' = e ∧ off + len ≤ rows.length ∧ (len + ys.length) * bytes ≤ limB ∧ len + ys.length ≤ 4611686018427387904 then
      some (.sref p nx sz 0 (len + ys.length), σ.set p (nx, .gvec sz e ((rows.drop off).take len ++ ys)), nx + 1) else none
    | _ => none
   | _ => none)
  | none => none) else none
 | none => none
def makeA (P : Program) (t : TypeId) (σ : Sto) (nx : Nat) (l c : AV) : Option (AV × Sto × Nat) :=
 match elmT P t, l, c with
 | some (e, sz, bytes), .int _ n, .int _ k => (match zeroCells P e with
  | some z => if 0 < sz ∧ z.length = sz ∧ 0 ≤ n ∧ n ≤ k ∧ k * bytes ≤ 281474976710656 ∧ k ≤ 4611686018427387904 then some (.sref σ.length nx sz 0 n.toNat, σ ++ [(nx, .gvec sz e (List.replicate n.toNat z))], nx + 1) else none
  | none => none)
 | _, _, _ => none
def elemsT (P : Program) (t' : TypeId) (e : E) (σ : Sto) (y : AV) : Option (List e.den) :=
 match y with
 | .str l => if strT P t' = true then (if h : (.int .u8) = e then some (castL h (l.map fun b => (b.toNat : Int))) else none) else none
 | .gs p nm e' len => if slcT P t' = true then (match sget σ p nm with
  | some (.tg e2 _ l) => if h : e2 = e then (if e' = e then some (castL h l) else none) else none
  | _ => none) else none
 | y => if slcT P t' = true then absSl e (absC absF e) y else none
def appendT (P : Program) (t t' : TypeId) (e : E) (σ : Sto) (nx : Nat) (x y : AV) : Option (AV × Sto × Nat) :=
 match elmT P t, elemsT P t' e σ y with
 | some (ety, sz, bytes), some ys => if 0 < sz ∧ ((zeroCells P ety).map (·.length)) = some sz ∧ e.size = sz then (match x with
  | .base (.slice none 0 0) => if ys.length * bytes ≤ limB ∧ ys.length ≤ 4611686018427387904 then some (.gs σ.length nx e ys.length, σ ++ [(nx, .tg e ety ys)], nx + 1) else none
  | .gs p nm e' len => match sget σ p nm with
   | some (.tg e2 ety' l) => if h : e2 = e then (if e' = e ∧ ety' = ety ∧ (l.length + ys.length) * bytes ≤ limB ∧ l.length + ys.length ≤ 4611686018427387904 then
     some (.gs p nx e (l.length + ys.length), σ.set p (nx, .tg e ety (castL h l ++ ys)), nx + 1) else none) else none
   | _ => none
  | _ => none) else none
 | _, _ => none
def makeT (P : Program) (t : TypeId) (e : E) (σ : Sto) (nx : Nat) (l c : AV) : Option (AV × Sto × Nat) :=
 match elmT P t, l, c with
 | some (ety, sz, bytes), .int _ n, .int _ k => (match zeroCells P ety with
  | some z => (match absC absF e z with
   | some z' => if 0 < sz ∧ z.length = sz ∧ e.size = sz ∧ 0 ≤ n ∧ n ≤ k ∧ k * bytes ≤ 281474976710656 ∧ k ≤ 4611686018427387904 then some (.gs σ.length nx e n.toNat, σ ++ [(nx, .tg e ety (List.replicate n.toNat z'))], nx + 1) else none
   | none => none)
  | none => none)
 | _, _, _ => none
def bslT (P : Program) (t len : Nat) (e : E) (σ : Sto) (nx : Nat) (parts : List (Nat × AV)) : Option (AV × Sto × Nat) :=
 match elmT P t with
 | some (ety, sz, _) => match zeroCells P ety with
  | some z => if 0 < sz ∧ z.length = sz ∧ e.size = sz ∧ len * sz ≤ 16777216 then (match rowsA sz (List.replicate len z) parts with
   | some rows => (mapO (absC absF e) rows).map fun l => (.gs σ.length nx e l.length, σ ++ [(nx, .tg e ety l)], nx + 1)
   | none => none) else none
  | none => none
 | none => none
def shrinkT (P : Program) (t : TypeId) (σ : Sto) (nx : Nat) (x : AV) (lo hi : Option AV) : Option (AV × Sto × Nat) :=
 match x with
 | .gs p nm e len => match elmT P t, bndA len lo hi, sget σ p nm with
  | some (_, sz, _), some (l', h), some (.tg e2 ety l) => if e = e2 ∧ e.size = sz ∧ l' = 0 ∧ 0 ≤ h ∧ h ≤ l.length then some (.gs p nx e2 h.toNat, σ.set p (nx, .tg e2 ety (l.take h.toNat)), nx + 1) else none
  | _, _, _ => none
 | _ => none
def clearT (P : Program) (t : TypeId) (σ : Sto) (x : AV) : Option Sto :=
 match x with
 | .gv p nm e off len => match elmT P t, sget σ p nm with
  | some (ety, sz, _), some (.tg e2 ety' l) => (match zeroCells P ety with
   | some z => (match absC absF e2 z with
    | some z' => if e = e2 ∧ e.size = sz ∧ z.length = sz ∧ off + len ≤ l.length then some (σ.set p (nm, .tg e2 ety' (l.take off ++ (List.replicate len z' ++ l.drop (off + len))))) else none
    | none => none)
   | none => none)
  | _, _ => none
 | _ => none
def nextA (σ : Sto) (nx : Nat) (it : AV) : Option (AV × Sto × Nat) :=
 match it with
 | .ref p nm 0 => match sget σ p nm with
  | some (.siter l pos) => if pos < l.length then some (.tup [.bool true, .int .i64 pos, .int .i32 (Utf8.decode ⟨l.toArray⟩ pos).1], σ.set p (nm, .siter l (pos + (Utf8.decode ⟨l.toArray⟩ pos).2)), nx)
   else some (.tup [.bool false], σ, nx)
  | _ => none
 | _ => none
def rangeA (P : Program) (t : TypeId) (σ : Sto) (nx : Nat) (x : AV) : Option (AV × Sto × Nat) :=
 match x with
 | .str l => if strT P t = true then some (.ref σ.length nx 0, σ ++ [(nx, .siter l 0)], nx + 1) else none
 | _ => none
def eop (C : Cx) (ty : Option E) (op : Op) (env : Nat → AV) (σ : Sto) (nx : Nat) : Option (AV × Sto × Nat) :=
 match op with
 | .box T x => (cellsA (opv C env x)).map fun cs => (.ref σ.length nx 0, σ ++ [(nx, .cells T cs)], nx + 1)
 | .buildSlice t len parts => match ty with
  | some e => bslT C.P t len e σ nx (parts.toList.map fun p => (p.1, opv C env p.2))
  | none => match elmT C.P t with
   | some (e, sz, _) => match zeroCells C.P e with
    | some z => if 0 < sz ∧ z.length = sz ∧ len * sz ≤ 16777216 then (rowsA sz (List.replicate len z) (parts.toList.map fun p => (p.1, opv C env p.2))).map fun rows =>
      (.sref σ.length nx sz 0 len, σ ++ [(nx, .gvec sz e rows)], nx + 1) else none
    | none => none
   | none => none
 | .store T a x => (storeA C.P T σ (opv C env a) (opv C env x)).map fun σ' => (.undef, σ', nx)
 | .makeSlice t l c => match ty with
  | some e => makeT C.P t e σ nx (opv C env l) (opv C env c)
  | none => makeA C.P t σ nx (opv C env l) (opv C env c)
 | .slice t x lo hi none => shrinkT C.P t σ nx (opv C env x) (lo.map (opv C env)) (hi.map (opv C env))
 | .range t x => rangeA C.P t σ nx (opv C env x)
 | .next x true => nextA σ nx (opv C env x)
 | .call c => match c.callee, c.argTypes.toList, c.args.toList.map (opv C env) with
  | .builtin .append, [t, t'], [x, y] => match ty with
   | some e => appendT C.P t t' e σ nx x y
   | none => appendA C.P t t' σ nx x y
  | .builtin .clear, [t], [x] => (clearT C.P t σ x).map fun σ' => (.tup [], σ', nx)
  | _, _, _ => none
 | _ => none
section
variable {C : Cx} {B : Base} {kn : Kn} {m : Mp} {σ : Sto} {nx : Nat} {w : World}
def Writes (C : Cx) (B : Base) (kn : Kn) (m : Mp) (σ : Sto) (nx : Nat) (x : AV) (σ' : Sto) (nx' : Nat) (r : Result Next) : Prop :=
 ∃ nxt u m' w', r = .ok nxt w' ∧ (nxt = .value u ∨ (nxt = .skip ∧ u = undef)) ∧ Rel kn m' x u ∧ Inv C B kn m' σ' nx' w' ∧ Keep m σ nx m' σ' nx'
theorem run_alloc_cells (w : World) (arr : Array Value) (T : TypeId) : (w.alloc (.cells arr T)).heap[w.heap.size]? = some (.cells arr T (0, 0)) := heap_alloc_new w _
theorem writes_box (hI : Inv C B kn m σ nx w) {T : TypeId} {x : AV} {v : Value} {cs : List AV} (hx : Rel kn m x v) (hc : cellsA x = some cs) :
  ∃ u m' w', (Instr.box T v).run C.P w = .ok u w' ∧ Rel kn m' (.ref σ.length nx 0) u ∧ Inv C B kn m' (σ ++ [(nx, .cells T cs)]) (nx + 1) w' ∧ Keep m σ nx m' (σ ++ [(nx, .cells T cs)]) (nx + 1) := by
 have hrl := hx.cells hc
 have hmle : MpLe m (mput m nx ⟨w.heap.size, 0, 0, 0, 0, false⟩) := fun n l e => by
  rw [mput_ne]
  ·exact e
  ·intro en; subst en; rw [hI.dom n (Nat.le_refl _)] at e; cases e
 obtain ⟨h1, h2⟩ := hI.new (ob' := .cells T cs) (loc' := ⟨w.heap.size, 0, 0, 0, 0, false⟩) (w' := w.alloc (.cells v.cells T)) (by simp) rfl rfl rfl (.inr (Nat.le_refl _)) (by simp) (fun b hb => Below.heap_alloc _ _ _ hb)
  (by
   simp only [ObjRel, mput_same]
   exact ⟨trivial, trivial, v.cells, run_alloc_cells w v.cells T, hrl.mono (KnLe.refl _) hmle⟩)
 exact ⟨_, _, _, rfl, .ref _ _ _ _ (mput_same _ _ _), h1, h2⟩
theorem gvec_obj {nm esz ety : Nat} {rows : List (List AV)} {loc : Loc} {arr : Array Value} {w : World} (hm : m nm = some loc) (hnl : loc.nil = false) (hll : loc.len = rows.length) (he : loc.esz = esz) (hw : w.heap[loc.blk]? = some (.cells arr ety (0, 0))) (ho : loc.off = 0) (hs : loc.cap * esz ≤ arr.size)
  (hr : rows.length ≤ loc.cap) (hcm : loc.cap ≤ maxLen) (h1 : ∀ v ∈ arr.toList, v.oneCell' = true) (hrow : ∀ (i : Nat) (row : List AV), rows[i]? = some row → row.length = esz)
  (hrel : ∀ (i : Nat) (row : List AV) (j : Nat) (x : AV) (v : Value), rows[i]? = some row → row[j]? = some x → arr[i * esz + j]? = some v → Rel kn m x v) : ObjRel C.P kn m w nm (.gvec esz ety rows) :=
 ⟨loc, hm, hll, .inr ⟨hnl, he, arr, hw, by omega, hr, hcm, h1, hrow, fun i row j x v a b c => hrel i row j x v a b (by rwa [ho, Nat.zero_add] at c)⟩⟩
theorem le62 {n : Nat} (h : n ≤ 4611686018427387904) : n ≤ 2 ^ 62 := h
theorem le62_max {n : Nat} (h : n ≤ 4611686018427387904) : n ≤ maxLen := by unfold maxLen; omega
theorem writes_buildSlice (hI : Inv C B kn m σ nx w) {t len e sz by_ : Nat} {z : List AV} {rows : List (List AV)} {parts : List (Nat × AV)} {parts' : Array (Nat × Value)} (he : elmT C.P t = some (e, sz, by_)) (hz : zeroCells C.P e = some z)
  (hs0 : 0 < sz) (hzl : z.length = sz) (hlim : len * sz ≤ 16777216) (hr : rowsA sz (List.replicate len z) parts = some rows) (hl : parts.length = parts'.size)
  (hp : ∀ (i : Nat) (p : Nat × AV) (p' : Nat × Value), parts[i]? = some p → parts'[i]? = some p' → p.1 = p'.1 ∧ Rel kn m p.2 p'.2) :
  ∃ u m' w', (Instr.buildSlice t len parts').run C.P w = .ok u w' ∧ Rel kn m' (.sref σ.length nx sz 0 len) u ∧ Inv C B kn m' (σ ++ [(nx, .gvec sz e rows)]) (nx + 1) w' ∧ Keep m σ nx m' (σ ++ [(nx, .gvec sz e rows)]) (nx + 1) := by
 obtain ⟨arr, hrun, hfl, has, hrl⟩ := gives_buildSlice hI he hz hs0 hzl hlim hr hl hp
 have hlen : len ≤ 16777216 := by have : len * 1 ≤ len * sz := Nat.mul_le_mul_left _ hs0; omega
 have hmle : MpLe m (mput m nx ⟨w.heap.size, 0, len, sz, len, false⟩) := fun n l e => by
  rw [mput_ne]
  ·exact e
  ·intro en; subst en; rw [hI.dom n (Nat.le_refl _)] at e; cases e
 obtain ⟨h1, h2⟩ := hI.new (ob' := .gvec sz e rows) (loc' := ⟨w.heap.size, 0, len, sz, len, false⟩) (w' := w.alloc (.cells arr e)) (by simp) rfl rfl rfl (.inr (Nat.le_refl _)) (by simp) (fun b hb => Below.heap_alloc _ _ _ hb)
  (gvec_obj (mput_same _ _ _) rfl hrl.symm rfl (run_alloc_cells w arr e) rfl (by rw [has]; exact Nat.le_refl _) (by rw [hrl]; exact Nat.le_refl _) (by show len ≤ maxLen; unfold maxLen; omega) hfl.2.2 hfl.1
   (fun i row j x v a b c => (hfl.2.1 i row j x v a b (by simpa using c)).mono (KnLe.refl _) hmle))
 refine ⟨_, _, _, hrun, ?_, h1, h2⟩
 have := Rel.sref (kn := kn) (m := mput m nx ⟨w.heap.size, 0, len, sz, len, false⟩) σ.length nx sz 0 len _ (mput_same _ _ _) rfl rfl (by simp) (le62 (by omega))
 simpa using this
theorem run_store_cells {g : Nat} {o : Nat} {ty : TypeId} {cur : Array Value} {T n : Nat} {v : Value} (hg : w.heap[g]? = some (.cells cur ty (0, 0))) (hT : szT C.P T = some n) (hn : v.cells.size = n) (hfit : o + n ≤ cur.size) (h1 : ∀ u ∈ v.cells.toList, u.oneCell' = true) :
  (Instr.storeAt T (.pointer (some ⟨g, o, none⟩)) v).run C.P w = .ok () (w.setRow g (cur.toList.take o ++ (v.cells.toList ++ cur.toList.drop (o + n))).toArray) := by
 have hst := run_storeCells_at C.P g o ty v.cells.toList 0 cur w hg (by simp [hn]; exact hfit) h1
 simp only [Nat.add_zero, List.append_assoc] at hst
 simp only [Instr.storeAt, Instr.sureAddr, storeVar, Sem.run_bind, Sem.run_pure, Result.andThen_ok, run_sizeOf' hT, hn]
 simp [hst, hn]
theorem mapO_get {α β : Type} {f : α → Option β} : ∀ {ags : List α} {bs : List β}, mapO f ags = some bs → bs.length = ags.length ∧ ∀ (i : Nat) (b : β), bs[i]? = some b → ∃ a, ags[i]? = some a ∧ f a = some b
 | [], bs, h => by simp only [mapO, Option.some.injEq] at h; subst h; exact ⟨rfl, fun i b h => by simp at h⟩
 | a :: t, bs, h => by
  simp only [mapO] at h
  split at h
  ·rename_i b l hb hl
   cases h
   obtain ⟨h1, h2⟩ := mapO_get hl
   refine ⟨by simp [h1], fun i c hc => ?_⟩
   cases i with
   | zero => simp at hc; subst hc; exact ⟨a, rfl, hb⟩
   | succ i => simp at hc; simpa using h2 i c hc
  ·cases h
theorem vec_conv {esz esz' : Nat} {rows rows' : List (List AV)} {v : Value} (h : Rel kn m (.vec esz rows) v) (he : esz = esz') (hl : rows'.length = rows.length)
  (hr : ∀ (i : Nat) (row row' : List AV), rows[i]? = some row → rows'[i]? = some row' → row'.length = esz' ∧ ∀ us, RelL kn m row us → RelL kn m row' us) : Rel kn m (.vec esz' rows') v := by
 subst he
 cases h with
 | vecNil _ a cap => have : rows' = [] := List.eq_nil_of_length_eq_zero (by simpa using hl); subst this; exact .vecNil _ _ _
 | vecNone _ => have : rows' = [] := List.eq_nil_of_length_eq_zero (by simpa using hl); subst this; exact .vecNone _
 | vec _ _ b o cap vals hc hm hrow hk hr' h1 =>
  have get : ∀ (i : Nat) (row' : List AV), rows'[i]? = some row' → ∃ row, rows[i]? = some row := fun i row' e => by
   have := (List.getElem?_eq_some_iff.1 e).1
   exact ⟨rows[i]'(by omega), List.getElem?_eq_getElem (by omega)⟩
  have lk : ∀ (i : Nat) (row row' : List AV) (j : Nat) (x : AV), rows[i]? = some row → rows'[i]? = some row' → row'[j]? = some x → ∃ y, row[j]? = some y := fun i row row' j x e e' ej => by
   have h1 := (List.getElem?_eq_some_iff.1 ej).1
   have h2 := (hr i row row' e e').1
   have h3 := hrow i row e
   exact ⟨row[j]'(by omega), List.getElem?_eq_getElem (by omega)⟩
  have := Rel.vec (kn := kn) (m := m) esz rows' b o cap vals (by omega) (by omega) (fun i row' e => (get i row' e).elim fun row er => (hr i row row' er e).1)
   (fun i row' j x e ej => by obtain ⟨row, er⟩ := get i row' e; obtain ⟨y, ey⟩ := lk i row row' j x er e ej; exact hk i row j y er ey)
   (fun i row' j x e ej => by
    obtain ⟨row, er⟩ := get i row' e
    have hrl := (hr i row row' er e).2 ((List.range row.length).map fun j => vals i j) ⟨by simp, fun k y v a b => by
     have hk := (List.getElem?_eq_some_iff.1 a).1
     simp [hk] at b; subst b; exact hr' i row k y er a⟩
    have hj := (List.getElem?_eq_some_iff.1 ej).1
    have hjr : j < row.length := by rw [hrow i row er]; rw [(hr i row row' er e).1] at hj; exact hj
    exact hrl.2 j x _ ej (by simp [hjr]))
   (fun i row' j x e ej => by obtain ⟨row, er⟩ := get i row' e; obtain ⟨y, ey⟩ := lk i row row' j x er e ej; exact h1 i row j y er ey)
  rw [hl] at this
  exact this
theorem absSl_sound {e : E} {rec : List AV → Option e.den} (hrec : ∀ cs x, rec cs = some x → ∀ us, RelL kn m cs us → RelL kn m (e.row x) us) {s : AV} {l : List e.den} (h : absSl e rec s = some l) {v : Value} (hv : Rel kn m s v) :
  Rel kn m (.vec e.size (l.map e.row)) v := by
 unfold absSl at h
 split at h
 ·split at h
  ·rename_i hh; subst hh; cases h; exact rel_tvec.1 hv
  ·cases h
 ·cases h; cases hv; exact .vecNone _
 ·cases h; cases hv; exact .vecNil _ _ _
 ·cases h; cases hv
  ·exact .vecNil _ _ _
  ·exact .vecNone _
 ·split at h
  ·rename_i he
   obtain ⟨hl, hg⟩ := mapO_get h
   refine vec_conv hv he (by simp [hl]) fun i row row' hi hi' => ?_
   rw [List.getElem?_map] at hi'
   cases hx : l[i]? with
   | none => simp [hx] at hi'
   | some x =>
    simp only [hx, Option.map_some, Option.some.injEq] at hi'
    subst hi'
    obtain ⟨a, ha, hf⟩ := hg i x hx
    rw [hi] at ha; cases ha
    exact ⟨E.row_len _ _, fun us => hrec row x hf us⟩
  ·cases h
 ·cases h
theorem relL_one {c : AV} {us : List Value} : RelL kn m [c] us ↔ ∃ v, us = [v] ∧ Rel kn m c v := by
 rw [RelL.cons_iff]
 constructor
 ·rintro ⟨v, us', rfl, h1, h2⟩
  have : us' = [] := List.eq_nil_of_length_eq_zero (by have := h2.1; simpa using this.symm)
  subst this; exact ⟨v, rfl, h1⟩
 ·rintro ⟨v, rfl, h⟩; exact ⟨v, [], rfl, h, .nil _ _⟩
theorem absStep_sound {rec : (e : E) → List AV → Option e.den} (ih : ∀ e cs x, rec e cs = some x → ∀ us, RelL kn m cs us → RelL kn m (e.row x) us) : ∀ (e : E) (cs : List AV) (x : e.den), absStep rec e cs = some x → ∀ us, RelL kn m cs us → RelL kn m (e.row x) us
 | .int k, cs, x, h, us, hr => by
  replace h : absInt k cs = some x := h
  unfold absInt at h
  split at h
  ·split at h
   ·rename_i hk; subst hk; cases h; exact hr
   ·cases h
  ·cases h
 | .bool, cs, x, h, us, hr => by
  replace h : absBool cs = some x := h
  unfold absBool at h
  split at h
  ·cases h; exact hr
  ·cases h
 | .str, cs, x, h, us, hr => by
  replace h : absStr cs = some x := h
  unfold absStr at h
  split at h
  ·cases h; exact hr
  ·cases h
 | .erri, cs, x, h, us, hr => by
  replace h : absErri cs = some x := h
  unfold absErri at h
  split at h
  ·cases h; exact hr
  ·cases h; obtain ⟨v, rfl, hv⟩ := relL_one.1 hr; cases hv; exact relL_one.2 ⟨_, rfl, .erriNil⟩
  ·cases h; obtain ⟨v, rfl, hv⟩ := relL_one.1 hr; cases hv; exact relL_one.2 ⟨_, rfl, .erriSome _ _⟩
  ·cases h
 | .form, cs, x, h, us, hr => by
  replace h : absForm (rec .form) cs = some x := h
  unfold absForm at h
  split at h
  ·rename_i k n t s
   obtain ⟨l, hl, rfl⟩ := Option.map_eq_some_iff.1 h
   have hs : ∀ v, Rel kn m s v → Rel kn m (.vec 4 (Fm.rows l)) v := fun v hv => by
    rw [Fm.rows_map]
    exact absSl_sound (e := .form) (fun cs x h us hr => ih .form cs x h us hr) hl hv
   show RelL kn m [.int .i64 k, .int .i64 n, .str t, .vec 4 (Fm.rows l)] us
   simp only [RelL.cons_iff] at hr ⊢
   obtain ⟨v1, u1, rfl, h1, v2, u2, rfl, h2, v3, u3, rfl, h3, v4, u4, rfl, h4, h5⟩ := hr
   exact ⟨v1, _, rfl, h1, v2, _, rfl, h2, v3, _, rfl, h3, v4, _, rfl, hs _ h4, h5⟩
  ·cases h
 | .un, cs, x, h, us, hr => by
  replace h : absUn cs = some x := h
  unfold absUn at h
  split at h
  ·exact hr
  ·cases h
 | .pr a b, cs, x, h, us, hr => by
  replace h : absPr (rec a (cs.take a.size)) (rec b (cs.drop a.size)) = some x := h
  unfold absPr at h
  split at h
  ·rename_i x y hx hy
   cases h
   show RelL kn m (a.row x ++ b.row y) us
   have hr' : RelL kn m (cs.take a.size ++ cs.drop a.size) us := by rw [List.take_append_drop]; exact hr
   obtain ⟨u1, u2, rfl, h1, h2⟩ := RelL.append_iff.1 hr'
   exact (ih a _ x hx u1 h1).append (ih b _ y hy u2 h2)
  ·cases h
 | .slice e, cs, x, h, us, hr => by
  replace h : absOne e (rec e) cs = some x := h
  unfold absOne at h
  split at h
  ·rename_i s
   obtain ⟨v, rfl, hv⟩ := relL_one.1 hr
   exact relL_one.2 ⟨v, rfl, absSl_sound (fun cs x h us hr => ih e cs x h us hr) h hv⟩
  ·cases h
theorem absC_sound : ∀ (f : Nat) (e : E) (cs : List AV) (x : e.den), absC f e cs = some x → ∀ us, RelL kn m cs us → RelL kn m (e.row x) us
 | 0, _, _, _, h, _, _ => by cases h
 | f + 1, e, cs, x, h, us, hr => absStep_sound (fun e cs x h us hr => absC_sound f e cs x h us hr) e cs x h us hr
theorem GvRel.conv {nm esz ety : Nat} {rows rows' : List (List AV)} (h : GvRel kn m w nm esz ety rows) (hl : rows'.length = rows.length)
  (hr : ∀ (i : Nat) (row row' : List AV), rows[i]? = some row → rows'[i]? = some row' → row'.length = esz ∧ ∀ us, RelL kn m row us → RelL kn m row' us) : GvRel kn m w nm esz ety rows' := by
 obtain ⟨loc, hm, hll, h⟩ := h
 refine ⟨loc, hm, by omega, ?_⟩
 rcases h with ⟨h1, h2⟩ | ⟨hnl, he, arr, hw, hsz, hle, hmx, hone, hrl, hrr⟩
 ·refine .inl ⟨h1, List.eq_nil_of_length_eq_zero ?_⟩
  rw [hl, h2]; rfl
 ·have get : ∀ (i : Nat) (row' : List AV), rows'[i]? = some row' → ∃ row, rows[i]? = some row := fun i row' e => by
   have := (List.getElem?_eq_some_iff.1 e).1
   exact ⟨rows[i]'(by omega), List.getElem?_eq_getElem (by omega)⟩
  refine .inr ⟨hnl, he, arr, hw, hsz, by omega, hmx, hone, fun i row' e => (get i row' e).elim fun row er => (hr i row row' er e).1, fun i row' j x v e ej ev => ?_⟩
  obtain ⟨row, er⟩ := get i row' e
  have hrow := hrl i row er
  have hir : i < rows.length := (List.getElem?_eq_some_iff.1 er).1
  have hin : ∀ k, k < esz → loc.off + i * esz + k < arr.size := fun k hk => by
   have : i * esz + esz ≤ loc.cap * esz := by
    rw [← Nat.succ_mul]; exact Nat.mul_le_mul_right _ (by omega)
   omega
  have hrl2 := (hr i row row' er e).2 ((List.range esz).map fun k => arr.getD (loc.off + i * esz + k) undef) ⟨by simp [hrow], fun k y v a b => by
   have hk : k < esz := by rw [← hrow]; exact (List.getElem?_eq_some_iff.1 a).1
   simp [hk] at b
   refine hrr i row k y v er a ?_
   rw [← b]; simp [hin k hk]⟩
  have hj : j < esz := by rw [← (hr i row row' er e).1]; exact (List.getElem?_eq_some_iff.1 ej).1
  refine hrl2.2 j x v ej ?_
  simp [hj]
  have := hin j hj
  simp [this] at ev ⊢
  exact ev
theorem store_row (hI : Inv C B kn m σ nx w) {p nm esz ety i off n : Nat} {ob ob' : AObj} {rows : List (List AV)} {row cs vs row'' : List AV} {loc : Loc} {T : TypeId} {v : Value}
  (hp : σ[p]? = some (nm, ob)) (hl : live ob) (hg : ObjRel C.P kn m w nm ob → GvRel kn m w nm esz ety rows) (hm : m nm = some loc) (hrow : rows[i]? = some row) (hcs : ∀ us, RelL kn m row us → RelL kn m cs us) (hcl : cs.length = esz)
  (hT : szT C.P T = some n) (hvn : v.cells.size = n) (hv : RelC kn m vs v.cells.toList) (hlen : vs.length = n) (hfit : off + vs.length ≤ cs.length)
  (hrow'' : ∀ us, RelL kn m (cs.take off ++ (vs ++ cs.drop (off + vs.length))) us → RelL kn m row'' us) (hrl'' : row''.length = esz)
  (hg' : ∀ w', GvRel kn m w' nm esz ety (rows.set i row'') → ObjRel C.P kn m w' nm ob') :
  ∃ w', (Instr.storeAt T (.pointer (some ⟨loc.blk, loc.off + i * loc.esz + off, none⟩)) v).run C.P w = .ok () w' ∧ Inv C B kn m (σ.set p (nm, ob')) nx w' ∧ Keep m σ nx m (σ.set p (nm, ob')) nx := by
 have hgv := hg (hI.obj _ _ _ hp)
 have hnl : loc.nil = false := by
  cases hx : loc.nil with
  | false => rfl
  | true => rw [hgv.nilRows hm hx] at hrow; simp at hrow
 obtain ⟨hll, he, arr, hw, hsz, hle, hmx, hone, hrl, hrr⟩ := hgv.get hm hnl
 subst he
 have hir : i < rows.length := (List.getElem?_eq_some_iff.1 hrow).1
 have hrowl := hrl i row hrow
 have hoff : i * loc.esz + loc.esz ≤ loc.cap * loc.esz := by rw [← Nat.succ_mul]; exact Nat.mul_le_mul_right _ (by omega)
 have hfit' : loc.off + i * loc.esz + off + n ≤ arr.size := by omega
 have hrun := run_store_cells (C := C) (w := w) (o := loc.off + i * loc.esz + off) (T := T) (v := v) hw hT hvn hfit' hv.2
 have hvl : v.cells.toList.length = n := by simpa using hvn
 have hget : ∀ k, (arr.toList.take (loc.off + i * loc.esz + off) ++ (v.cells.toList ++ arr.toList.drop (loc.off + i * loc.esz + off + n)))[k]? = if loc.off + i * loc.esz + off ≤ k ∧ k < loc.off + i * loc.esz + off + n then v.cells.toList[k - (loc.off + i * loc.esz + off)]? else arr.toList[k]? := fun k => by
  have := splice_get arr.toList v.cells.toList (loc.off + i * loc.esz + off) k (by rw [hvl]; simpa using hfit')
  rw [hvl] at this; exact this
 have hin : ∀ k, k < loc.esz → loc.off + i * loc.esz + k < arr.size := fun k hk => by omega
 have hold : RelL kn m cs ((List.range loc.esz).map fun k => arr.getD (loc.off + i * loc.esz + k) undef) := hcs _ ⟨by simp [hrowl], fun k y u a b => by
  have hk : k < loc.esz := by rw [← hrowl]; exact (List.getElem?_eq_some_iff.1 a).1
  simp [hk] at b
  refine hrr i row k y u hrow a ?_
  rw [← b]; simp [hin k hk]⟩
 have hnew := hrow'' _ ((hold.take off).append (hv.1.append (hold.drop (off + vs.length))))
 obtain ⟨q1, q2⟩ := hI.write (ob' := ob') hp hl hm hnl
  (w' := w.setRow loc.blk (arr.toList.take (loc.off + i * loc.esz + off) ++ (v.cells.toList ++ arr.toList.drop (loc.off + i * loc.esz + off + n))).toArray) (by simp) rfl rfl rfl
  (fun b hb => setRow_other _ _ _ _ hb)
  (hg' _ (by
   refine ⟨loc, hm, by simpa using hll, .inr ⟨hnl, rfl, _, setRow_heap w loc.blk arr _ ety (0, 0) hw, ?_, by simpa using hle, hmx, fun u hu => ?_, fun k r hk => ?_, fun k r j y u hk hj hu => ?_⟩⟩
   ·rw [List.size_toArray]
    have := splice_len arr.toList v.cells.toList (loc.off + i * loc.esz + off) (by rw [hvl]; simpa using hfit')
    rw [hvl] at this
    rw [this]; simpa using hsz
   ·simp only [List.mem_append] at hu
    rcases hu with hu | hu | hu
    ·exact hone u (List.mem_of_mem_take hu)
    ·exact hv.2 u hu
    ·exact hone u (List.mem_of_mem_drop hu)
   ·rw [List.getElem?_set] at hk
    split at hk
    ·cases hk; exact hrl''
    ·exact hrl k r hk
   ·rw [List.getElem?_toArray, hget] at hu
    rw [List.getElem?_set] at hk
    split at hk
    ·rename_i hki
     subst hki
     cases hk
     have hjl : j < loc.esz := by rw [← hrl'']; exact (List.getElem?_eq_some_iff.1 hj).1
     refine hnew.2 j y u hj ?_
     have hlt : (((List.range loc.esz).map fun k => arr.getD (loc.off + i * loc.esz + k) undef).take off).length = off := by simp; omega
     by_cases h1 : j < off
     ·rw [List.getElem?_append_left (by omega), List.getElem?_take, if_pos h1]
      rw [if_neg (by omega)] at hu
      simp [hjl]
      have := hin j hjl
      simp [this] at hu ⊢
      exact hu
     ·rw [List.getElem?_append_right (by omega), hlt]
      by_cases h2 : j < off + n
      ·rw [List.getElem?_append_left (by omega)]
       rw [if_pos ⟨by omega, by omega⟩] at hu
       rw [← hu]; congr 1; omega
      ·rw [List.getElem?_append_right (by omega), List.getElem?_drop, hvl, hlen]
       rw [if_neg (by omega)] at hu
       rw [show off + n + (j - off - n) = j by omega]
       simp [hjl]
       have := hin j hjl
       simp [this] at hu ⊢
       exact hu
    ·rename_i hki
     have hjl : j < loc.esz := by rw [← hrl k r hk]; exact (List.getElem?_eq_some_iff.1 hj).1
     rw [if_neg (fun hh => hki (idx_inj hjl (by omega) (by omega)).symm)] at hu
     exact hrr k r j y u hk hj (by simpa using hu)))
 exact ⟨_, hrun, q1, q2⟩
theorem store_sound (hI : Inv C B kn m σ nx w) {T : TypeId} {a x : AV} {av v : Value} {σ' : Sto} (h : storeA C.P T σ a x = some σ') (ha : Rel kn m a av) (hx : Rel kn m x v) :
  ∃ w', (Instr.storeAt T av v).run C.P w = .ok () w' ∧ Inv C B kn m σ' nx w' ∧ Keep m σ nx m σ' nx := by
 unfold storeA at h
 split at h
 ·rename_i vs n hvs hT
  split at h
  ·rename_i hlen
   have hv := hx.cells hvs
   have hvn : v.cells.size = n := by rw [← Array.length_toList, ← hv.1.1]; exact hlen
   cases ha with
   | ref p nm off loc hm =>
    simp only at h
    split at h
    ·rename_i T' cs hs
     have hp := sget_some hs
     unfold spliceA at h
     split at h
     ·rename_i hfit
      simp only [Option.map_some, Option.some.injEq] at h
      subst h
      have hob := hI.obj _ _ _ hp
      simp only [ObjRel, hm] at hob
      obtain ⟨hnl, h0, arr, hw, hrl⟩ := hob
      have hfit' : off + n ≤ arr.size := by rw [← Array.length_toList, ← hrl.1.1]; omega
      have hrun := run_store_cells (C := C) (w := w) (o := loc.off + off) (T := T) (v := v) hw hT hvn (by rw [h0]; omega) hv.2
      rw [h0, Nat.zero_add] at hrun
      obtain ⟨q1, q2⟩ := hI.write (ob' := .cells T' (cs.take off ++ (vs ++ cs.drop (off + vs.length)))) hp trivial hm hnl (w' := w.setRow loc.blk (arr.toList.take off ++ (v.cells.toList ++ arr.toList.drop (off + n))).toArray) (by simp) rfl rfl rfl
       (fun b hb => setRow_other _ _ _ _ hb)
       (by
        simp only [ObjRel, hm]
        refine ⟨hnl, h0, _, setRow_heap w loc.blk arr _ T' (0, 0) hw, ?_⟩
        have e := (hrl.take off).append (hv.append (hrl.drop (off + vs.length)))
        rw [hlen] at e ⊢
        simpa using e)
      exact ⟨_, by rw [h0, Nat.zero_add]; exact hrun, q1, q2⟩
     ·simp at h
    ·cases h
   | eref p nm i off loc hm =>
    simp only at h
    split at h
    ·rename_i esz ety rows hs
     have hp := sget_some hs
     split at h
     ·rename_i row hrow
      unfold spliceA at h
      split at h
      ·rename_i hfit
       simp only [Option.map_some, Option.some.injEq] at h
       subst h
       have hesz : row.length = esz := by
        obtain ⟨_, _, _, _, _, h, _⟩ := (show GvRel kn m w nm esz ety rows from hI.obj _ _ _ hp).row hm hrow
        exact h
       exact store_row hI hp trivial (fun h => h) hm hrow (fun _ h => h) hesz hT hvn hv hlen hfit (fun _ h => h) (by simp; omega) (fun _ h => h)
      ·simp at h
     ·cases h
    ·rename_i e ety l hs
     have hp := sget_some hs
     split at h
     ·rename_i hil
      obtain ⟨row', hrow', h⟩ := Option.bind_eq_some_iff.1 h
      obtain ⟨y, hy, rfl⟩ := Option.map_eq_some_iff.1 h
      unfold spliceA at hrow'
      split at hrow'
      ·rename_i hfit
       cases hrow'
       refine store_row hI hp trivial (fun h => h) (esz := e.size) (rows := l.map e.row) (row := e.row (l.getD i e.dflt)) (row'' := e.row y) hm (by simp [hil]) (fun us h => (E.rel_cells e _ us).2 h) (E.cells_len _ _) hT hvn hv hlen hfit (fun us h => absC_sound _ _ _ _ hy us h) (E.row_len _ _) (fun w' h => ?_)
       have e1 : (l.set i y).map e.row = (l.map e.row).set i (e.row y) := by rw [List.map_set]
       show GvRel _ _ _ _ _ _ ((l.set i y).map e.row)
       rw [e1]; exact h
      ·cases hrow'
     ·cases h
    ·cases h
   | _ => cases h
  ·cases h
 ·cases h
theorem flat_mk {sz : Nat} (hs0 : 0 < sz) {rows : List (List AV)} (hrow : ∀ (i : Nat) (row : List AV), rows[i]? = some row → row.length = sz) (vals : Nat → Nat → Value)
  (hr : ∀ (i : Nat) (row : List AV) (j : Nat) (x : AV), rows[i]? = some row → row[j]? = some x → Rel kn m x (vals i j))
  (h1 : ∀ (i : Nat) (row : List AV) (j : Nat) (x : AV), rows[i]? = some row → row[j]? = some x → (vals i j).oneCell' = true) :
  Flat kn m sz rows ((List.range (rows.length * sz)).map fun k => vals (k / sz) (k % sz)) := by
 refine ⟨hrow, fun i row j x v hi hj hv => ?_, fun v hv => ?_⟩
 ·have hjl : j < sz := by rw [← hrow i row hi]; exact (List.getElem?_eq_some_iff.1 hj).1
  have hlt := idx_lt (List.getElem?_eq_some_iff.1 hi).1 hjl
  rw [List.getElem?_map, List.getElem?_range hlt] at hv
  simp only [Option.map_some, Option.some.injEq] at hv
  have e1 : (i * sz + j) / sz = i := by rw [Nat.mul_comm, Nat.mul_add_div hs0, Nat.div_eq_of_lt hjl]; omega
  have e2 : (i * sz + j) % sz = j := by rw [Nat.mul_add_mod_self_right, Nat.mod_eq_of_lt hjl]
  rw [e1, e2] at hv
  subst hv
  exact hr i row j x hi hj
 ·rw [List.mem_map] at hv
  obtain ⟨k, hk, rfl⟩ := hv
  have hk' : k < rows.length * sz := List.mem_range.1 hk
  have hq : k / sz < rows.length := (Nat.div_lt_iff_lt_mul hs0).2 hk'
  have hi : rows[k / sz]? = some rows[k / sz] := List.getElem?_eq_getElem hq
  have hj : k % sz < rows[k / sz].length := by rw [hrow _ _ hi]; exact Nat.mod_lt _ hs0
  exact h1 _ _ _ _ hi (List.getElem?_eq_getElem hj)
def Elems (C : Cx) (kn : Kn) (m : Mp) (w : World) (sz : Nat) (ys : List (List AV)) (yv : Value) : Prop :=
 ∃ news : List Value, news.length = ys.length * sz ∧ Flat kn m sz ys news ∧ ∀ w2 : World, w2.heap = w.heap → (Builtin.lenOf yv).run C.P w2 = .ok ys.length w2 ∧ (Builtin.firstCells sz ys.length yv).run C.P w2 = .ok news.toArray w2
theorem cell_heap {w w2 : World} (h : w2.heap = w.heap) (a : Addr) : w2.cell? a = w.cell? a := by unfold World.cell?; rw [h]
theorem run_loadRange {P : Program} {w : World} (b o n : Nat) (news : List Value) (hl : news.length = n) (h : ∀ (k : Nat) (v : Value), news[k]? = some v → w.cell? ⟨b, o + k, none⟩ = some v) (w2 : World) (hw : w2.heap = w.heap) :
  (loadCells ⟨b, o, none⟩ n).run P w2 = .ok news.toArray w2 := by
 have := run_loadCells_list (P := P) w2 ⟨b, o, none⟩ news (fun k v hv => by rw [add_mk, cell_heap hw]; exact h k v hv)
 rwa [hl] at this
theorem elems_nil {sz : Nat} {yv : Value} (h : ∃ a c, yv = .slice a 0 c) : Elems C kn m w sz [] yv := by
 obtain ⟨a, c, rfl⟩ := h
 refine ⟨[], by simp, ⟨fun i row h => by simp at h, fun i row j x v h => by simp at h, fun v h => by simp at h⟩, fun w2 hw => ⟨rfl, ?_⟩⟩
 cases a with
 | none => rfl
 | some ad => simp [Builtin.firstCells, loadCells, loadCellsFrom]
theorem elems_sound (hI : Inv C B kn m σ nx w) {sz : Nat} (hs0 : 0 < sz) {y : AV} {yv : Value} {ys : List (List AV)} (h : elemsA sz σ y = some ys) (hy : Rel kn m y yv) : Elems C kn m w sz ys yv := by
 unfold elemsA at h
 split at h
 ·split at h
  ·rename_i hc
   cases h
   cases hy with
   | vecNil _ a cap => exact elems_nil ⟨a, cap, rfl⟩
   | vecNone _ => exact elems_nil ⟨none, 0, rfl⟩
   | vec _ _ b o cap vals hcp hm hrow hk hr h1 =>
    by_cases hnil : ys = []
    ·subst hnil; exact elems_nil ⟨_, cap, rfl⟩
    ·have he := hc.resolve_right hnil
     simp only [he] at hrow hk
     refine ⟨_, by simp, flat_mk hs0 hrow vals hr h1, fun w2 hw => ⟨rfl, ?_⟩⟩
     refine run_loadRange b o _ _ (by simp) (fun k v hv => ?_) w2 hw
     have hk' : k < ys.length * sz := by
      have := (List.getElem?_eq_some_iff.1 hv).1
      simpa using this
     rw [List.getElem?_map, List.getElem?_range hk'] at hv
     simp only [Option.map_some, Option.some.injEq] at hv
     subst hv
     have hq : k / sz < ys.length := (Nat.div_lt_iff_lt_mul hs0).2 hk'
     have hi : ys[k / sz]? = some ys[k / sz] := List.getElem?_eq_getElem hq
     have hj : k % sz < ys[k / sz].length := by rw [hrow _ _ hi]; exact Nat.mod_lt _ hs0
     have := hI.knok _ _ _ (hk _ _ _ _ hi (List.getElem?_eq_getElem hj))
     rw [show o + k / sz * sz + k % sz = o + k by rw [Nat.add_assoc, Nat.div_add_mod' k _]] at this
     exact this
  ·cases h
 ·rename_i p nm esz off len
  split at h
  ·rename_i esz' ety rows hs
   split at h
   ·rename_i hc
    cases h
    obtain ⟨rfl, rfl, hle⟩ := hc
    cases hy with
    | srefNil _ _ _ loc hm hn => simpa using elems_nil ⟨none, 0, rfl⟩
    | sref _ _ _ _ _ loc hm hn he hl hm' =>
     obtain ⟨hll, he', arr, hw, hsz, hle', hmx, hone, hrl, hrr⟩ := GvRel.get (hI.obj _ _ _ (sget_some hs)) hm hn
     have hlen : ((rows.drop off).take len).length = len := by simp; omega
     have hsub : ∀ (i : Nat) (row : List AV), ((rows.drop off).take len)[i]? = some row → i < len ∧ rows[off + i]? = some row := fun i row hi => by
      rw [List.getElem?_take] at hi
      split at hi
      ·rename_i hil; rw [List.getElem?_drop] at hi; exact ⟨hil, hi⟩
      ·cases hi
     have hin : ∀ i j, i < len → j < esz' → loc.off + (off + i) * esz' + j < arr.size := fun i j hi hj => by
      have h1 := idx_lt (show off + i < loc.cap by omega) hj
      omega
     have hmem : ∀ i j, i < len → j < esz' → w.cell? ⟨loc.blk, loc.off + (off + i) * esz' + j, none⟩ = some (arr.getD (loc.off + (off + i) * esz' + j) undef) := fun i j hi hj => by
      have := hin i j hi hj
      simp [World.cell?, hw, this]
     have fm := flat_mk (kn := kn) (m := m) hs0 (rows := (rows.drop off).take len) (fun i row hi => hrl _ _ (hsub i row hi).2) (fun i j => arr.getD (loc.off + (off + i) * esz' + j) undef)
      (fun i row j x hi hj => by
       obtain ⟨hil, hi'⟩ := hsub i row hi
       have hjl : j < esz' := by rw [← hrl _ _ hi']; exact (List.getElem?_eq_some_iff.1 hj).1
       exact hrr _ _ _ _ _ hi' hj (by simp [hin i j hil hjl]))
      (fun i row j x hi hj => by
       obtain ⟨hil, hi'⟩ := hsub i row hi
       have hjl : j < esz' := by rw [← hrl _ _ hi']; exact (List.getElem?_eq_some_iff.1 hj).1
       exact hone _ (by simp [hin i j hil hjl]))
     refine ⟨_, by simp, fm, fun w2 hw2 => ⟨by rw [hlen]; rfl, ?_⟩⟩
     refine run_loadRange loc.blk (loc.off + off * loc.esz) _ _ (by simp) (fun k v hv => ?_) w2 hw2
     have hk' : k < ((rows.drop off).take len).length * esz' := by
      have := (List.getElem?_eq_some_iff.1 hv).1
      simpa using this
     rw [List.getElem?_map, List.getElem?_range hk'] at hv
     simp only [Option.map_some, Option.some.injEq] at hv
     subst hv
     rw [hlen] at hk'
     have hq : k / esz' < len := (Nat.div_lt_iff_lt_mul hs0).2 hk'
     have := hmem (k / esz') (k % esz') hq (Nat.mod_lt _ hs0)
     rw [← this]
     congr 2
     rw [he, Nat.add_mul]
     have := Nat.div_add_mod' k esz'
     omega
   ·cases h
  ·cases h
 ·cases hy; cases h; exact elems_nil ⟨none, 0, rfl⟩
 ·cases h; cases hy
  ·exact elems_nil ⟨_, 0, rfl⟩
  ·exact elems_nil ⟨none, 0, rfl⟩
 ·cases h
theorem elems_str {l : List UInt8} : Elems C kn m w 1 (strElems l) (.string ⟨l.toArray⟩) := by
 refine ⟨l.map fun b => .int .u8 b.toNat, by simp [strElems], ⟨fun i row hi => ?_, fun i row j x v hi hj hv => ?_, fun v hv => ?_⟩, fun w2 hw => ⟨?_, ?_⟩⟩
 ·rw [strElems, List.getElem?_map] at hi
  cases hb : l[i]? with
  | none => simp [hb] at hi
  | some b => simp [hb] at hi; subst hi; rfl
 ·rw [strElems, List.getElem?_map] at hi
  cases hb : l[i]? with
  | none => simp [hb] at hi
  | some b =>
   simp [hb] at hi
   subst hi
   cases j with
   | succ j => simp at hj
   | zero =>
    simp at hj
    subst hj
    simp [hb] at hv
    subst hv
    exact .int _ _
 ·rw [List.mem_map] at hv
  obtain ⟨b, _, rfl⟩ := hv
  rfl
 ·have hs : (ByteArray.mk l.toArray).size = l.length := by simp [ByteArray.size]
  simp only [Builtin.lenOf, Sem.run_pure, hs, strElems, List.length_map]
 ·simp only [Builtin.firstCells, strElems, List.length_map]
  have : ((ByteArray.mk l.toArray).extract 0 l.length) = ByteArray.mk l.toArray := by
   rw [ByteArray.extract_mk]; simp
  rw [this]
  simp
end
end Go.Ab

namespace Go.Ab
open Go Go.RowKit
section
variable {C : Cx} {B : Base} {kn : Kn} {m : Mp} {σ : Sto} {nx : Nat} {w : World}
def notInt (P : Program) (t : TypeId) : Prop := P.underlying t = some .string ∨ ∃ e, P.underlying t = some (.slice e)
theorem run_append_stay {t t' ty e sz n sLen sCap : Nat} {base : Option Addr} {yv : Value} {news : List Value} (hu : C.P.underlying t = some (.slice e)) (ht' : notInt C.P t') (hsz : szT C.P e = some sz)
  (h1 : (Builtin.lenOf yv).run C.P w = .ok n w) (h2 : (Builtin.firstCells sz n yv).run C.P w = .ok news.toArray w) (hroom : sLen + n ≤ sCap) :
  (Builtin.append_ #[t, t'] ty #[.slice base sLen sCap, yv]).run C.P w = match base with
   | some a => ((storeCells (a.add (sLen * sz)) news).run C.P w).andThen fun _ w' => .ok (.slice (some a) (sLen + n) sCap) w'
   | none => .ok (.slice none (sLen + n) sCap) w := by
 rcases ht' with hd | ⟨e', hd⟩ <;> cases base <;> simp [Builtin.append_, run_underlying hu, run_underlying hd, run_sizeOf' hsz, h1, h2, hroom]
theorem run_append_go {t t' ty e sz n sLen sCap : Nat} {i : TypeInfo} {z : Value} {base : Option Addr} {yv : Value} {olds news : List Value} (hu : C.P.underlying t = some (.slice e)) (ht' : notInt C.P t') (hi : C.P.info? e = some i) (hsz : i.size = sz) (hz : i.zero = some z)
  (h1 : (Builtin.lenOf yv).run C.P w = .ok n w) (h2 : (Builtin.firstCells sz n yv).run C.P w.drew = .ok news.toArray w.drew) (h3 : (Builtin.firstCells sz sLen (.slice base sLen sCap)).run C.P w.drew = .ok olds.toArray w.drew)
  (hg : sCap < sLen + n) (hm : sLen + n ≤ 4611686018427387904) (hb : (sLen + n) * i.bytes ≤ 140737488355328) :
  (Builtin.append_ #[t, t'] ty #[.slice base sLen sCap, yv]).run C.P w =
   .ok (.slice (some ⟨w.heap.size, 0, none⟩) (sLen + n) (grownCap w (sLen + n) sCap e)) (w.drew.alloc (.cells (olds.toArray ++ news.toArray ++ Builtin.zeroCells z.cells (grownCap w (sLen + n) sCap e - (sLen + n))) e)) := by
 have hn : ¬ (sLen + n ≤ sCap) := by omega
 have h63' : ¬ (9223372036854775807 < ((sLen : Int) + (n : Int))) := by omega
 have h48' : ¬ (281474976710656 < Builtin.nextslicecap (sLen + n) sCap * i.bytes) := by have := growslice_fits hg hb; omega
 have hsz' : szT C.P e = some sz := by simp [szT, hi, hsz]
 rcases ht' with hd | ⟨e', hd⟩ <;> simp [Builtin.append_, run_underlying hu, run_underlying hd, run_sizeOf' hsz', zeroValue, run_typeInfo' hi, hz, h1, h2, h3, hn, h63', h48', Question.forced, newRow, grownCap] <;> (congr 2; apply Array.ext'; simp)
theorem slcT_notInt {P : Program} {t : Nat} (h : slcT P t = true) : notInt P t := by
 exact .inr (slcT_sound h)
theorem strT_notInt {P : Program} {t : Nat} (h : strT P t = true) : notInt P t := .inl (strT_sound h)
theorem flat_append {sz : Nat} {r1 r2 : List (List AV)} {c1 c2 : List Value} (h1 : Flat kn m sz r1 c1) (hl1 : c1.length = r1.length * sz) (h2 : Flat kn m sz r2 c2) : Flat kn m sz (r1 ++ r2) (c1 ++ c2) := by
 refine ⟨fun i row hi => ?_, fun i row j x v hi hj hv => ?_, fun v hv => ?_⟩
 ·rcases Nat.lt_or_ge i r1.length with h | h
  ·rw [List.getElem?_append_left h] at hi; exact h1.1 i row hi
  ·rw [List.getElem?_append_right h] at hi; exact h2.1 _ row hi
 ·rcases Nat.lt_or_ge i r1.length with h | h
  ·rw [List.getElem?_append_left h] at hi
   have hjl : j < sz := by rw [← h1.1 i row hi]; exact (List.getElem?_eq_some_iff.1 hj).1
   rw [List.getElem?_append_left (by rw [hl1]; exact idx_lt h hjl)] at hv
   exact h1.2.1 i row j x v hi hj hv
  ·rw [List.getElem?_append_right h] at hi
   have hge : c1.length ≤ i * sz + j := by rw [hl1]; have := Nat.mul_le_mul_right sz h; omega
   rw [List.getElem?_append_right hge] at hv
   refine h2.2.1 (i - r1.length) row j x v hi hj ?_
   rw [← hv]; congr 1
   rw [hl1, Nat.sub_mul]
   have := Nat.mul_le_mul_right sz h
   omega
 ·rcases List.mem_append.1 hv with hv | hv
  ·exact h1.2.2 v hv
  ·exact h2.2.2 v hv
theorem flat_pad {sz : Nat} {r : List (List AV)} {c d : List Value} (h : Flat kn m sz r c) (hl : c.length = r.length * sz) (hd : ∀ v ∈ d, v.oneCell' = true) : Flat kn m sz r (c ++ d) := by
 refine ⟨h.1, fun i row j x v hi hj hv => ?_, fun v hv => ?_⟩
 ·have hjl : j < sz := by rw [← h.1 i row hi]; exact (List.getElem?_eq_some_iff.1 hj).1
  rw [List.getElem?_append_left (by rw [hl]; exact idx_lt (List.getElem?_eq_some_iff.1 hi).1 hjl)] at hv
  exact h.2.1 i row j x v hi hj hv
 ·rcases List.mem_append.1 hv with hv | hv
  ·exact h.2.2 v hv
  ·exact hd v hv
theorem Flat.mono {kn' : Kn} {m' : Mp} {sz : Nat} {r : List (List AV)} {c : List Value} (h : Flat kn m sz r c) (hk : KnLe kn kn') (hm : MpLe m m') : Flat kn' m' sz r c :=
 ⟨h.1, fun i row j x v a b d => (h.2.1 i row j x v a b d).mono hk hm, h.2.2⟩
theorem zeroCells_one {z : Array Value} (h : ∀ v ∈ z.toList, v.oneCell' = true) (n : Nat) : ∀ v ∈ (Builtin.zeroCells z n).toList, v.oneCell' = true := by
 intro v hv
 simp only [Builtin.zeroCells, Array.toList_map, List.mem_map] at hv
 obtain ⟨k, hk, rfl⟩ := hv
 have hk' : k < n * z.size := by simpa using hk
 have hpos : 0 < z.size := Nat.pos_of_ne_zero (fun e => by rw [e] at hk'; simp at hk')
 have hlt := Nat.mod_lt k hpos
 rw [getElem!_pos z (k % z.size) hlt]
 exact h _ (by simp)
theorem grown_obj {e sz n sCap nm blk : Nat} {rows : List (List AV)} {z : Value} {cells : List Value} {w' : World} (hf : Flat kn m sz rows cells) (hl : cells.length = rows.length * sz) (hn : rows.length = n) (hz : z.cells.size = sz) (hz1 : ∀ v ∈ z.cells.toList, v.oneCell' = true)
  (hm : n ≤ 4611686018427387904) (m' : Mp) (hmle : MpLe m m') (hnm : m' nm = some ⟨blk, 0, grownCap w n sCap e, sz, n, false⟩) (hw : w'.heap[blk]? = some (.cells (cells.toArray ++ Builtin.zeroCells z.cells (grownCap w n sCap e - n)) e (0, 0))) :
  ObjRel C.P kn m' w' nm (.gvec sz e rows) := by
 have hge := grownCap_ge w n sCap e
 have hmax := grownCap_le_maxLen w n sCap e (le62_max hm)
 have hpad := flat_pad hf hl (zeroCells_one hz1 (grownCap w n sCap e - n))
 refine gvec_obj hnm rfl hn.symm rfl hw rfl ?_ (by rw [hn]; exact hge) hmax (fun v hv => hpad.2.2 v (by simpa using hv)) hf.1 (fun i row j x v a b c => (hpad.2.1 i row j x v a b (by rw [← c, ← Array.getElem?_toList]; simp)).mono (KnLe.refl _) hmle)
 rw [Array.size_append, size_zeroCells, hz, List.size_toArray, hl, hn, ← Nat.add_mul]
 exact Nat.le_of_eq (by congr 1; show grownCap w n sCap e = _; omega)
theorem gv_elems {nm esz off len ety : Nat} {rows : List (List AV)} {loc : Loc} (hgv : GvRel kn m w nm esz ety rows) (hs0 : 0 < esz) (hm : m nm = some loc) (hn : loc.nil = false) (hle : off + len ≤ rows.length) (hl : len + off ≤ loc.cap) :
  Elems C kn m w esz ((rows.drop off).take len) (.slice (some ⟨loc.blk, loc.off + off * loc.esz, none⟩) len (loc.cap - off)) := by
 obtain ⟨hll, he, arr, hw, hsz, hle', hmx, hone, hrl, hrr⟩ := hgv.get hm hn
 have hlen : ((rows.drop off).take len).length = len := by simp; omega
 have hsub : ∀ (i : Nat) (row : List AV), ((rows.drop off).take len)[i]? = some row → i < len ∧ rows[off + i]? = some row := fun i row hi => by
  rw [List.getElem?_take] at hi
  split at hi
  ·rename_i hil; rw [List.getElem?_drop] at hi; exact ⟨hil, hi⟩
  ·cases hi
 have hin : ∀ i j, i < len → j < esz → loc.off + (off + i) * esz + j < arr.size := fun i j hi hj => by
  have h1 := idx_lt (show off + i < loc.cap by omega) hj
  omega
 have hmem : ∀ i j, i < len → j < esz → w.cell? ⟨loc.blk, loc.off + (off + i) * esz + j, none⟩ = some (arr.getD (loc.off + (off + i) * esz + j) undef) := fun i j hi hj => by
  have := hin i j hi hj
  simp [World.cell?, hw, this]
 have fm := flat_mk (kn := kn) (m := m) hs0 (rows := (rows.drop off).take len) (fun i row hi => hrl _ _ (hsub i row hi).2) (fun i j => arr.getD (loc.off + (off + i) * esz + j) undef)
  (fun i row j x hi hj => by
   obtain ⟨hil, hi'⟩ := hsub i row hi
   have hjl : j < esz := by rw [← hrl _ _ hi']; exact (List.getElem?_eq_some_iff.1 hj).1
   exact hrr _ _ _ _ _ hi' hj (by simp [hin i j hil hjl]))
  (fun i row j x hi hj => by
   obtain ⟨hil, hi'⟩ := hsub i row hi
   have hjl : j < esz := by rw [← hrl _ _ hi']; exact (List.getElem?_eq_some_iff.1 hj).1
   exact hone _ (by simp [hin i j hil hjl]))
 refine ⟨_, by simp, fm, fun w2 hw2 => ⟨by rw [hlen]; rfl, ?_⟩⟩
 refine run_loadRange loc.blk (loc.off + off * loc.esz) _ _ (by simp) (fun k v hv => ?_) w2 hw2
 have hk' : k < ((rows.drop off).take len).length * esz := by
  have := (List.getElem?_eq_some_iff.1 hv).1
  simpa using this
 rw [List.getElem?_map, List.getElem?_range hk'] at hv
 simp only [Option.map_some, Option.some.injEq] at hv
 subst hv
 rw [hlen] at hk'
 have hq : k / esz < len := (Nat.div_lt_iff_lt_mul hs0).2 hk'
 have := hmem (k / esz) (k % esz) hq (Nat.mod_lt _ hs0)
 rw [← this]
 congr 2
 rw [he, Nat.add_mul]
 have := Nat.div_add_mod' k esz
 omega
structure AppTy (C : Cx) (t t' e sz bytes : Nat) (zv : Value) : Prop where
 hu : C.P.underlying t = some (.slice e)
 hni : notInt C.P t'
 i : ∃ i, C.P.info? e = some i ∧ i.size = sz ∧ i.bytes = bytes ∧ i.zero = some zv
 hzs : zv.cells.size = sz
 hz1 : ∀ v ∈ zv.cells.toList, v.oneCell' = true
theorem AppTy.hsz {t t' e sz bytes : Nat} {zv : Value} (h : AppTy C t t' e sz bytes zv) : szT C.P e = some sz := by
 obtain ⟨i, h1, h2, _⟩ := h.i; simp [szT, h1, h2]
theorem app_ty {t t' e sz bytes : Nat} (he : elmT C.P t = some (e, sz, bytes)) (hni : notInt C.P t') (hzl : ((zeroCells C.P e).map (·.length)) = some sz) : ∃ zv, AppTy C t t' e sz bytes zv := by
 obtain ⟨hu, hsz, i, hi, his, hib⟩ := elm_sound he
 obtain ⟨z, hz⟩ : ∃ z, zeroCells C.P e = some z := by
  cases hz : zeroCells C.P e with
  | none => simp [hz] at hzl
  | some z => exact ⟨z, rfl⟩
 rw [hz] at hzl
 simp only [Option.map_some, Option.some.injEq] at hzl
 obtain ⟨i', zv, hi', hzv, rfl, hzr⟩ := zero_sound hz (fun _ _ => none) (fun _ => none)
 rw [hi] at hi'; cases hi'
 exact ⟨zv, hu, hni, ⟨i, hi, his, hib, hzv⟩, by rw [← Array.length_toList, ← hzr.1.1]; exact hzl, hzr.2⟩
theorem app_fresh {t t' ty e sz bytes : Nat} {zv yv : Value} {ys : List (List AV)} (hT : AppTy C t t' e sz bytes zv) (hE : Elems C kn m w sz ys yv) (ad : Option Addr) (hne : ys.length ≠ 0) (hb : ys.length * bytes ≤ limB) (hm : ys.length ≤ 4611686018427387904) :
  ∃ w' cap, (Builtin.append_ #[t, t'] ty #[.slice ad 0 0, yv]).run C.P w = .ok (.slice (some ⟨w.heap.size, 0, none⟩) ys.length cap) w' ∧ w.heap.size ≤ w'.heap.size ∧ w'.os = w.os ∧ w'.tape = w.tape ∧ w'.output = w.output ∧
   w.heap.size < w'.heap.size ∧ (∀ b, b < w.heap.size → w'.heap[b]? = w.heap[b]?) ∧ ys.length ≤ cap ∧ ∀ (m' : Mp) (nm : Nat), MpLe m m' → m' nm = some ⟨w.heap.size, 0, cap, sz, ys.length, false⟩ → GvRel kn m' w' nm sz e ys := by
 obtain ⟨i, hi, his, hib, hzv⟩ := hT.i
 obtain ⟨news, hnl, hnf, hnr⟩ := hE
 have hold : (Builtin.firstCells sz 0 (.slice ad 0 0)).run C.P w.drew = .ok ([] : List Value).toArray w.drew := by
  cases ad with
  | none => rfl
  | some a => simp [Builtin.firstCells, loadCells, loadCellsFrom]
 have hrun := run_append_go (C := C) (w := w) (ty := ty) (sLen := 0) (sCap := 0) (base := ad) hT.hu hT.hni hi his hzv (hnr w rfl).1 (hnr w.drew rfl).2 hold (by omega) (by omega) (by rw [Nat.zero_add, hib]; exact hb)
 simp only [Nat.zero_add, List.toArray, Array.empty_append] at hrun
 refine ⟨w.drew.alloc (.cells (news.toArray ++ Builtin.zeroCells zv.cells (grownCap w ys.length 0 e - ys.length)) e), grownCap w ys.length 0 e, by simpa using hrun, by simp, rfl, rfl, rfl, by simp, fun b hb => Below.heap_alloc w.drew _ _ hb, grownCap_ge w ys.length 0 e, fun m' nm hle hnm => ?_⟩
 exact grown_obj (C := C) (w := w) hnf hnl rfl hT.hzs hT.hz1 hm m' hle hnm (heap_alloc_new w.drew _)
theorem mple_put (hI : Inv C B kn m σ nx w) (l : Loc) : MpLe m (mput m nx l) := fun n l' e => by
 rw [mput_ne]
 ·exact e
 ·intro en; subst en; rw [hI.dom n (Nat.le_refl _)] at e; cases e
theorem app_new (hI : Inv C B kn m σ nx w) {t t' ty e sz bytes : Nat} {zv yv : Value} {ys : List (List AV)} {ob' : AObj} (hT : AppTy C t t' e sz bytes zv) (hE : Elems C kn m w sz ys yv) (ad : Option Addr) (hne : ys.length ≠ 0) (hb : ys.length * bytes ≤ limB) (hm : ys.length ≤ 4611686018427387904)
  (hg' : ∀ m w, GvRel kn m w nx sz e ys → ObjRel C.P kn m w nx ob') :
  ∃ u m' w', (Builtin.append_ #[t, t'] ty #[.slice ad 0 0, yv]).run C.P w = .ok u w' ∧ Rel kn m' (.sref σ.length nx sz 0 ys.length) u ∧ (∃ loc, m' nx = some loc ∧ loc.len = ys.length) ∧
   Inv C B kn m' (σ ++ [(nx, ob')]) (nx + 1) w' ∧ Keep m σ nx m' (σ ++ [(nx, ob')]) (nx + 1) := by
 obtain ⟨w', cap, hrun, h1, h2, h3, h4, h5, h6, h7, h8⟩ := app_fresh (ty := ty) hT hE ad hne hb hm
 obtain ⟨q1, q2⟩ := hI.new (ob' := ob') (loc' := ⟨w.heap.size, 0, cap, sz, ys.length, false⟩) (w' := w') h1 h2 h3 h4 (.inr (Nat.le_refl _)) (fun _ => h5) h6 (hg' _ _ (h8 _ _ (mple_put hI _) (mput_same _ _ _)))
 refine ⟨_, _, _, hrun, ?_, ⟨_, mput_same _ _ _, rfl⟩, q1, q2⟩
 have := Rel.sref (kn := kn) σ.length nx sz 0 ys.length _ (mput_same m nx ⟨w.heap.size, 0, cap, sz, ys.length, false⟩) rfl rfl h7 (le62 hm)
 simpa using this
theorem app_sref (hI : Inv C B kn m σ nx w) {t t' ty e' bytes p nm off len : Nat} {ob ob' : AObj} {zv yv : Value} {rows ys : List (List AV)} {loc : Loc} (hT : AppTy C t t' e' loc.esz bytes zv) (hs0 : 0 < loc.esz) (hE : Elems C kn m w loc.esz ys yv) (hp : σ[p]? = some (nm, ob)) (hlv : live ob)
  (hg : ObjRel C.P kn m w nm ob → GvRel kn m w nm loc.esz e' rows) (hm : m nm = some loc) (hn : loc.nil = false) (hl : len + off ≤ loc.cap) (hle : off + len ≤ rows.length) (hb : (len + ys.length) * bytes ≤ limB) (hm62 : len + ys.length ≤ 4611686018427387904)
  (hg' : ∀ m w, GvRel kn m w nx loc.esz e' ((rows.drop off).take len ++ ys) → ObjRel C.P kn m w nx ob') :
  ∃ u m' w', (Builtin.append_ #[t, t'] ty #[.slice (some ⟨loc.blk, loc.off + off * loc.esz, none⟩) len (loc.cap - off), yv]).run C.P w = .ok u w' ∧ Rel kn m' (.sref p nx loc.esz 0 (len + ys.length)) u ∧ (∃ l, m' nx = some l ∧ l.len = len + ys.length) ∧
   Inv C B kn m' (σ.set p (nx, ob')) (nx + 1) w' ∧ Keep m σ nx m' (σ.set p (nx, ob')) (nx + 1) := by
 have hu := hT.hu
 have hni := hT.hni
 have hsz := hT.hsz
 have hzs := hT.hzs
 obtain ⟨i, hi, his, hib, hzv⟩ := hT.i
 obtain ⟨news, hnl, hnf, hnr⟩ := hE
 obtain ⟨hll, hez, arr, hw, hsz', hle', hmx, hone, hrl, hrr⟩ := (hg (hI.obj _ _ _ hp)).get hm hn
 have hrl' : ((rows.drop off).take len).length = len := by simp; omega
 obtain ⟨olds, hol, hof, hor⟩ := gv_elems (C := C) (hg (hI.obj _ _ _ hp)) hs0 hm hn hle hl
 have hlenr : ((rows.drop off).take len ++ ys).length = len + ys.length := by rw [List.length_append, hrl']
 by_cases hroom : len + ys.length ≤ loc.cap - off
 ·have hrun := run_append_stay (C := C) (w := w) (ty := ty) (sLen := len) (sCap := loc.cap - off) (base := some ⟨loc.blk, loc.off + off * loc.esz, none⟩) hu hni hsz (hnr w rfl).1 (hnr w rfl).2 hroom
  have hcap : off * loc.esz + (loc.cap - off) * loc.esz = loc.cap * loc.esz := by rw [← Nat.add_mul]; congr 1; omega
  have hroom' : (len + ys.length) * loc.esz ≤ (loc.cap - off) * loc.esz := Nat.mul_le_mul_right _ hroom
  rw [Nat.add_mul] at hroom'
  have hfit : loc.off + off * loc.esz + len * loc.esz + news.length ≤ arr.toList.length := by rw [hnl, Array.length_toList (xs := arr)]; omega
  have hst := run_storeCells_at C.P loc.blk (loc.off + off * loc.esz + len * loc.esz) e' news 0 arr w hw (by simpa using hfit) hnf.2.2
  simp only [Nat.add_zero, List.append_assoc] at hst
  simp only [add_mk, hst, Result.andThen_ok] at hrun
  have hsp := splice_get arr.toList news (loc.off + off * loc.esz + len * loc.esz)
  obtain ⟨q1, q2⟩ := hI.replace (ob' := ob') (loc' := ⟨loc.blk, loc.off + off * loc.esz, loc.cap - off, loc.esz, len + ys.length, false⟩) hp hlv hm
   (w' := w.setRow loc.blk (arr.toList.take (loc.off + off * loc.esz + len * loc.esz) ++ (news ++ arr.toList.drop (loc.off + off * loc.esz + len * loc.esz + news.length))).toArray) (by simp) rfl rfl rfl (.inr (.inl ⟨hn, rfl⟩))
   (fun _ => by simp; exact (hI.own _ _ _ _ hp hlv hm hn).1) (fun b _ hb => setRow_other _ _ _ _ (hb.resolve_left (by simp)))
   (hg' _ _ (by
    have hmle : MpLe m (mput m nx ⟨loc.blk, loc.off + off * loc.esz, loc.cap - off, loc.esz, len + ys.length, false⟩) := fun n l e => by
     rw [mput_ne]
     ·exact e
     ·intro en; subst en; rw [hI.dom n (Nat.le_refl _)] at e; cases e
    refine ⟨_, mput_same _ _ _, hlenr.symm, .inr ⟨rfl, rfl, _, setRow_heap w loc.blk arr _ e' (0, 0) hw, ?_, by rw [hlenr]; exact hroom, (by show loc.cap - off ≤ maxLen; omega), fun u hu => ?_, fun k row hk => ?_, fun k row j x v hk hj hv => ?_⟩⟩
    ·rw [List.size_toArray, splice_len _ _ _ hfit, Array.length_toList]
     show loc.off + off * loc.esz + (loc.cap - off) * loc.esz ≤ arr.size
     omega
    ·simp only [List.mem_append] at hu
     rcases hu with hu | hu | hu
     ·exact hone u (List.mem_of_mem_take hu)
     ·exact hnf.2.2 u hu
     ·exact hone u (List.mem_of_mem_drop hu)
    ·rcases Nat.lt_or_ge k len with hk' | hk'
     ·rw [List.getElem?_append_left (by rw [hrl']; exact hk')] at hk
      exact hof.1 k row hk
     ·rw [List.getElem?_append_right (by rw [hrl']; exact hk')] at hk
      exact hnf.1 _ row hk
    ·have hv' : (arr.toList.take (loc.off + off * loc.esz + len * loc.esz) ++ (news ++ arr.toList.drop (loc.off + off * loc.esz + len * loc.esz + news.length)))[loc.off + off * loc.esz + k * loc.esz + j]? = some v := by
      simpa using hv
     rw [hsp _ hfit] at hv'
     rcases Nat.lt_or_ge k len with hk' | hk'
     ·rw [List.getElem?_append_left (by rw [hrl']; exact hk')] at hk
      have hjl : j < loc.esz := by rw [← hof.1 k row hk]; exact (List.getElem?_eq_some_iff.1 hj).1
      have := idx_lt hk' hjl
      rw [if_neg (by omega)] at hv'
      rw [List.getElem?_take, if_pos hk', List.getElem?_drop] at hk
      refine (hrr (off + k) row j x v hk hj ?_).mono (KnLe.refl _) hmle
      rw [← Array.getElem?_toList, ← hv']
      congr 1
      rw [Nat.add_mul]; omega
     ·rw [List.getElem?_append_right (by rw [hrl']; exact hk'), hrl'] at hk
      have hjl : j < loc.esz := by rw [← hnf.1 _ row hk]; exact (List.getElem?_eq_some_iff.1 hj).1
      have h1 := idx_lt (List.getElem?_eq_some_iff.1 hk).1 hjl
      have h2 : k * loc.esz = len * loc.esz + (k - len) * loc.esz := by rw [← Nat.add_mul]; congr 1; omega
      rw [if_pos ⟨by omega, by rw [hnl]; omega⟩] at hv'
      refine (hnf.2.1 (k - len) row j x v hk hj ?_).mono (KnLe.refl _) hmle
      rw [← hv']
      congr 1
      omega))
  refine ⟨_, _, _, hrun, ?_, ⟨_, mput_same _ _ _, rfl⟩, q1, q2⟩
  have := Rel.sref (kn := kn) p nx loc.esz 0 (len + ys.length) _ (mput_same m nx ⟨loc.blk, loc.off + off * loc.esz, loc.cap - off, loc.esz, len + ys.length, false⟩) rfl rfl (by simpa using hroom) (le62 hm62)
  simpa using this
 ·have hold := (hor w.drew rfl).2
  rw [hrl'] at hold
  have hrun := run_append_go (C := C) (w := w) (ty := ty) (sLen := len) (sCap := loc.cap - off) (base := some ⟨loc.blk, loc.off + off * loc.esz, none⟩) hu hni hi his hzv (hnr w rfl).1 (hnr w.drew rfl).2 hold (by omega) hm62 (by rw [hib]; exact hb)
  have hmle : MpLe m (mput m nx ⟨w.heap.size, 0, grownCap w (len + ys.length) (loc.cap - off) e', loc.esz, len + ys.length, false⟩) := fun n l e => by
   rw [mput_ne]
   ·exact e
   ·intro en; subst en; rw [hI.dom n (Nat.le_refl _)] at e; cases e
  have hcl : (olds ++ news).length = ((rows.drop off).take len ++ ys).length * loc.esz := by rw [List.length_append, List.length_append, hol, hnl, Nat.add_mul]
  obtain ⟨q1, q2⟩ := hI.replace (ob' := ob') (loc' := ⟨w.heap.size, 0, grownCap w (len + ys.length) (loc.cap - off) e', loc.esz, len + ys.length, false⟩) hp hlv hm
   (w' := w.drew.alloc (.cells ((olds ++ news).toArray ++ Builtin.zeroCells zv.cells (grownCap w (len + ys.length) (loc.cap - off) e' - (len + ys.length))) e')) (by simp) rfl rfl rfl (.inr (.inr (Nat.le_refl _))) (fun _ => by simp)
   (fun b hb _ => Below.heap_alloc w.drew _ _ hb) (hg' _ _ <| grown_obj (C := C) (w := w) (flat_append hof hol hnf) hcl hlenr hzs hT.hz1 hm62 _ hmle (mput_same _ _ _) (heap_alloc_new w.drew _))
  refine ⟨_, _, _, by rw [hrun, show olds.toArray ++ news.toArray = (olds ++ news).toArray by simp], ?_, ⟨_, mput_same _ _ _, rfl⟩, q1, q2⟩
  have := Rel.sref (kn := kn) p nx loc.esz 0 (len + ys.length) _ (mput_same m nx ⟨w.heap.size, 0, grownCap w (len + ys.length) (loc.cap - off) e', loc.esz, len + ys.length, false⟩) rfl rfl (grownCap_ge _ _ _ _) (le62 hm62)
  simpa using this
theorem app_srefNil (hI : Inv C B kn m σ nx w) {t t' ty e' esz bytes p nm : Nat} {ob ob' : AObj} {zv yv : Value} {ys : List (List AV)} {loc : Loc} (hT : AppTy C t t' e' esz bytes zv) (hE : Elems C kn m w esz ys yv) (hp : σ[p]? = some (nm, ob)) (hlv : live ob)
  (hm : m nm = some loc) (hn : loc.nil = true) (hb : ys.length * bytes ≤ limB) (hm62 : ys.length ≤ 4611686018427387904)
  (hg' : ∀ m w, GvRel kn m w nx esz e' ys → ObjRel C.P kn m w nx ob') :
  ∃ u m' w', (Builtin.append_ #[t, t'] ty #[.slice none 0 0, yv]).run C.P w = .ok u w' ∧ Rel kn m' (.sref p nx esz 0 ys.length) u ∧ (∃ l, m' nx = some l ∧ l.len = ys.length) ∧
   Inv C B kn m' (σ.set p (nx, ob')) (nx + 1) w' ∧ Keep m σ nx m' (σ.set p (nx, ob')) (nx + 1) := by
 by_cases h0 : ys.length = 0
 ·have hn0 : ys = [] := List.eq_nil_of_length_eq_zero h0
  subst hn0
  obtain ⟨news, hnl, hnf, hnr⟩ := hE
  have hrun := run_append_stay (C := C) (w := w) (ty := ty) (sLen := 0) (sCap := 0) (base := none) hT.hu hT.hni hT.hsz (hnr w rfl).1 (hnr w rfl).2 (by simp)
  obtain ⟨q1, q2⟩ := hI.replace (ob' := ob') (loc' := ⟨0, 0, 0, esz, 0, true⟩) hp hlv hm (w' := w) (Nat.le_refl _) rfl rfl rfl (.inl rfl) (fun h => by cases h) (fun _ _ _ => rfl)
   (hg' _ _ ⟨_, mput_same _ _ _, rfl, .inl ⟨rfl, rfl⟩⟩)
  exact ⟨_, _, _, by simpa using hrun, .srefNil _ _ _ _ (mput_same _ _ _) rfl, ⟨_, mput_same _ _ _, rfl⟩, q1, q2⟩
 ·obtain ⟨w', cap, hrun, h1, h2, h3, h4, h5, h6, h7, h8⟩ := app_fresh (ty := ty) hT hE none h0 hb hm62
  obtain ⟨q1, q2⟩ := hI.replace (ob' := ob') (loc' := ⟨w.heap.size, 0, cap, esz, ys.length, false⟩) hp hlv hm (w' := w') h1 h2 h3 h4 (.inr (.inr (Nat.le_refl _))) (fun _ => h5) (fun b hb _ => h6 b hb) (hg' _ _ (h8 _ _ (mple_put hI _) (mput_same _ _ _)))
  refine ⟨_, _, _, hrun, ?_, ⟨_, mput_same _ _ _, rfl⟩, q1, q2⟩
  have := Rel.sref (kn := kn) p nx esz 0 ys.length _ (mput_same m nx ⟨w.heap.size, 0, cap, esz, ys.length, false⟩) rfl rfl h7 (le62 hm62)
  simpa using this
theorem append_sound (hI : Inv C B kn m σ nx w) {t t' ty : Nat} {x y r : AV} {xv yv : Value} {σ' : Sto} {nx' : Nat} (h : appendA C.P t t' σ nx x y = some (r, σ', nx')) (hx : Rel kn m x xv) (hy : Rel kn m y yv) :
  ∃ u m' w', (Builtin.append_ #[t, t'] ty #[xv, yv]).run C.P w = .ok u w' ∧ Rel kn m' r u ∧ Inv C B kn m' σ' nx' w' ∧ Keep m σ nx m' σ' nx' := by
 unfold appendA at h
 split at h
 ·rename_i e sz bytes he
  split at h
  ·rename_i hc
   obtain ⟨hs0, hzl⟩ := hc
   split at h
   ·rename_i ys hys
    have hE : notInt C.P t' ∧ Elems C kn m w sz ys yv := by
     split at hys
     ·rename_i l
      split at hys
      ·rename_i hs
       cases hys
       cases hy
       rw [hs.2]
       exact ⟨strT_notInt hs.1, elems_str⟩
      ·cases hys
     ·split at hys
      ·rename_i hs
       exact ⟨slcT_notInt hs, elems_sound hI hs0 hys hy⟩
      ·cases hys
    obtain ⟨hni, hE⟩ := hE
    obtain ⟨zv, hT⟩ := app_ty he hni hzl
    have stay : ∀ ad : Option Addr, ys.length = 0 → (Builtin.append_ #[t, t'] ty #[.slice ad 0 0, yv]).run C.P w = .ok (.slice ad 0 0) w := fun ad h0 => by
     have hn0 : ys = [] := List.eq_nil_of_length_eq_zero h0
     subst hn0
     obtain ⟨news, hnl, hnf, hnr⟩ := hE
     have hnn : news = [] := List.eq_nil_of_length_eq_zero (by simpa using hnl)
     subst hnn
     have hrun := run_append_stay (C := C) (w := w) (ty := ty) (sLen := 0) (sCap := 0) (base := ad) hT.hu hT.hni hT.hsz (hnr w rfl).1 (hnr w rfl).2 (by simp)
     rw [hrun]
     cases ad <;> simp [storeCells]
    split at h
    ·split at h
     ·rename_i hb
      cases hx
      split at h
      ·rename_i h0
       cases h
       exact ⟨_, m, w, stay none h0, .base _, hI, Keep.refl _ _ _⟩
      ·rename_i h0
       cases h
       obtain ⟨u, m', w', q1, q2, _, q3⟩ := app_new (ty := ty) (ob' := .gvec sz e ys) hI hT hE none h0 hb.1 hb.2 (fun _ _ h => h)
       exact ⟨u, m', w', q1, q2, q3⟩
     ·cases h
    ·split at h
     ·rename_i hb
      have hx' : ∃ ad, xv = .slice ad 0 0 := by cases hx <;> exact ⟨_, rfl⟩
      obtain ⟨ad, rfl⟩ := hx'
      split at h
      ·rename_i h0
       cases h
       exact ⟨_, m, w, stay ad h0, hx, hI, Keep.refl _ _ _⟩
      ·rename_i h0
       cases h
       obtain ⟨u, m', w', q1, q2, _, q3⟩ := app_new (ty := ty) (ob' := .gvec sz e ys) hI hT hE ad h0 hb.1 hb.2 (fun _ _ h => h)
       exact ⟨u, m', w', q1, q2, q3⟩
     ·cases h
    ·rename_i p nm esz off len
     split at h
     ·rename_i esz' e' rows hs
      split at h
      ·rename_i hc
       cases h
       obtain ⟨rfl, rfl, rfl, hle, hb, hm62⟩ := hc
       have hp := sget_some hs
       cases hx with
       | srefNil _ _ _ loc hm hn =>
        have hr0 : rows = [] := GvRel.nilRows (hI.obj _ _ _ hp) hm hn
        subst hr0
        obtain ⟨u, m', w', q1, q2, _, q3⟩ := app_srefNil (ty := ty) (ob' := .gvec esz' e' (((([] : List (List AV)).drop 0).take 0) ++ ys)) hI hT hE hp trivial hm hn (by simpa using hb) (by simpa using hm62) (fun _ _ h => h)
        rw [Nat.zero_add]
        exact ⟨u, m', w', q1, q2, q3⟩
       | sref _ _ _ _ _ loc hm hn he' hl hm' =>
        subst he'
        obtain ⟨u, m', w', q1, q2, _, q3⟩ := app_sref (ty := ty) (ob' := .gvec loc.esz e' ((rows.drop off).take len ++ ys)) hI hT hs0 hE hp trivial (fun h => h) hm hn hl hle hb hm62 (fun _ _ h => h)
        exact ⟨u, m', w', q1, q2, q3⟩
      ·cases h
     ·cases h
    ·cases h
   ·cases h
  ·cases h
 ·cases h
theorem wrap_small {n : Int} (h0 : 0 ≤ n) (h1 : n ≤ 4611686018427387904) : IntKind.i64.wrap n = n := by
 rw [IntKind.wrap_i64]
 omega
theorem make_sound (hI : Inv C B kn m σ nx w) {t : Nat} {l c r : AV} {lv cv : Value} {σ' : Sto} {nx' : Nat} (h : makeA C.P t σ nx l c = some (r, σ', nx')) (hl : Rel kn m l lv) (hc : Rel kn m c cv) :
  ∃ u m' w', (Instr.makeSlice t lv cv).run C.P w = .ok u w' ∧ Rel kn m' r u ∧ Inv C B kn m' σ' nx' w' ∧ Keep m σ nx m' σ' nx' := by
 unfold makeA at h
 split at h
 ·rename_i e sz bytes kl n kc k he
  obtain ⟨hu, hsz, i, hi, his, hib⟩ := elm_sound he
  cases hl; cases hc
  split at h
  ·rename_i z hz
   split at h
   ·rename_i hcond
    cases h
    obtain ⟨hs0, hzl, h0, hnk, hby, hk62⟩ := hcond
    obtain ⟨i', zv, hi', hzv, rfl, hzr⟩ := zero_sound hz kn m
    rw [hi] at hi'; cases hi'
    have hzs : zv.cells.size = sz := by rw [← Array.length_toList, ← hzr.1.1]; exact hzl
    have w1 : IntKind.i64.wrap n = n := wrap_small h0 (by omega)
    have w2 : IntKind.i64.wrap k = k := wrap_small (by omega) hk62
    have hrun : (Instr.makeSlice t (.int kl n) (.int kc k)).run C.P w = .ok (.slice (some ⟨w.heap.size, 0, none⟩) n.toNat k.toNat) (w.alloc (.cells ((Array.range (k.toNat * sz)).map (zv.cells[· % sz]!)) e)) := by
     have a1 : ¬ (k < 0) := by omega
     have a2 : ¬ (n < 0) := by omega
     have a3 : ¬ (281474976710656 < (bytes : Int) * k) := by rw [Int.mul_comm]; omega
     have a4 : ¬ (k < n) := by omega
     by_cases hk0 : k.toNat * sz = 0
     ·have : k.toNat = 0 := by rcases Nat.mul_eq_zero.1 hk0 with h | h <;> omega
      simp [Instr.makeSlice, run_underlying hu, asInt, asIntOf, run_typeInfo' hi, hib, w1, w2, a1, a2, a3, a4, run_sizeOf' hsz, this, newRow, Array.range_zero']
     ·simp [Instr.makeSlice, run_underlying hu, asInt, asIntOf, run_typeInfo' hi, hib, w1, w2, a1, a2, a3, a4, run_sizeOf' hsz, hk0, newRow, zeroValue, hzv, hzs]
    have hfl := flat_replicate _ _ hzr k.toNat
    rw [hzs] at hfl
    have hmle : MpLe m (mput m nx ⟨w.heap.size, 0, k.toNat, sz, n.toNat, false⟩) := fun n l e => by
     rw [mput_ne]
     ·exact e
     ·intro en; subst en; rw [hI.dom n (Nat.le_refl _)] at e; cases e
    have hget : ∀ i row, (List.replicate n.toNat (zv.cells.toList.map ofVal))[i]? = some row → (List.replicate k.toNat (zv.cells.toList.map ofVal))[i]? = some row := fun i row hi => by
     rw [List.getElem?_replicate] at hi ⊢
     split at hi
     ·rw [if_pos (by omega)]; exact hi
     ·cases hi
    obtain ⟨q1, q2⟩ := hI.new (ob' := .gvec sz e (List.replicate n.toNat (zv.cells.toList.map ofVal))) (loc' := ⟨w.heap.size, 0, k.toNat, sz, n.toNat, false⟩) (w' := w.alloc (.cells ((Array.range (k.toNat * sz)).map (zv.cells[· % sz]!)) e)) (by simp) rfl rfl rfl (.inr (Nat.le_refl _)) (by simp)
     (fun b hb => Below.heap_alloc _ _ _ hb)
     (gvec_obj (C := C) (mput_same _ _ _) rfl (by simp) rfl (heap_alloc_new w _) rfl (by simp) (by simp; omega) (by show k.toNat ≤ maxLen; exact le62_max (by omega)) hfl.2.2 (fun i row hi => hfl.1 i row (hget i row hi))
      (fun i row j x v a b c => (hfl.2.1 i row j x v (hget i row a) b (by rw [Array.getElem?_toList]; exact c)).mono (KnLe.refl _) hmle))
    refine ⟨_, _, _, hrun, ?_, q1, q2⟩
    have := Rel.sref (kn := kn) σ.length nx sz 0 n.toNat _ (mput_same m nx ⟨w.heap.size, 0, k.toNat, sz, n.toNat, false⟩) rfl rfl (by show n.toNat + 0 ≤ k.toNat; omega) (le62 (by omega))
    simpa using this
   ·cases h
  ·cases h
 ·cases h
theorem tup_three {kn : Kn} {m : Mp} {a b c : AV} {x y z : Value} (h1 : Rel kn m a x) (h2 : Rel kn m b y) (h3 : Rel kn m c z) : Rel kn m (.tup [a, b, c]) (.tuple #[x, y, z]) := by
 have h : RelL kn m [a, b, c] [x, y, z] := .cons h1 (.cons h2 (.cons h3 (.nil _ _)))
 exact .tup _ _ rfl fun i p v q r => h.2 i p v q (by simpa using r)
theorem tup_one {kn : Kn} {m : Mp} {a : AV} {x : Value} (h1 : Rel kn m a x) : Rel kn m (.tup [a]) (.tuple #[x]) := by
 have h : RelL kn m [a] [x] := .cons h1 (.nil _ _)
 exact .tup _ _ rfl fun i p v q r => h.2 i p v q (by simpa using r)
theorem range_sound (hI : Inv C B kn m σ nx w) {t : TypeId} {x r : AV} {v : Value} {σ' : Sto} {nx' : Nat} (h : rangeA C.P t σ nx x = some (r, σ', nx')) (hx : Rel kn m x v) :
  ∃ u m' w', (Instr.range t v).run C.P w = .ok u w' ∧ Rel kn m' r u ∧ Inv C B kn m' σ' nx' w' ∧ Keep m σ nx m' σ' nx' := by
 unfold rangeA at h
 split at h
 ·rename_i l
  simp only [Option.ite_none_right_eq_some, Option.some.injEq, Prod.mk.injEq] at h
  obtain ⟨hs, rfl, rfl, rfl⟩ := h
  cases hx
  have hu : C.P.underlying t = some .string := by
   unfold strT at hs
   split at hs
   ·rename_i e; exact e
   ·cases hs
  obtain ⟨h1, h2⟩ := hI.new (ob' := .siter l 0) (loc' := ⟨w.heap.size, 0, 0, 0, 0, false⟩) (w' := w.alloc (.stringIter ⟨l.toArray⟩ 0)) (by simp) rfl rfl rfl (.inr (Nat.le_refl _)) (by simp) (fun b hb => Below.heap_alloc _ _ _ hb)
   (by simp only [ObjRel]; exact ⟨_, mput_same _ _ _, heap_alloc_new w _, rfl, rfl⟩)
  refine ⟨.pointer (some ⟨w.heap.size, 0, none⟩), _, _, ?_, .ref _ _ _ _ (mput_same _ _ _), h1, h2⟩
  simp only [Instr.range, Sem.run_bind, run_underlying hu, Result.andThen_ok, Sem.run_pure]
  rfl
 ·cases h
theorem next_sound (hI : Inv C B kn m σ nx w) {t : TypeId} {x r : AV} {v : Value} {σ' : Sto} {nx' : Nat} (h : nextA σ nx x = some (r, σ', nx')) (hx : Rel kn m x v) :
  ∃ u m' w', (Instr.next v true t).run C.P w = .ok u w' ∧ Rel kn m' r u ∧ Inv C B kn m' σ' nx' w' ∧ Keep m σ nx m' σ' nx' := by
 unfold nextA at h
 split at h
 ·rename_i p nm
  split at h
  ·rename_i l pos hs
   have hp := sget_some hs
   cases hx with
   | ref _ _ _ loc hm =>
    obtain ⟨loc', hm', hw, h0, hnl⟩ := hI.obj _ _ _ hp
    rw [hm] at hm'; cases hm'
    have hget : (getObj loc.blk).run C.P w = .ok (.stringIter ⟨l.toArray⟩ pos) w := by simp [getObj, Sem.run, hw]
    have hsz : (⟨l.toArray⟩ : ByteArray).size = l.length := by simp [ByteArray.size]
    split at h
    ·rename_i hlt
     simp only [Option.some.injEq, Prod.mk.injEq] at h
     obtain ⟨rfl, rfl, rfl⟩ := h
     have hset : (setObj loc.blk (.stringIter ⟨l.toArray⟩ (pos + (Utf8.decode ⟨l.toArray⟩ pos).2))).run C.P w = .ok () { w with heap := w.heap.setIfInBounds loc.blk (.stringIter ⟨l.toArray⟩ (pos + (Utf8.decode ⟨l.toArray⟩ pos).2)) } := by simp [setObj, Sem.run, hw]
     have hbl : loc.blk < w.heap.size := (Array.getElem?_eq_some_iff.1 hw).1
     obtain ⟨h1, h2⟩ := hI.write (ob' := .siter l (pos + (Utf8.decode ⟨l.toArray⟩ pos).2)) hp trivial hm hnl (w' := { w with heap := w.heap.setIfInBounds loc.blk (.stringIter ⟨l.toArray⟩ (pos + (Utf8.decode ⟨l.toArray⟩ pos).2)) }) (by simp) rfl rfl rfl
      (fun b hb => by simp [Array.getElem?_setIfInBounds_ne (Ne.symm hb)]) (by simp only [ObjRel]; exact ⟨loc, hm, by simp [hbl], h0, hnl⟩)
     refine ⟨.tuple #[.bool true, goInt pos, .int .i32 (Utf8.decode ⟨l.toArray⟩ pos).1], m, _, ?_, tup_three (.bool _) (.int _ _) (.int _ _), h1, h2⟩
     rw [h0]
     simp only [Instr.next, Nat.zero_add, Sem.run_bind, hget, Result.andThen_ok, hsz, hlt, if_true, hset, Sem.run_pure]
    ·rename_i hlt
     simp only [Option.some.injEq, Prod.mk.injEq] at h
     obtain ⟨rfl, rfl, rfl⟩ := h
     refine ⟨.tuple #[.bool false], m, w, ?_, tup_one (.bool _), hI, Keep.refl _ _ _⟩
     rw [h0]
     simp only [Instr.next, Nat.zero_add, Sem.run_bind, hget, Result.andThen_ok, hsz, hlt, if_false, Sem.run_pure]
  ·cases h
 ·cases h
end
end Go.Ab
