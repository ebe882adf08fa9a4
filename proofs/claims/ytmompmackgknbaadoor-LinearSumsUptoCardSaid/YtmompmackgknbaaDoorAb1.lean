/-
  ABSTRACT VALUES, their relation to the model's values, and the invariant that ties an abstract state to a world.
  Part 1 of a program logic over the model: definitions and the lemmas on how the relation lives on.
-/
import Derived.Below
import Derived.WalkKit
import Derived.KernelRfl
set_option linter.unusedVariables false
namespace Go.Ab
open Go Go.RowKit

/-- The cells that are known for good: nobody writes them any more. -/
abbrev Kn := Nat → Nat → Option Value
/-- Where a named object lies. -/
structure Loc where
  blk : Nat
  off : Nat
  cap : Nat
  esz : Nat
abbrev Mp := Nat → Option Loc

/-- Abstract values. -/
inductive AV where
  | any
  | int (k : IntKind) (n : Int)
  | bool (b : Bool)
  | str (l : List UInt8)
  | base (v : Value)
  | agg (cs : List AV)
  | tup (vs : List AV)
  | vec (esz : Nat) (rows : List (List AV))
  | emp
  | rptr (cs : List AV)
  | ref (pos nm off : Nat)
  | eref (pos nm i off : Nat)
  | sref (pos nm esz off len : Nat)
  | fn (f : Fn) (first caps : List AV)
  | iface (t : TypeId) (v : AV)
  | mapr (pos nm : Nat)

abbrev AV.undef : AV := .base (.tuple #[])

/-- A value of the model is what an abstract value says. -/
inductive Rel (kn : Kn) (m : Mp) : AV → Value → Prop
  | any (v : Value) : Rel kn m .any v
  | int (k : IntKind) (n : Int) : Rel kn m (.int k n) (.int k n)
  | bool (b : Bool) : Rel kn m (.bool b) (.bool b)
  | str (l : List UInt8) : Rel kn m (.str l) (.string ⟨l.toArray⟩)
  | base (v : Value) : Rel kn m (.base v) v
  | agg (cs : List AV) (vs : Array Value) (hl : cs.length = vs.size) (h : ∀ (i : Nat) (x : AV) (v : Value), cs[i]? = some x → vs[i]? = some v → Rel kn m x v) (h1 : ∀ (i : Nat) (v : Value), vs[i]? = some v → v.oneCell' = true) : Rel kn m (.agg cs) (.agg vs)
  | tup (cs : List AV) (vs : Array Value) (hl : cs.length = vs.size) (h : ∀ (i : Nat) (x : AV) (v : Value), cs[i]? = some x → vs[i]? = some v → Rel kn m x v) : Rel kn m (.tup cs) (.tuple vs)
  | vecNil (esz : Nat) (a : Addr) (cap : Nat) : Rel kn m (.vec esz []) (.slice (some a) 0 cap)
  | vec (esz : Nat) (rows : List (List AV)) (b o cap : Nat) (vals : Nat → Nat → Value) (hc : rows.length ≤ cap) (hm : rows.length ≤ 2 ^ 62) (hrow : ∀ (i : Nat) (row : List AV), rows[i]? = some row → row.length = esz)
      (hk : ∀ (i : Nat) (row : List AV) (j : Nat) (x : AV), rows[i]? = some row → row[j]? = some x → kn b (o + i * esz + j) = some (vals i j))
      (h : ∀ (i : Nat) (row : List AV) (j : Nat) (x : AV), rows[i]? = some row → row[j]? = some x → Rel kn m x (vals i j))
      (h1 : ∀ (i : Nat) (row : List AV) (j : Nat) (x : AV), rows[i]? = some row → row[j]? = some x → (vals i j).oneCell' = true) : Rel kn m (.vec esz rows) (.slice (some ⟨b, o, none⟩) rows.length cap)
  | emp (a : Addr) : Rel kn m .emp (.slice (some a) 0 0)
  | rptr (cs : List AV) (b o : Nat) (vals : Nat → Value) (hk : ∀ (j : Nat) (x : AV), cs[j]? = some x → kn b (o + j) = some (vals j)) (h : ∀ (j : Nat) (x : AV), cs[j]? = some x → Rel kn m x (vals j))
      (h1 : ∀ (j : Nat) (x : AV), cs[j]? = some x → (vals j).oneCell' = true) : Rel kn m (.rptr cs) (.pointer (some ⟨b, o, none⟩))
  | ref (pos nm off : Nat) (loc : Loc) (hm : m nm = some loc) : Rel kn m (.ref pos nm off) (.pointer (some ⟨loc.blk, loc.off + off, none⟩))
  | eref (pos nm i off : Nat) (loc : Loc) (hm : m nm = some loc) : Rel kn m (.eref pos nm i off) (.pointer (some ⟨loc.blk, loc.off + i * loc.esz + off, none⟩))
  | sref (pos nm esz off len : Nat) (loc : Loc) (hm : m nm = some loc) (he : loc.esz = esz) (hl : len + off ≤ loc.cap) (hm' : len ≤ 2 ^ 62) : Rel kn m (.sref pos nm esz off len) (.slice (some ⟨loc.blk, loc.off + off * loc.esz, none⟩) len (loc.cap - off))
  | fn (f : Fn) (first caps : List AV) (first' caps' : Array Value) (h1 : first.length = first'.size) (h2 : caps.length = caps'.size)
      (hf : ∀ (i : Nat) (x : AV) (v : Value), first[i]? = some x → first'[i]? = some v → Rel kn m x v) (hc : ∀ (i : Nat) (x : AV) (v : Value), caps[i]? = some x → caps'[i]? = some v → Rel kn m x v) : Rel kn m (.fn f first caps) (.func f first' caps')
  | iface (t : TypeId) (x : AV) (v : Value) (h : Rel kn m x v) : Rel kn m (.iface t x) (.iface t v)
  | mapr (pos nm : Nat) (loc : Loc) (hm : m nm = some loc) : Rel kn m (.mapr pos nm) (.map (some loc.blk))

def KnLe (kn kn' : Kn) : Prop := ∀ b o v, kn b o = some v → kn' b o = some v
def MpLe (m m' : Mp) : Prop := ∀ n l, m n = some l → m' n = some l
theorem KnLe.refl (kn : Kn) : KnLe kn kn := fun _ _ _ h => h
theorem MpLe.refl (m : Mp) : MpLe m m := fun _ _ h => h
theorem KnLe.trans {a b c : Kn} (h : KnLe a b) (k : KnLe b c) : KnLe a c := fun _ _ _ x => k _ _ _ (h _ _ _ x)
theorem MpLe.trans {a b c : Mp} (h : MpLe a b) (k : MpLe b c) : MpLe a c := fun _ _ x => k _ _ (h _ _ x)

theorem Rel.mono {kn kn' : Kn} {m m' : Mp} {x : AV} {v : Value} (h : Rel kn m x v) (hk : KnLe kn kn') (hm : MpLe m m') : Rel kn' m' x v := by
  induction h with
  | any v => exact .any v
  | int k n => exact .int k n
  | bool b => exact .bool b
  | str l => exact .str l
  | base v => exact .base v
  | agg cs vs hl h h1 ih => exact .agg cs vs hl ih h1
  | tup cs vs hl h ih => exact .tup cs vs hl ih
  | vecNil e a c => exact .vecNil e a c
  | vec esz rows b o cap vals hc hm' hrow hk' h h1 ih => exact .vec esz rows b o cap vals hc hm' hrow (fun i row j x a b => hk _ _ _ (hk' i row j x a b)) ih h1
  | emp a => exact .emp a
  | rptr cs b o vals hk' h h1 ih => exact .rptr cs b o vals (fun j x a => hk _ _ _ (hk' j x a)) ih h1
  | ref pos nm off loc h => exact .ref pos nm off loc (hm _ _ h)
  | eref pos nm i off loc h => exact .eref pos nm i off loc (hm _ _ h)
  | sref pos nm esz off len loc h he hl hm' => exact .sref pos nm esz off len loc (hm _ _ h) he hl hm'
  | fn f first caps f' c' h1 h2 _ _ ihf ihc => exact .fn f first caps f' c' h1 h2 ihf ihc
  | iface t x v _ ih => exact .iface t x v ih
  | mapr pos nm loc h => exact .mapr pos nm loc (hm _ _ h)

/- Values without references to objects. -/
mutual
def RF : AV → Prop
  | .any => True
  | .int _ _ => True
  | .bool _ => True
  | .str _ => True
  | .base _ => True
  | .agg cs => RFL cs
  | .tup cs => RFL cs
  | .vec _ rows => RFLL rows
  | .emp => True
  | .rptr cs => RFL cs
  | .ref _ _ _ => False
  | .eref _ _ _ _ => False
  | .sref _ _ _ _ _ => False
  | .fn _ a b => RFL a ∧ RFL b
  | .iface _ v => RF v
  | .mapr _ _ => False
def RFL : List AV → Prop
  | [] => True
  | c :: cs => RF c ∧ RFL cs
def RFLL : List (List AV) → Prop
  | [] => True
  | r :: rs => RFL r ∧ RFLL rs
end

theorem RFL_iff (l : List AV) : RFL l ↔ ∀ c ∈ l, RF c := by
  induction l with
  | nil => simp [RFL]
  | cons c cs ih => simp [RFL, ih]
theorem RFLL_iff (l : List (List AV)) : RFLL l ↔ ∀ r ∈ l, RFL r := by
  induction l with
  | nil => simp [RFLL]
  | cons c cs ih => simp [RFLL, ih]
theorem RFL.get {l : List AV} (h : RFL l) {i : Nat} {x : AV} (hx : l[i]? = some x) : RF x := (RFL_iff l).1 h x (List.mem_of_getElem? hx)
theorem RFLL.get {l : List (List AV)} (h : RFLL l) {i : Nat} {x : List AV} (hx : l[i]? = some x) : RFL x := (RFLL_iff l).1 h x (List.mem_of_getElem? hx)

/-- What holds no references is read the same whatever the names mean. -/
theorem Rel.rf {kn : Kn} {m : Mp} {x : AV} {v : Value} (h : Rel kn m x v) (hf : RF x) (m' : Mp) : Rel kn m' x v := by
  induction h with
  | any v => exact .any v
  | int k n => exact .int k n
  | bool b => exact .bool b
  | str l => exact .str l
  | base v => exact .base v
  | agg cs vs hl h h1 ih => exact .agg cs vs hl (fun i x v a b => ih i x v a b (by simp only [RF] at hf; exact hf.get a)) h1
  | tup cs vs hl h ih => exact .tup cs vs hl (fun i x v a b => ih i x v a b (by simp only [RF] at hf; exact hf.get a))
  | vecNil e a c => exact .vecNil e a c
  | vec esz rows b o cap vals hc hm' hrow hk' h h1 ih => exact .vec esz rows b o cap vals hc hm' hrow hk' (fun i row j x a b => ih i row j x a b (by simp only [RF] at hf; exact (hf.get a).get b)) h1
  | emp a => exact .emp a
  | rptr cs b o vals hk' h h1 ih => exact .rptr cs b o vals hk' (fun j x a => ih j x a (by simp only [RF] at hf; exact hf.get a)) h1
  | ref pos nm off loc h => simp [RF] at hf
  | eref pos nm i off loc h => simp [RF] at hf
  | sref pos nm esz off len loc h he hl hm' => simp [RF] at hf
  | fn f first caps f' c' h1 h2 _ _ ihf ihc => exact .fn f first caps f' c' h1 h2 (fun i x v a b => ihf i x v a b (by simp only [RF] at hf; exact hf.1.get a)) (fun i x v a b => ihc i x v a b (by simp only [RF] at hf; exact hf.2.get a))
  | iface t x v _ ih => exact .iface t x v (ih (by simpa only [RF] using hf))
  | mapr pos nm loc h => simp [RF] at hf

/-- Lists, cell by cell. -/
def RelL (kn : Kn) (m : Mp) (cs : List AV) (vs : List Value) : Prop := cs.length = vs.length ∧ ∀ (i : Nat) (x : AV) (v : Value), cs[i]? = some x → vs[i]? = some v → Rel kn m x v
theorem RelL.mono {kn kn' : Kn} {m m' : Mp} {cs : List AV} {vs : List Value} (h : RelL kn m cs vs) (hk : KnLe kn kn') (hm : MpLe m m') : RelL kn' m' cs vs :=
  ⟨h.1, fun i x v a b => (h.2 i x v a b).mono hk hm⟩
theorem RelL.nil (kn : Kn) (m : Mp) : RelL kn m [] [] := ⟨rfl, fun i x v a => by simp at a⟩
theorem RelL.cons {kn : Kn} {m : Mp} {c : AV} {v : Value} {cs : List AV} {vs : List Value} (h : Rel kn m c v) (hs : RelL kn m cs vs) : RelL kn m (c :: cs) (v :: vs) := by
  refine ⟨by simp [hs.1], fun i x u a b => ?_⟩
  cases i with
  | zero => simp at a b; subst a; subst b; exact h
  | succ i => simp at a b; exact hs.2 i x u a b
theorem RelL.uncons {kn : Kn} {m : Mp} {c : AV} {cs : List AV} {vs : List Value} (h : RelL kn m (c :: cs) vs) : ∃ v vs', vs = v :: vs' ∧ Rel kn m c v ∧ RelL kn m cs vs' := by
  cases vs with
  | nil => have := h.1; simp at this
  | cons v vs' => exact ⟨v, vs', rfl, h.2 0 c v rfl rfl, by have := h.1; simpa using this, fun i x u a b => h.2 (i + 1) x u (by simpa using a) (by simpa using b)⟩
theorem RelL.append {kn : Kn} {m : Mp} {cs ds : List AV} {vs us : List Value} (h : RelL kn m cs vs) (k : RelL kn m ds us) : RelL kn m (cs ++ ds) (vs ++ us) := by
  induction cs generalizing vs with
  | nil => have : vs = [] := List.eq_nil_of_length_eq_zero (by have := h.1; simpa using this.symm); subst this; simpa using k
  | cons c cs ih => obtain ⟨v, vs', rfl, h1, h2⟩ := h.uncons; exact .cons h1 (ih h2)
theorem RelL.take {kn : Kn} {m : Mp} {cs : List AV} {vs : List Value} (h : RelL kn m cs vs) (n : Nat) : RelL kn m (cs.take n) (vs.take n) := by
  refine ⟨by simp [h.1], fun i x v a b => ?_⟩
  rw [List.getElem?_take] at a b
  split at a
  · rename_i hi; rw [if_pos hi] at b; exact h.2 i x v a b
  · cases a
theorem RelL.drop {kn : Kn} {m : Mp} {cs : List AV} {vs : List Value} (h : RelL kn m cs vs) (n : Nat) : RelL kn m (cs.drop n) (vs.drop n) := by
  refine ⟨by simp [h.1], fun i x v a b => ?_⟩
  rw [List.getElem?_drop] at a b
  exact h.2 _ x v a b

/-- Cells: each is one. -/
def RelC (kn : Kn) (m : Mp) (cs : List AV) (vs : List Value) : Prop := RelL kn m cs vs ∧ ∀ v ∈ vs, v.oneCell' = true
theorem RelC.mono {kn kn' : Kn} {m m' : Mp} {cs : List AV} {vs : List Value} (h : RelC kn m cs vs) (hk : KnLe kn kn') (hm : MpLe m m') : RelC kn' m' cs vs := ⟨h.1.mono hk hm, h.2⟩
theorem RelC.append {kn : Kn} {m : Mp} {cs ds : List AV} {vs us : List Value} (h : RelC kn m cs vs) (k : RelC kn m ds us) : RelC kn m (cs ++ ds) (vs ++ us) :=
  ⟨h.1.append k.1, fun v hv => (List.mem_append.1 hv).elim (h.2 v) (k.2 v)⟩
theorem RelC.take {kn : Kn} {m : Mp} {cs : List AV} {vs : List Value} (h : RelC kn m cs vs) (n : Nat) : RelC kn m (cs.take n) (vs.take n) := ⟨h.1.take n, fun v hv => h.2 v (List.mem_of_mem_take hv)⟩
theorem RelC.drop {kn : Kn} {m : Mp} {cs : List AV} {vs : List Value} (h : RelC kn m cs vs) (n : Nat) : RelC kn m (cs.drop n) (vs.drop n) := ⟨h.1.drop n, fun v hv => h.2 v (List.mem_of_mem_drop hv)⟩

/- What scalars are abstractly. -/
def ofVal : Value → AV
  | .int k n => .int k n
  | .bool b => .bool b
  | .string s => .str s.data.toList
  | .func f a b => if a.size = 0 ∧ b.size = 0 then .fn f [] [] else .base (.func f a b)
  | v => .base v
theorem ofVal_rel (kn : Kn) (m : Mp) (v : Value) : Rel kn m (ofVal v) v := by
  unfold ofVal
  split
  · exact .int _ _
  · exact .bool _
  · rename_i s; have := Rel.str (kn := kn) (m := m) s.data.toList; simpa using this
  · rename_i f a b
    split
    · rename_i h; exact .fn _ [] [] a b (by simp [h.1]) (by simp [h.2]) (fun i x v a => by simp at a) (fun i x v a => by simp at a)
    · exact .base _
  · exact .base _

/-- Objects that are written. -/
inductive AObj where
  | none
  | cells (T : TypeId) (cs : List AV)
  | gvec (esz : Nat) (ety : TypeId) (rows : List (List AV))
  | siter (l : List UInt8) (pos : Nat)

abbrev Sto := List (Nat × AObj)
structure St where
  env : Nat → AV
  σ : Sto
  nx : Nat

def zeroCells (P : Program) (T : TypeId) : Option (List AV) := ((P.info? T).bind (·.zero)).bind fun v => if v.cells.toList.all (·.oneCell') = true then some (v.cells.toList.map ofVal) else none

def ObjRel (P : Program) (kn : Kn) (m : Mp) (w : World) (nm : Nat) : AObj → Prop
  | .none => True
  | .cells T cs => match m nm with
    | none => zeroCells P T = some cs
    | some loc => loc.off = 0 ∧ ∃ arr ty, w.heap[loc.blk]? = some (.cells arr ty (0, 0)) ∧ RelC kn m cs arr.toList
  | .gvec esz ety rows => ∃ loc, m nm = some loc ∧ loc.esz = esz ∧ ∃ arr, w.heap[loc.blk]? = some (.cells arr ety (0, 0)) ∧ loc.off + loc.cap * esz ≤ arr.size ∧ rows.length ≤ loc.cap ∧ loc.cap ≤ maxLen ∧
      (∀ v ∈ arr.toList, v.oneCell' = true) ∧ (∀ (i : Nat) (row : List AV), rows[i]? = some row → row.length = esz) ∧ ∀ (i : Nat) (row : List AV) (j : Nat) (x : AV) (v : Value), rows[i]? = some row → row[j]? = some x → arr[loc.off + i * esz + j]? = some v → Rel kn m x v
  | .siter l pos => ∃ loc, m nm = some loc ∧ (w.heap[loc.blk]? = some (.stringIter ⟨l.toArray⟩ pos) ∧ loc.off = 0)

/-- The program, and what its package-level variables are known to hold. -/
structure Cx where
  P : Program
  gl : Nat → AV
  rf : ∀ g, RF (gl g)

/-- The world in which a call began, what was known there, and which of its blocks the call may write. -/
structure Base where
  w : World
  kn : Kn
  own : Nat → Prop

def live : AObj → Prop
  | .none => False
  | _ => True

structure Inv (C : Cx) (B : Base) (kn : Kn) (m : Mp) (σ : Sto) (nx : Nat) (w : World) : Prop where
  knok : ∀ b o v, kn b o = some v → w.cell? ⟨b, o, none⟩ = some v
  size : B.w.heap.size ≤ w.heap.size
  os : w.os = B.w.os
  tape : w.tape = B.w.tape
  output : w.output = B.w.output
  old : ∀ b, b < B.w.heap.size → ¬ B.own b → w.heap[b]? = B.w.heap[b]? ∧ kn b = B.kn b
  obj : ∀ (p nm : Nat) (ob : AObj), σ[p]? = some (nm, ob) → ObjRel C.P kn m w nm ob
  own : ∀ (p nm : Nat) (ob : AObj) (loc : Loc), σ[p]? = some (nm, ob) → live ob → m nm = some loc → loc.blk < w.heap.size ∧ (B.w.heap.size ≤ loc.blk ∨ B.own loc.blk) ∧ ∀ o, kn loc.blk o = none
  dist : ∀ (p nm : Nat) (ob : AObj) (loc : Loc) (p' nm' : Nat) (ob' : AObj) (loc' : Loc), σ[p]? = some (nm, ob) → σ[p']? = some (nm', ob') → live ob → live ob' → m nm = some loc → m nm' = some loc' → p ≠ p' → loc.blk ≠ loc'.blk
  dom : ∀ n, nx ≤ n → m n = none
  lt : ∀ (p nm : Nat) (ob : AObj), σ[p]? = some (nm, ob) → nm < nx
  uniq : ∀ (p p' nm : Nat) (ob ob' : AObj), σ[p]? = some (nm, ob) → σ[p']? = some (nm, ob') → p = p'
  glob : ∀ g, Rel kn m (C.gl g) (.pointer (some ⟨g, 0, none⟩))

theorem Inv.kn_lt {C : Cx} {B : Base} {kn : Kn} {m : Mp} {σ : Sto} {nx : Nat} {w : World} (h : Inv C B kn m σ nx w) {b o : Nat} {v : Value} (hk : kn b o = some v) : b < w.heap.size :=
  World.block_lt_of_cell? w ⟨b, o, none⟩ (h.knok b o v hk)

theorem ObjRel.mono {P : Program} {kn kn' : Kn} {m : Mp} {w w' : World} {nm : Nat} {ob : AObj} (h : ObjRel P kn m w nm ob) (hk : KnLe kn kn')
    (hw : ∀ loc, live ob → m nm = some loc → w'.heap[loc.blk]? = w.heap[loc.blk]?) : ObjRel P kn' m w' nm ob := by
  cases ob with
  | none => trivial
  | cells T cs =>
    simp only [ObjRel] at h ⊢
    cases hn : m nm with
    | none => simpa [hn] using h
    | some loc =>
      simp only [hn] at h ⊢
      obtain ⟨h0, arr, ty, h1, h2⟩ := h
      exact ⟨h0, arr, ty, (hw loc trivial hn).trans h1, h2.mono hk (MpLe.refl m)⟩
  | gvec esz ety rows =>
    obtain ⟨loc, hn, he, arr, h1, h2, h3, h4, h4', h5, h6⟩ := h
    exact ⟨loc, hn, he, arr, (hw loc trivial hn).trans h1, h2, h3, h4, h4', h5, fun i row j x v a b c => (h6 i row j x v a b c).mono hk (MpLe.refl m)⟩
  | siter l pos =>
    obtain ⟨loc, hn, h1⟩ := h
    exact ⟨loc, hn, (hw loc trivial hn).trans h1.1, h1.2⟩

/-- New blocks, nothing written: the invariant lives on; what is known may grow by cells of new blocks. -/
theorem Inv.grow {C : Cx} {B : Base} {kn kn' : Kn} {m : Mp} {σ : Sto} {nx : Nat} {w w' : World} (h : Inv C B kn m σ nx w)
    (hs : w.heap.size ≤ w'.heap.size) (ho : w'.os = w.os) (ht : w'.tape = w.tape) (hp : w'.output = w.output) (hb : ∀ b, b < w.heap.size → w'.heap[b]? = w.heap[b]?)
    (hk : ∀ b, b < w.heap.size → kn' b = kn b) (hn : ∀ b o v, w.heap.size ≤ b → kn' b o = some v → w'.cell? ⟨b, o, none⟩ = some v) : KnLe kn kn' ∧ Inv C B kn' m σ nx w' := by
  have hle : KnLe kn kn' := fun b o v e => by rw [hk b (h.kn_lt e)]; exact e
  refine ⟨hle, ⟨fun b o v e => ?_, Nat.le_trans h.size hs, ho.trans h.os, ht.trans h.tape, hp.trans h.output, fun b hbb hob => ?_, fun p nm ob e => ?_, fun p nm ob loc e l g => ?_, h.dist, h.dom, h.lt, h.uniq, fun g => (h.glob g).mono hle (MpLe.refl m)⟩⟩
  · rcases Nat.lt_or_ge b w.heap.size with hlt | hge
    · rw [hk b hlt] at e
      have := h.knok b o v e
      unfold World.cell? at this ⊢
      simp only [hb b hlt]
      exact this
    · exact hn b o v hge e
  · have := h.old b hbb hob
    have hlt : b < w.heap.size := Nat.lt_of_lt_of_le hbb h.size
    exact ⟨(hb b hlt).trans this.1, (hk b hlt).trans this.2⟩
  · exact (h.obj p nm ob e).mono hle (fun loc l g => hb _ (h.own p nm ob loc e l g).1)
  · obtain ⟨h1, h2, h3⟩ := h.own p nm ob loc e l g
    exact ⟨Nat.lt_of_lt_of_le h1 hs, h2, fun o => by rw [hk _ h1]; exact h3 o⟩

/-- A new block of cells that nobody will write. -/
def knPut (kn : Kn) (b : Nat) (arr : Array Value) : Kn := fun b' o => if b' = b then arr[o]? else kn b' o
theorem knPut_same (kn : Kn) (b : Nat) (arr : Array Value) (o : Nat) : knPut kn b arr b o = arr[o]? := by simp [knPut]
theorem Inv.box {C : Cx} {B : Base} {kn : Kn} {m : Mp} {σ : Sto} {nx : Nat} {w : World} (h : Inv C B kn m σ nx w) (arr : Array Value) (T : TypeId) :
    KnLe kn (knPut kn w.heap.size arr) ∧ Inv C B (knPut kn w.heap.size arr) m σ nx (w.alloc (.cells arr T)) := by
  refine h.grow (by simp) rfl rfl rfl (fun b hb => Below.heap_alloc _ _ _ hb) (fun b hb => ?_) (fun b o v hb e => ?_)
  · funext o; simp [knPut, Nat.ne_of_lt hb]
  · unfold knPut at e
    split at e
    · rename_i hbb; subst hbb; simp [e]
    · exact absurd (h.kn_lt e) (by omega)
/-- A draw. -/
theorem Inv.drew {C : Cx} {B : Base} {kn : Kn} {m : Mp} {σ : Sto} {nx : Nat} {w : World} (h : Inv C B kn m σ nx w) : Inv C B kn m σ nx w.drew :=
  (h.grow (kn' := kn) (w' := w.drew) (Nat.le_refl _) rfl rfl rfl (fun _ _ => rfl) (fun _ _ => rfl) (fun b o v hb e => absurd (h.kn_lt e) (by omega))).2

end Go.Ab
