/-
  WHAT AN OPERATION MAKES OF ABSTRACT VALUES, part two: the function 'fop' (operations that write nothing that was there), and that it is sound.
-/
import Derived.Below
import Derived.WalkKit
import Derived.KernelRfl
import Derived.Laws.Strings2
import Derived.Laws.Unary
import Derived.Laws.Slices
import Derived.Laws.Cells
set_option linter.unusedVariables false
set_option linter.unusedSimpArgs false
namespace Go.Ab
open Go Go.RowKit
abbrev Kn := Nat → Nat → Option Value
structure Loc where
 blk : Nat
 off : Nat
 cap : Nat
 esz : Nat
 len : Nat
 nil : Bool
abbrev Mp := Nat → Option Loc
inductive Fm where
 | mk (k n : Int) (t : List UInt8) (l : List Fm)
def Fm.k : Fm → Int | .mk k _ _ _ => k
def Fm.n : Fm → Int | .mk _ n _ _ => n
def Fm.t : Fm → List UInt8 | .mk _ _ t _ => t
def Fm.l : Fm → List Fm | .mk _ _ _ l => l
inductive E where
 | int (k : IntKind)
 | bool
 | str
 | erri
 | form
 | un
 | pr (a b : E)
 | slice (e : E)
 deriving DecidableEq
def E.den : E → Type
 | .int _ => Int
 | .bool => Bool
 | .str => List UInt8
 | .erri => Bool
 | .form => Fm
 | .un => Unit
 | .pr a b => a.den × b.den
 | .slice e => List e.den
def E.size : E → Nat
 | .form => 4
 | .un => 0
 | .pr a b => a.size + b.size
 | _ => 1
def E.dflt : (e : E) → e.den
 | .int _ => (0 : Int)
 | .bool => false
 | .str => ([] : List UInt8)
 | .erri => true
 | .form => Fm.mk 0 0 [] []
 | .un => ()
 | .pr a b => (a.dflt, b.dflt)
 | .slice _ => []
inductive AV where
 | any
 | int (k : IntKind) (n : Int)
 | bool (b : Bool)
 | str (l : List UInt8)
 | base (v : Value)
 | agg (cs : List AV)
 | tup (vs : List AV)
 | vec (esz : Nat) (rows : List (List AV))
 | emp
 | rptr (cs : List AV)
 | ref (pos nm off : Nat)
 | eref (pos nm i off : Nat)
 | sref (pos nm esz off len : Nat)
 | fn (f : Fn) (first caps : List AV)
 | iface (t : TypeId) (v : AV)
 | mapr (pos nm : Nat)
 | erri (b : Bool)
 | tvec (e : E) (l : List e.den)
 | gs (pos nm : Nat) (e : E) (len : Nat)
 | mref (pos nm off : Nat) (b : Bool)
 | gv (pos nm : Nat) (e : E) (off len : Nat)
abbrev AV.undef : AV := .base (.tuple #[])
mutual
def Fm.row : Fm → List AV
 | .mk k n t l => [.int .i64 k, .int .i64 n, .str t, .vec 4 (Fm.rows l)]
def Fm.rows : List Fm → List (List AV)
 | [] => []
 | f :: l => f.row :: Fm.rows l
end
def E.row : (e : E) → e.den → List AV
 | .int k, (n : Int) => [.int k n]
 | .bool, (b : Bool) => [.bool b]
 | .str, (l : List UInt8) => [.str l]
 | .erri, (b : Bool) => [.erri b]
 | .form, (f : Fm) => f.row
 | .un, _ => []
 | .pr a b, (x, y) => a.row x ++ b.row y
 | .slice e, (l : List e.den) => [.vec e.size (l.map e.row)]
def E.cells : (e : E) → e.den → List AV
 | .int k, (n : Int) => [.int k n]
 | .bool, (b : Bool) => [.bool b]
 | .str, (l : List UInt8) => [.str l]
 | .erri, (b : Bool) => [.erri b]
 | .form, (f : Fm) => [.int .i64 f.k, .int .i64 f.n, .str f.t, .tvec .form f.l]
 | .un, _ => []
 | .pr a b, x => a.cells x.1 ++ b.cells x.2
 | .slice e, (l : List e.den) => [.tvec e l]
theorem Fm.rows_map (l : List Fm) : Fm.rows l = l.map Fm.row := by
 induction l with
 | nil => rfl
 | cons f l ih => simp [Fm.rows, ih]
def slcOf (loc : Loc) : Value := if loc.nil = true then .slice none 0 0 else .slice (some ⟨loc.blk, loc.off, none⟩) loc.len loc.cap
inductive Rel (kn : Kn) (m : Mp) : AV → Value → Prop
 | any (v : Value) : Rel kn m .any v
 | int (k : IntKind) (n : Int) : Rel kn m (.int k n) (.int k n)
 | bool (b : Bool) : Rel kn m (.bool b) (.bool b)
 | str (l : List UInt8) : Rel kn m (.str l) (.string ⟨l.toArray⟩)
 | base (v : Value) : Rel kn m (.base v) v
 | agg (cs : List AV) (vs : Array Value) (hl : cs.length = vs.size) (h : ∀ (i : Nat) (x : AV) (v : Value), cs[i]? = some x → vs[i]? = some v → Rel kn m x v) (h1 : ∀ (i : Nat) (v : Value), vs[i]? = some v → v.oneCell' = true) : Rel kn m (.agg cs) (.agg vs)
 | tup (cs : List AV) (vs : Array Value) (hl : cs.length = vs.size) (h : ∀ (i : Nat) (x : AV) (v : Value), cs[i]? = some x → vs[i]? = some v → Rel kn m x v) : Rel kn m (.tup cs) (.tuple vs)
 | vecNil (esz : Nat) (a : Addr) (cap : Nat) : Rel kn m (.vec esz []) (.slice (some a) 0 cap)
 | vecNone (esz : Nat) : Rel kn m (.vec esz []) (.slice none 0 0)
 | vec (esz : Nat) (rows : List (List AV)) (b o cap : Nat) (vals : Nat → Nat → Value) (hc : rows.length ≤ cap) (hm : rows.length ≤ 2 ^ 62) (hrow : ∀ (i : Nat) (row : List AV), rows[i]? = some row → row.length = esz)
   (hk : ∀ (i : Nat) (row : List AV) (j : Nat) (x : AV), rows[i]? = some row → row[j]? = some x → kn b (o + i * esz + j) = some (vals i j))
   (h : ∀ (i : Nat) (row : List AV) (j : Nat) (x : AV), rows[i]? = some row → row[j]? = some x → Rel kn m x (vals i j))
   (h1 : ∀ (i : Nat) (row : List AV) (j : Nat) (x : AV), rows[i]? = some row → row[j]? = some x → (vals i j).oneCell' = true) : Rel kn m (.vec esz rows) (.slice (some ⟨b, o, none⟩) rows.length cap)
 | emp (a : Addr) : Rel kn m .emp (.slice (some a) 0 0)
 | empNone : Rel kn m .emp (.slice none 0 0)
 | rptr (cs : List AV) (b o : Nat) (vals : Nat → Value) (hk : ∀ (j : Nat) (x : AV), cs[j]? = some x → kn b (o + j) = some (vals j)) (h : ∀ (j : Nat) (x : AV), cs[j]? = some x → Rel kn m x (vals j))
   (h1 : ∀ (j : Nat) (x : AV), cs[j]? = some x → (vals j).oneCell' = true) : Rel kn m (.rptr cs) (.pointer (some ⟨b, o, none⟩))
 | ref (pos nm off : Nat) (loc : Loc) (hm : m nm = some loc) : Rel kn m (.ref pos nm off) (.pointer (some ⟨loc.blk, loc.off + off, none⟩))
 | eref (pos nm i off : Nat) (loc : Loc) (hm : m nm = some loc) : Rel kn m (.eref pos nm i off) (.pointer (some ⟨loc.blk, loc.off + i * loc.esz + off, none⟩))
 | sref (pos nm esz off len : Nat) (loc : Loc) (hm : m nm = some loc) (hn : loc.nil = false) (he : loc.esz = esz) (hl : len + off ≤ loc.cap) (hm' : len ≤ 2 ^ 62) : Rel kn m (.sref pos nm esz off len) (.slice (some ⟨loc.blk, loc.off + off * loc.esz, none⟩) len (loc.cap - off))
 | fn (f : Fn) (first caps : List AV) (first' caps' : Array Value) (h1 : first.length = first'.size) (h2 : caps.length = caps'.size)
   (hf : ∀ (i : Nat) (x : AV) (v : Value), first[i]? = some x → first'[i]? = some v → Rel kn m x v) (hc : ∀ (i : Nat) (x : AV) (v : Value), caps[i]? = some x → caps'[i]? = some v → Rel kn m x v) : Rel kn m (.fn f first caps) (.func f first' caps')
 | iface (t : TypeId) (x : AV) (v : Value) (h : Rel kn m x v) : Rel kn m (.iface t x) (.iface t v)
 | mapr (pos nm : Nat) (loc : Loc) (hm : m nm = some loc) : Rel kn m (.mapr pos nm) (.map (some loc.blk))
 | srefNil (pos nm esz : Nat) (loc : Loc) (hm : m nm = some loc) (hn : loc.nil = true) : Rel kn m (.sref pos nm esz 0 0) (.slice none 0 0)
 | erriNil : Rel kn m (.erri true) .nilIface
 | erriSome (t : TypeId) (v : Value) : Rel kn m (.erri false) (.iface t v)
 | tvec (e : E) (l : List e.den) (v : Value) (h : Rel kn m (.vec e.size (l.map e.row)) v) : Rel kn m (.tvec e l) v
 | gs (pos nm : Nat) (e : E) (len : Nat) (v : Value) (loc : Loc) (hm : m nm = some loc) (hl : loc.len = len) (h : Rel kn m (.sref pos nm e.size 0 len) v) : Rel kn m (.gs pos nm e len) v
 | mrefSome (pos nm off : Nat) (loc : Loc) (hm : m nm = some loc) : Rel kn m (.mref pos nm off true) (.pointer (some ⟨loc.blk, loc.off + off, none⟩))
 | mrefNil (pos nm off : Nat) : Rel kn m (.mref pos nm off false) (.pointer none)
 | gvE (pos nm : Nat) (e : E) (off : Nat) (a : Option Addr) (cap : Nat) : Rel kn m (.gv pos nm e off 0) (.slice a 0 cap)
 | gvS (pos nm : Nat) (e : E) (off len : Nat) (v : Value) (h : Rel kn m (.sref pos nm e.size off len) v) : Rel kn m (.gv pos nm e off len) v
def KnLe (kn kn' : Kn) : Prop := ∀ b o v, kn b o = some v → kn' b o = some v
def MpLe (m m' : Mp) : Prop := ∀ n l, m n = some l → m' n = some l
theorem KnLe.refl (kn : Kn) : KnLe kn kn := fun _ _ _ h => h
theorem MpLe.refl (m : Mp) : MpLe m m := fun _ _ h => h
theorem KnLe.trans {a b c : Kn} (h : KnLe a b) (k : KnLe b c) : KnLe a c := fun _ _ _ x => k _ _ _ (h _ _ _ x)
theorem MpLe.trans {a b c : Mp} (h : MpLe a b) (k : MpLe b c) : MpLe a c := fun _ _ x => k _ _ (h _ _ x)
theorem Rel.mono {kn kn' : Kn} {m m' : Mp} {x : AV} {v : Value} (h : Rel kn m x v) (hk : KnLe kn kn') (hm : MpLe m m') : Rel kn' m' x v := by
 induction h with
 | any v => exact .any v
 | int k n => exact .int k n
 | bool b => exact .bool b
 | str l => exact .str l
 | base v => exact .base v
 | agg cs vs hl h h1 ih => exact .agg cs vs hl ih h1
 | tup cs vs hl h ih => exact .tup cs vs hl ih
 | vecNil e a c => exact .vecNil e a c
 | vecNone e => exact .vecNone e
 | erriNil => exact .erriNil
 | erriSome t v => exact .erriSome t v
 | vec esz rows b o cap vals hc hm' hrow hk' h h1 ih => exact .vec esz rows b o cap vals hc hm' hrow (fun i row j x a b => hk _ _ _ (hk' i row j x a b)) ih h1
 | emp a => exact .emp a
 | empNone => exact .empNone
 | rptr cs b o vals hk' h h1 ih => exact .rptr cs b o vals (fun j x a => hk _ _ _ (hk' j x a)) ih h1
 | ref pos nm off loc h => exact .ref pos nm off loc (hm _ _ h)
 | eref pos nm i off loc h => exact .eref pos nm i off loc (hm _ _ h)
 | sref pos nm esz off len loc h hn he hl hm' => exact .sref pos nm esz off len loc (hm _ _ h) hn he hl hm'
 | srefNil pos nm esz loc h hn => exact .srefNil pos nm esz loc (hm _ _ h) hn
 | tvec e l v _ ih => exact .tvec e l v ih
 | gs p nm e len v loc h hl _ ih => exact .gs p nm e len v loc (hm _ _ h) hl ih
 | mrefSome p nm off loc h => exact .mrefSome p nm off loc (hm _ _ h)
 | mrefNil p nm off => exact .mrefNil p nm off
 | gvE p nm e off a c => exact .gvE p nm e off a c
 | gvS p nm e off len v _ ih => exact .gvS p nm e off len v ih
 | fn f first caps f' c' h1 h2 _ _ ihf ihc => exact .fn f first caps f' c' h1 h2 ihf ihc
 | iface t x v _ ih => exact .iface t x v ih
 | mapr pos nm loc h => exact .mapr pos nm loc (hm _ _ h)
mutual
def RF : AV → Prop
 | .any => True
 | .int _ _ => True
 | .bool _ => True
 | .str _ => True
 | .base _ => True
 | .agg cs => RFL cs
 | .tup cs => RFL cs
 | .vec _ rows => RFLL rows
 | .emp => True
 | .rptr cs => RFL cs
 | .ref _ _ _ => False
 | .eref _ _ _ _ => False
 | .sref _ _ _ _ _ => False
 | .fn _ a b => RFL a ∧ RFL b
 | .iface _ v => RF v
 | .mapr _ _ => False
 | .erri _ => True
 | .tvec _ _ => True
 | .gs _ _ _ _ => False
 | .mref _ _ _ _ => False
 | .gv _ _ _ _ _ => False
def RFL : List AV → Prop
 | [] => True
 | c :: cs => RF c ∧ RFL cs
def RFLL : List (List AV) → Prop
 | [] => True
 | r :: rs => RFL r ∧ RFLL rs
end
theorem RFL_iff (l : List AV) : RFL l ↔ ∀ c ∈ l, RF c := by
 induction l with
 | nil => simp [RFL]
 | cons c cs ih => simp [RFL, ih]
theorem RFLL_iff (l : List (List AV)) : RFLL l ↔ ∀ r ∈ l, RFL r := by
 induction l with
 | nil => simp [RFLL]
 | cons c cs ih => simp [RFLL, ih]
theorem RFL.get {l : List AV} (h : RFL l) {i : Nat} {x : AV} (hx : l[i]? = some x) : RF x := (RFL_iff l).1 h x (List.mem_of_getElem? hx)
theorem RFLL.get {l : List (List AV)} (h : RFLL l) {i : Nat} {x : List AV} (hx : l[i]? = some x) : RFL x := (RFLL_iff l).1 h x (List.mem_of_getElem? hx)
theorem RFL.append {a b : List AV} (h : RFL a) (k : RFL b) : RFL (a ++ b) := (RFL_iff _).2 fun c hc => (List.mem_append.1 hc).elim ((RFL_iff _).1 h c) ((RFL_iff _).1 k c)
mutual
theorem Fm.row_rf : ∀ f : Fm, RFL f.row
 | .mk k n t l => ⟨trivial, trivial, trivial, Fm.rows_rf l, trivial⟩
theorem Fm.rows_rf : ∀ l : List Fm, RFLL (Fm.rows l)
 | [] => trivial
 | f :: l => ⟨Fm.row_rf f, Fm.rows_rf l⟩
end
theorem E.row_rf : ∀ (e : E) (x : e.den), RFL (e.row x)
 | .int _, _ => ⟨trivial, trivial⟩
 | .bool, _ => ⟨trivial, trivial⟩
 | .str, _ => ⟨trivial, trivial⟩
 | .erri, _ => ⟨trivial, trivial⟩
 | .form, f => Fm.row_rf f
 | .un, _ => trivial
 | .pr a b, (x, y) => (E.row_rf a x).append (E.row_rf b y)
 | .slice e, l => ⟨(RFLL_iff _).2 fun r hr => (by obtain ⟨x, _, rfl⟩ := List.mem_map.1 hr; exact E.row_rf e x), trivial⟩
theorem E.rows_rf (e : E) (l : List e.den) : RFLL (l.map e.row) := (RFLL_iff _).2 fun r hr => (by obtain ⟨x, _, rfl⟩ := List.mem_map.1 hr; exact E.row_rf e x)
theorem E.cells_rf : ∀ (e : E) (x : e.den), RFL (e.cells x)
 | .int _, _ => ⟨trivial, trivial⟩
 | .bool, _ => ⟨trivial, trivial⟩
 | .str, _ => ⟨trivial, trivial⟩
 | .erri, _ => ⟨trivial, trivial⟩
 | .form, f => ⟨trivial, trivial, trivial, trivial, trivial⟩
 | .un, _ => trivial
 | .pr a b, x => (E.cells_rf a x.1).append (E.cells_rf b x.2)
 | .slice e, l => ⟨trivial, trivial⟩
theorem Rel.rf {kn : Kn} {m : Mp} {x : AV} {v : Value} (h : Rel kn m x v) (hf : RF x) (m' : Mp) : Rel kn m' x v := by
 induction h with
 | any v => exact .any v
 | int k n => exact .int k n
 | bool b => exact .bool b
 | str l => exact .str l
 | base v => exact .base v
 | agg cs vs hl h h1 ih => exact .agg cs vs hl (fun i x v a b => ih i x v a b (by simp only [RF] at hf; exact hf.get a)) h1
 | tup cs vs hl h ih => exact .tup cs vs hl (fun i x v a b => ih i x v a b (by simp only [RF] at hf; exact hf.get a))
 | vecNil e a c => exact .vecNil e a c
 | vecNone e => exact .vecNone e
 | erriNil => exact .erriNil
 | erriSome t v => exact .erriSome t v
 | vec esz rows b o cap vals hc hm' hrow hk' h h1 ih => exact .vec esz rows b o cap vals hc hm' hrow hk' (fun i row j x a b => ih i row j x a b (by simp only [RF] at hf; exact (hf.get a).get b)) h1
 | emp a => exact .emp a
 | empNone => exact .empNone
 | rptr cs b o vals hk' h h1 ih => exact .rptr cs b o vals hk' (fun j x a => ih j x a (by simp only [RF] at hf; exact hf.get a)) h1
 | ref pos nm off loc h => simp [RF] at hf
 | eref pos nm i off loc h => simp [RF] at hf
 | sref pos nm esz off len loc h hn he hl hm' => simp [RF] at hf
 | srefNil pos nm esz loc h hn => simp [RF] at hf
 | gs p nm e len v loc h hl _ ih => simp [RF] at hf
 | mrefSome p nm off loc h => simp [RF] at hf
 | mrefNil p nm off => simp [RF] at hf
 | gvE p nm e off a c => simp [RF] at hf
 | gvS p nm e off len v _ ih => simp [RF] at hf
 | tvec e l v _ ih => exact .tvec e l v (ih (by simp only [RF]; exact E.rows_rf e l))
 | fn f first caps f' c' h1 h2 _ _ ihf ihc => exact .fn f first caps f' c' h1 h2 (fun i x v a b => ihf i x v a b (by simp only [RF] at hf; exact hf.1.get a)) (fun i x v a b => ihc i x v a b (by simp only [RF] at hf; exact hf.2.get a))
 | iface t x v _ ih => exact .iface t x v (ih (by simpa only [RF] using hf))
 | mapr pos nm loc h => simp [RF] at hf
def RelL (kn : Kn) (m : Mp) (cs : List AV) (vs : List Value) : Prop := cs.length = vs.length ∧ ∀ (i : Nat) (x : AV) (v : Value), cs[i]? = some x → vs[i]? = some v → Rel kn m x v
theorem RelL.mono {kn kn' : Kn} {m m' : Mp} {cs : List AV} {vs : List Value} (h : RelL kn m cs vs) (hk : KnLe kn kn') (hm : MpLe m m') : RelL kn' m' cs vs :=
 ⟨h.1, fun i x v a b => (h.2 i x v a b).mono hk hm⟩
theorem RelL.nil (kn : Kn) (m : Mp) : RelL kn m [] [] := ⟨rfl, fun i x v a => by simp at a⟩
theorem RelL.cons {kn : Kn} {m : Mp} {c : AV} {v : Value} {cs : List AV} {vs : List Value} (h : Rel kn m c v) (hs : RelL kn m cs vs) : RelL kn m (c :: cs) (v :: vs) := by
 refine ⟨by simp [hs.1], fun i x u a b => ?_⟩
 cases i with
 | zero => simp at a b; subst a; subst b; exact h
 | succ i => simp at a b; exact hs.2 i x u a b
theorem RelL.uncons {kn : Kn} {m : Mp} {c : AV} {cs : List AV} {vs : List Value} (h : RelL kn m (c :: cs) vs) : ∃ v vs', vs = v :: vs' ∧ Rel kn m c v ∧ RelL kn m cs vs' := by
 cases vs with
 | nil => have := h.1; simp at this
 | cons v vs' => exact ⟨v, vs', rfl, h.2 0 c v rfl rfl, by have := h.1; simpa using this, fun i x u a b => h.2 (i + 1) x u (by simpa using a) (by simpa using b)⟩
theorem RelL.append {kn : Kn} {m : Mp} {cs ds : List AV} {vs us : List Value} (h : RelL kn m cs vs) (k : RelL kn m ds us) : RelL kn m (cs ++ ds) (vs ++ us) := by
 induction cs generalizing vs with
 | nil => have : vs = [] := List.eq_nil_of_length_eq_zero (by have := h.1; simpa using this.symm); subst this; simpa using k
 | cons c cs ih => obtain ⟨v, vs', rfl, h1, h2⟩ := h.uncons; exact .cons h1 (ih h2)
theorem RelL.take {kn : Kn} {m : Mp} {cs : List AV} {vs : List Value} (h : RelL kn m cs vs) (n : Nat) : RelL kn m (cs.take n) (vs.take n) := by
 refine ⟨by simp [h.1], fun i x v a b => ?_⟩
 rw [List.getElem?_take] at a b
 split at a
 ·rename_i hi; rw [if_pos hi] at b; exact h.2 i x v a b
 ·cases a
theorem RelL.drop {kn : Kn} {m : Mp} {cs : List AV} {vs : List Value} (h : RelL kn m cs vs) (n : Nat) : RelL kn m (cs.drop n) (vs.drop n) := by
 refine ⟨by simp [h.1], fun i x v a b => ?_⟩
 rw [List.getElem?_drop] at a b
 exact h.2 _ x v a b
def RelC (kn : Kn) (m : Mp) (cs : List AV) (vs : List Value) : Prop := RelL kn m cs vs ∧ ∀ v ∈ vs, v.oneCell' = true
theorem RelC.mono {kn kn' : Kn} {m m' : Mp} {cs : List AV} {vs : List Value} (h : RelC kn m cs vs) (hk : KnLe kn kn') (hm : MpLe m m') : RelC kn' m' cs vs := ⟨h.1.mono hk hm, h.2⟩
theorem RelC.append {kn : Kn} {m : Mp} {cs ds : List AV} {vs us : List Value} (h : RelC kn m cs vs) (k : RelC kn m ds us) : RelC kn m (cs ++ ds) (vs ++ us) :=
 ⟨h.1.append k.1, fun v hv => (List.mem_append.1 hv).elim (h.2 v) (k.2 v)⟩
theorem RelC.take {kn : Kn} {m : Mp} {cs : List AV} {vs : List Value} (h : RelC kn m cs vs) (n : Nat) : RelC kn m (cs.take n) (vs.take n) := ⟨h.1.take n, fun v hv => h.2 v (List.mem_of_mem_take hv)⟩
theorem RelC.drop {kn : Kn} {m : Mp} {cs : List AV} {vs : List Value} (h : RelC kn m cs vs) (n : Nat) : RelC kn m (cs.drop n) (vs.drop n) := ⟨h.1.drop n, fun v hv => h.2 v (List.mem_of_mem_drop hv)⟩
def ofVal : Value → AV
 | .int k n => .int k n
 | .bool b => .bool b
 | .string s => .str s.data.toList
 | .func f a b => if a.size = 0 ∧ b.size = 0 then .fn f [] [] else .base (.func f a b)
 | v => .base v
theorem ofVal_rel (kn : Kn) (m : Mp) (v : Value) : Rel kn m (ofVal v) v := by
 unfold ofVal
 split
 ·exact .int _ _
 ·exact .bool _
 ·rename_i s; have := Rel.str (kn := kn) (m := m) s.data.toList; simpa using this
 ·rename_i f a b
  split
  ·rename_i h; exact .fn _ [] [] a b (by simp [h.1]) (by simp [h.2]) (fun i x v a => by simp at a) (fun i x v a => by simp at a)
  ·exact .base _
 ·exact .base _
inductive Lk where
 | no
 | out (i h q : Nat) (b : Bool)
inductive AObj where
 | none
 | cells (T : TypeId) (cs : List AV)
 | gvec (esz : Nat) (ety : TypeId) (rows : List (List AV))
 | tg (e : E) (ety : TypeId) (l : List e.den)
 | siter (l : List UInt8) (pos : Nat)
 | stk (e : E) (ety : TypeId) (l : List (List e.den)) (k : Lk)
 | hand (e : E) (ps : Nat) (pe : Bool) (r ys : List e.den)
def isHand : AObj → Bool
 | .hand _ _ _ _ _ => true
 | _ => false
def isStk : AObj → Bool
 | .stk _ _ _ _ => true
 | _ => false
abbrev Sto := List (Nat × AObj)
structure St where
 env : Nat → AV
 σ : Sto
 nx : Nat
def zeroCells (P : Program) (T : TypeId) : Option (List AV) := ((P.info? T).bind (·.zero)).bind fun v => if v.cells.toList.all (·.oneCell') = true then some (v.cells.toList.map ofVal) else none
def GvRel (kn : Kn) (m : Mp) (w : World) (nm esz : Nat) (ety : TypeId) (rows : List (List AV)) : Prop :=
 ∃ loc, m nm = some loc ∧ loc.len = rows.length ∧ ((loc.nil = true ∧ rows = []) ∨ (loc.nil = false ∧ loc.esz = esz ∧ ∃ arr, w.heap[loc.blk]? = some (.cells arr ety (0, 0)) ∧ loc.off + loc.cap * esz ≤ arr.size ∧ rows.length ≤ loc.cap ∧ loc.cap ≤ maxLen ∧
   (∀ v ∈ arr.toList, v.oneCell' = true) ∧ (∀ (i : Nat) (row : List AV), rows[i]? = some row → row.length = esz) ∧ ∀ (i : Nat) (row : List AV) (j : Nat) (x : AV) (v : Value), rows[i]? = some row → row[j]? = some x → arr[loc.off + i * esz + j]? = some v → Rel kn m x v))
structure Base where
 w : World
 kn : Kn
 own : Nat → Prop
def Ow (B : Base) (b : Nat) : Prop := B.w.heap.size ≤ b ∨ B.own b
def RowV (B : Base) (kn : Kn) (w : World) (e : E) (l : List e.den) (v : Value) : Prop :=
 (l = [] ∧ v = .slice none 0 0) ∨ (l ≠ [] ∧ 0 < e.size ∧ ∃ b o cap arr ty, v = .slice (some ⟨b, o, none⟩) l.length cap ∧ w.heap[b]? = some (.cells arr ty (0, 0)) ∧ o + cap * e.size ≤ arr.size ∧ l.length ≤ cap ∧ cap ≤ maxLen ∧ l.length ≤ 2 ^ 62 ∧ (∀ u ∈ arr.toList, u.oneCell' = true) ∧
  (∀ (i : Nat) (row : List AV) (j : Nat) (x : AV) (u : Value), (l.map e.row)[i]? = some row → row[j]? = some x → arr[o + i * e.size + j]? = some u → (∀ m, Rel kn m x u) ∧ kn b (o + i * e.size + j) = some u) ∧ (∀ o', o + l.length * e.size ≤ o' → kn b o' = none) ∧ Ow B b)
def bkOf : Value → Option Nat
 | .slice (some a) _ _ => some a.block
 | _ => none
def stkRows (k : Lk) (rv : List Value) : List (List AV) := match k with
 | .out i _ _ true => (rv.map fun v => [AV.base v]).set i [.any]
 | _ => rv.map fun v => [AV.base v]
def lkOK (m : Mp) (k : Lk) (rv : List Value) : Prop := match k with
 | .no => True
 | .out i _ q _ => ∃ loc, m q = some loc ∧ rv[i]? = some (slcOf loc)
def isOut (k : Lk) (j : Nat) : Bool := match k with
 | .no => false
 | .out i _ _ _ => Nat.beq i j
def StkRel (B : Base) (kn : Kn) (m : Mp) (w : World) (nm : Nat) (e : E) (ety : TypeId) (l : List (List e.den)) (k : Lk) : Prop :=
 ∃ rv : List Value, GvRel kn m w nm 1 ety (stkRows k rv) ∧ rv.length = l.length ∧ (∀ (i : Nat) (r : List e.den) (v : Value), isOut k i = false → l[i]? = some r → rv[i]? = some v → RowV B kn w e r v) ∧
  (∀ (i i' : Nat) (v v' : Value), i ≠ i' → rv[i]? = some v → rv[i']? = some v' → bkOf v = bkOf v' → bkOf v = none) ∧ lkOK m k rv
def HandRel (kn : Kn) (m : Mp) (w : World) (nm : Nat) (e : E) (r ys : List e.den) : Prop :=
 ∃ ty, GvRel kn m w nm e.size ty ((r ++ ys).map e.row) ∧ 0 < e.size ∧ r.length + ys.length ≤ 2 ^ 62 ∧ ∀ loc, m nm = some loc → loc.nil = false → r ++ ys ≠ [] ∧ ∀ o', loc.off + r.length * e.size ≤ o' → kn loc.blk o' = none
def ObjRel (P : Program) (B : Base) (kn : Kn) (m : Mp) (w : World) (nm : Nat) : AObj → Prop
 | .none => True
 | .cells T cs => match m nm with
  | none => zeroCells P T = some cs
  | some loc => loc.nil = false ∧ loc.off = 0 ∧ ∃ arr, w.heap[loc.blk]? = some (.cells arr T (0, 0)) ∧ RelC kn m cs arr.toList
 | .gvec esz ety rows => GvRel kn m w nm esz ety rows
 | .tg e ety l => GvRel kn m w nm e.size ety (l.map e.row)
 | .siter l pos => ∃ loc, m nm = some loc ∧ (w.heap[loc.blk]? = some (.stringIter ⟨l.toArray⟩ pos) ∧ loc.off = 0 ∧ loc.nil = false)
 | .stk e ety l k => StkRel B kn m w nm e ety l k
 | .hand e _ _ r ys => HandRel kn m w nm e r ys
structure Cx where
 P : Program
 gl : Nat → AV
 rf : ∀ g, RF (gl g)
 tb : Nat → Option (Array Value)
def live : AObj → Prop
 | .none => False
 | _ => True
structure Inv (C : Cx) (B : Base) (kn : Kn) (m : Mp) (σ : Sto) (nx : Nat) (w : World) : Prop where
 knok : ∀ b o v, kn b o = some v → w.cell? ⟨b, o, none⟩ = some v
 size : B.w.heap.size ≤ w.heap.size
 os : w.os = B.w.os
 tape : w.tape = B.w.tape
 output : w.output = B.w.output
 old : ∀ b, b < B.w.heap.size → ¬ B.own b → w.heap[b]? = B.w.heap[b]? ∧ kn b = B.kn b
 obj : ∀ (p nm : Nat) (ob : AObj), σ[p]? = some (nm, ob) → ObjRel C.P B kn m w nm ob
 own : ∀ (p nm : Nat) (ob : AObj) (loc : Loc), σ[p]? = some (nm, ob) → live ob → m nm = some loc → loc.nil = false → loc.blk < w.heap.size ∧ (B.w.heap.size ≤ loc.blk ∨ B.own loc.blk) ∧ (isHand ob = false → ∀ o, kn loc.blk o = none)
 dist : ∀ (p nm : Nat) (ob : AObj) (loc : Loc) (p' nm' : Nat) (ob' : AObj) (loc' : Loc), σ[p]? = some (nm, ob) → σ[p']? = some (nm', ob') → live ob → live ob' → m nm = some loc → m nm' = some loc' → loc.nil = false → loc'.nil = false → p ≠ p' → loc.blk ≠ loc'.blk
 dom : ∀ n, nx ≤ n → m n = none
 lt : ∀ (p nm : Nat) (ob : AObj), σ[p]? = some (nm, ob) → nm < nx
 uniq : ∀ (p p' nm : Nat) (ob ob' : AObj), σ[p]? = some (nm, ob) → σ[p']? = some (nm, ob') → p = p'
 stk1 : ∀ (p p' nm nm' : Nat) (ob ob' : AObj), σ[p]? = some (nm, ob) → σ[p']? = some (nm', ob') → isStk ob = true → isStk ob' = true → p = p'
 glob : ∀ g, Rel kn m (C.gl g) (.pointer (some ⟨g, 0, none⟩))
 tab : ∀ g a, C.tb g = some a → g < B.w.heap.size ∧ ¬ B.own g ∧ ∃ T z, B.w.heap[g]? = some (.cells a T z)
def TabW (C : Cx) (w : World) : Prop := ∀ g a, C.tb g = some a → ∃ T z, w.heap[g]? = some (.cells a T z)
theorem Inv.tabW {C : Cx} {B : Base} {kn : Kn} {m : Mp} {σ : Sto} {nx : Nat} {w : World} (h : Inv C B kn m σ nx w) : TabW C w := fun g a e => by
 obtain ⟨h1, h2, T, z, h3⟩ := h.tab g a e
 exact ⟨T, z, (h.old g h1 h2).1.trans h3⟩
theorem TabW.base {C : Cx} {w : World} (h : TabW C w) (own : Nat → Prop) (ho : ∀ g a, C.tb g = some a → ¬ own g) : ∀ g a, C.tb g = some a → g < w.heap.size ∧ ¬ own g ∧ ∃ T z, w.heap[g]? = some (.cells a T z) := fun g a e => by
 obtain ⟨T, z, hw⟩ := h g a e
 exact ⟨(Array.getElem?_eq_some_iff.1 hw).1, ho g a e, T, z, hw⟩
theorem Inv.kn_lt {C : Cx} {B : Base} {kn : Kn} {m : Mp} {σ : Sto} {nx : Nat} {w : World} (h : Inv C B kn m σ nx w) {b o : Nat} {v : Value} (hk : kn b o = some v) : b < w.heap.size :=
 World.block_lt_of_cell? w ⟨b, o, none⟩ (h.knok b o v hk)
theorem GvRel.get {kn : Kn} {m : Mp} {w : World} {nm esz : Nat} {ety : TypeId} {rows : List (List AV)} (h : GvRel kn m w nm esz ety rows) {loc : Loc} (hm : m nm = some loc) (hn : loc.nil = false) :
  loc.len = rows.length ∧ loc.esz = esz ∧ ∃ arr, w.heap[loc.blk]? = some (.cells arr ety (0, 0)) ∧ loc.off + loc.cap * esz ≤ arr.size ∧ rows.length ≤ loc.cap ∧ loc.cap ≤ maxLen ∧
   (∀ v ∈ arr.toList, v.oneCell' = true) ∧ (∀ (i : Nat) (row : List AV), rows[i]? = some row → row.length = esz) ∧ ∀ (i : Nat) (row : List AV) (j : Nat) (x : AV) (v : Value), rows[i]? = some row → row[j]? = some x → arr[loc.off + i * esz + j]? = some v → Rel kn m x v := by
 obtain ⟨loc', hm', hl, h⟩ := h
 rw [hm] at hm'; cases hm'
 rcases h with ⟨h, _⟩ | ⟨_, h⟩
 ·rw [hn] at h; cases h
 ·exact ⟨hl, h⟩
theorem GvRel.nilRows {kn : Kn} {m : Mp} {w : World} {nm esz : Nat} {ety : TypeId} {rows : List (List AV)} (h : GvRel kn m w nm esz ety rows) {loc : Loc} (hm : m nm = some loc) (hn : loc.nil = true) : rows = [] := by
 obtain ⟨loc', hm', hl, h⟩ := h
 rw [hm] at hm'; cases hm'
 rcases h with ⟨_, h⟩ | ⟨h, _⟩
 ·exact h
 ·rw [hn] at h; cases h
theorem GvRel.mono {kn kn' : Kn} {m : Mp} {w w' : World} {nm esz ety : Nat} {rows : List (List AV)} (h : GvRel kn m w nm esz ety rows) (hk : KnLe kn kn')
  (hw : ∀ loc, m nm = some loc → loc.nil = false → w'.heap[loc.blk]? = w.heap[loc.blk]?) : GvRel kn' m w' nm esz ety rows := by
 obtain ⟨loc, hn, hl, h⟩ := h
 refine ⟨loc, hn, hl, ?_⟩
 rcases h with h | ⟨hnl, he, arr, h1, h2, h3, h4, h4', h5, h6⟩
 ·exact .inl h
 ·exact .inr ⟨hnl, he, arr, (hw loc hn hnl).trans h1, h2, h3, h4, h4', h5, fun i row j x v a b c => (h6 i row j x v a b c).mono hk (MpLe.refl m)⟩
theorem RowV.known {B : Base} {kn : Kn} {w : World} {e : E} {l : List e.den} {v : Value} (h : RowV B kn w e l v) {b : Nat} (hb : bkOf v = some b) : (∃ o u, kn b o = some u) ∧ Ow B b := by
 rcases h with ⟨_, rfl⟩ | ⟨hl, hs, b', o, cap, arr, ty, rfl, h2, h3, h4, h5, h5', h6, h7, h8, h9⟩
 ·cases hb
 ·cases hb
  have h1 : e.size ≤ cap * e.size := by
   have : 1 * e.size ≤ cap * e.size := Nat.mul_le_mul_right _ (by cases l with | nil => exact absurd rfl hl | cons _ _ => simp at h4; omega)
   omega
  have hlt : o < arr.size := by omega
  cases l with
  | nil => exact absurd rfl hl
  | cons a l =>
   have hrl : (e.row a).length = e.size := by
    have hh : ∀ (e : E) (x : e.den), (e.row x).length = e.size := fun e => by
     induction e with
     | form => intro x; cases x; rfl
     | pr a b iha ihb => intro x; obtain ⟨x, y⟩ := x; show (a.row x ++ b.row y).length = _; rw [List.length_append, iha, ihb]; rfl
     | _ => intro x; rfl
    exact hh e a
   have := h7 0 (e.row a) 0 ((e.row a)[0]'(by omega)) (arr[o]'hlt) (by simp) (List.getElem?_eq_getElem (by omega)) (by simp [hlt])
   exact ⟨⟨_, _, this.2⟩, h9⟩
theorem RowV.mono {B : Base} {kn kn' : Kn} {w w' : World} {e : E} {l : List e.den} {v : Value} (h : RowV B kn w e l v) (hk : KnLe kn kn') (hr : ∀ b, bkOf v = some b → (∃ o u, kn b o = some u) → w'.heap[b]? = w.heap[b]? ∧ kn' b = kn b) : RowV B kn' w' e l v := by
 have hkn := fun b => h.known (b := b)
 rcases h with h | ⟨hl, hs, b, o, cap, arr, ty, rfl, h2, h3, h4, h5, h5', h6, h7, h8, h9⟩
 ·exact .inl h
 ·obtain ⟨q1, q2⟩ := hr b rfl (hkn b rfl).1
  exact .inr ⟨hl, hs, b, o, cap, arr, ty, rfl, q1.trans h2, h3, h4, h5, h5', h6, fun i row j x u a b c => ⟨fun m => ((h7 i row j x u a b c).1 m).mono hk (MpLe.refl m), hk _ _ _ (h7 i row j x u a b c).2⟩, fun o' ho => by rw [q2]; exact h8 o' ho, h9⟩
theorem ObjRel.mono {P : Program} {B : Base} {kn kn' : Kn} {m : Mp} {w w' : World} {nm : Nat} {ob : AObj} (h : ObjRel P B kn m w nm ob) (hk : KnLe kn kn')
  (hw : ∀ loc, live ob → m nm = some loc → loc.nil = false → w'.heap[loc.blk]? = w.heap[loc.blk]?) (hr : ∀ b, (isStk ob = true ∧ ∃ o v, kn b o = some v) ∨ (isHand ob = true ∧ ∃ loc, m nm = some loc ∧ loc.nil = false ∧ loc.blk = b) → w'.heap[b]? = w.heap[b]? ∧ kn' b = kn b) : ObjRel P B kn' m w' nm ob := by
 cases ob with
 | none => trivial
 | cells T cs =>
  simp only [ObjRel] at h ⊢
  cases hn : m nm with
  | none => simpa [hn] using h
  | some loc =>
   simp only [hn] at h ⊢
   obtain ⟨hnl, h0, arr, h1, h2⟩ := h
   exact ⟨hnl, h0, arr, (hw loc trivial hn hnl).trans h1, h2.mono hk (MpLe.refl m)⟩
 | gvec esz ety rows => exact GvRel.mono h hk (fun loc a b => hw loc trivial a b)
 | tg e ety l => exact GvRel.mono h hk (fun loc a b => hw loc trivial a b)
 | siter l pos =>
  obtain ⟨loc, hn, h1⟩ := h
  exact ⟨loc, hn, (hw loc trivial hn h1.2.2).trans h1.1, h1.2⟩
 | stk e ety l k =>
  obtain ⟨rv, h1, h2, h3, h4, h5⟩ := h
  exact ⟨rv, GvRel.mono h1 hk (fun loc a b => hw loc trivial a b), h2, fun i r v q a b => (h3 i r v q a b).mono hk (fun b _ hq => hr b (.inl ⟨rfl, hq⟩)), h4, h5⟩
 | hand e ps pe r ys =>
  obtain ⟨ty, h1, h2, h3, h4⟩ := h
  exact ⟨ty, GvRel.mono h1 hk (fun loc a b => hw loc trivial a b), h2, h3, fun loc a b => ⟨(h4 loc a b).1, fun o' ho => by rw [(hr loc.blk (.inr ⟨rfl, loc, a, b, rfl⟩)).2]; exact (h4 loc a b).2 o' ho⟩⟩
theorem GvRel.mono_m {kn : Kn} {m m' : Mp} {w : World} {nm esz ety : Nat} {rows : List (List AV)} (h : GvRel kn m w nm esz ety rows) (he : m' nm = m nm) (hm : MpLe m m') : GvRel kn m' w nm esz ety rows := by
 obtain ⟨loc, hn, hl, h⟩ := h
 refine ⟨loc, he.trans hn, hl, ?_⟩
 rcases h with h | ⟨hnl, he, arr, h1, h2, h3, h4, h4', h5, h6⟩
 ·exact .inl h
 ·exact .inr ⟨hnl, he, arr, h1, h2, h3, h4, h4', h5, fun i row j x v a b c => (h6 i row j x v a b c).mono (KnLe.refl _) hm⟩
theorem lkOK.mono {m m' : Mp} {k : Lk} {rv : List Value} (h : lkOK m k rv) (hm : MpLe m m') : lkOK m' k rv := by
 cases k with
 | no => trivial
 | out i x q c => obtain ⟨loc, a, b⟩ := h; exact ⟨loc, hm _ _ a, b⟩
theorem ObjRel.mono_m {P : Program} {B : Base} {kn : Kn} {m m' : Mp} {w : World} {nm : Nat} {ob : AObj} (h : ObjRel P B kn m w nm ob) (he : m' nm = m nm) (hm : MpLe m m') : ObjRel P B kn m' w nm ob := by
 cases ob with
 | none => trivial
 | cells T cs =>
  simp only [ObjRel, he] at h ⊢
  cases hn : m nm with
  | none => simpa [hn] using h
  | some l =>
   simp only [hn] at h ⊢
   obtain ⟨a0, a, arr, b, c⟩ := h
   exact ⟨a0, a, arr, b, c.mono (KnLe.refl _) hm⟩
 | gvec esz ety rows => exact GvRel.mono_m h he hm
 | tg e ety l => exact GvRel.mono_m h he hm
 | siter l pos =>
  obtain ⟨l', a, b⟩ := h
  exact ⟨l', he.trans a, b⟩
 | stk e ety l k =>
  obtain ⟨rv, h1, h2, h3, h4, h5⟩ := h
  exact ⟨rv, GvRel.mono_m h1 he hm, h2, h3, h4, h5.mono hm⟩
 | hand e ps pe r ys =>
  obtain ⟨ty, h1, h2, h3, h4⟩ := h
  exact ⟨ty, GvRel.mono_m h1 he hm, h2, h3, fun loc a b => h4 loc (he.symm.trans a) b⟩
theorem Inv.grow {C : Cx} {B : Base} {kn kn' : Kn} {m : Mp} {σ : Sto} {nx : Nat} {w w' : World} (h : Inv C B kn m σ nx w)
  (hs : w.heap.size ≤ w'.heap.size) (ho : w'.os = w.os) (ht : w'.tape = w.tape) (hp : w'.output = w.output) (hb : ∀ b, b < w.heap.size → w'.heap[b]? = w.heap[b]?)
  (hk : ∀ b, b < w.heap.size → kn' b = kn b) (hn : ∀ b o v, w.heap.size ≤ b → kn' b o = some v → w'.cell? ⟨b, o, none⟩ = some v) : KnLe kn kn' ∧ Inv C B kn' m σ nx w' := by
 have hle : KnLe kn kn' := fun b o v e => by rw [hk b (h.kn_lt e)]; exact e
 refine ⟨hle, ⟨fun b o v e => ?_, Nat.le_trans h.size hs, ho.trans h.os, ht.trans h.tape, hp.trans h.output, fun b hbb hob => ?_, fun p nm ob e => ?_, fun p nm ob loc e l g gn => ?_, h.dist, h.dom, h.lt, h.uniq, h.stk1, fun g => (h.glob g).mono hle (MpLe.refl m), h.tab⟩⟩
 ·rcases Nat.lt_or_ge b w.heap.size with hlt | hge
  ·rw [hk b hlt] at e
   have := h.knok b o v e
   unfold World.cell? at this ⊢
   simp only [hb b hlt]
   exact this
  ·exact hn b o v hge e
 ·have := h.old b hbb hob
  have hlt : b < w.heap.size := Nat.lt_of_lt_of_le hbb h.size
  exact ⟨(hb b hlt).trans this.1, (hk b hlt).trans this.2⟩
 ·exact (h.obj p nm ob e).mono hle (fun loc l g gn => hb _ (h.own p nm ob loc e l g gn).1) (fun b hq => by
   have hlt : b < w.heap.size := by
    rcases hq with ⟨_, o, v, e⟩ | ⟨_, loc, a, c, rfl⟩
    ·exact h.kn_lt e
    ·exact (h.own p nm ob loc e (by cases ob <;> first | trivial | simp_all [isHand]) a c).1
   exact ⟨hb b hlt, hk b hlt⟩)
 ·obtain ⟨h1, h2, h3⟩ := h.own p nm ob loc e l g gn
  exact ⟨Nat.lt_of_lt_of_le h1 hs, h2, fun hnh o => by rw [hk _ h1]; exact h3 hnh o⟩
theorem Inv.conv {C : Cx} {B : Base} {kn : Kn} {m : Mp} {σ : Sto} {nx : Nat} {w : World} (h : Inv C B kn m σ nx w) {p nm : Nat} {ob ob' : AObj} (hp : σ[p]? = some (nm, ob)) (hl : live ob' → live ob) (ho : ObjRel C.P B kn m w nm ob') (hsk : isStk ob' = true → isStk ob = true := by intro h; first | rfl | cases h) (hnh : isHand ob = true → isHand ob' = true := by intro h; cases h) :
  Inv C B kn m (σ.set p (nm, ob')) nx w := by
 have get : ∀ (p' nm' : Nat) (o : AObj), (σ.set p (nm, ob'))[p']? = some (nm', o) → ∃ o', σ[p']? = some (nm', o') ∧ (live o → live o') ∧ (isStk o = true → isStk o' = true) ∧ (isHand o = false → isHand o' = false) ∧ (ObjRel C.P B kn m w nm' o' → ObjRel C.P B kn m w nm' o) := fun p' nm' o e => by
  rw [List.getElem?_set] at e
  split at e
  ·rename_i hpp
   subst hpp
   split at e
   ·cases e; exact ⟨ob, hp, hl, hsk, (fun h => by cases hx : isHand ob with | false => rfl | true => rw [hnh hx] at h; cases h), fun _ => ho⟩
   ·cases e
  ·exact ⟨o, e, id, id, id, id⟩
 refine ⟨h.knok, h.size, h.os, h.tape, h.output, h.old, fun p' nm' o e => ?_, fun p' nm' o loc e l g => ?_, fun p1 n1 o1 l1 p2 n2 o2 l2 e1 e2 v1 v2 => ?_, h.dom, fun p' nm' o e => ?_, fun p1 p2 n1 o1 o2 e1 e2 => ?_, fun p1 p2 n1 n2 o1 o2 e1 e2 s1 s2 => ?_, h.glob, h.tab⟩
 ·obtain ⟨o', a, b, _, _, c⟩ := get p' nm' o e; exact c (h.obj _ _ _ a)
 ·obtain ⟨o', a, b, _, c, _⟩ := get p' nm' o e
  exact fun hn => ⟨(h.own _ _ _ _ a (b l) g hn).1, (h.own _ _ _ _ a (b l) g hn).2.1, fun hh => (h.own _ _ _ _ a (b l) g hn).2.2 (c hh)⟩
 ·obtain ⟨o1', a1, b1, _⟩ := get p1 n1 o1 e1
  obtain ⟨o2', a2, b2, _⟩ := get p2 n2 o2 e2
  exact h.dist _ _ _ _ _ _ _ _ a1 a2 (b1 v1) (b2 v2)
 ·obtain ⟨o', a, b, c⟩ := get p' nm' o e; exact h.lt _ _ _ a
 ·obtain ⟨o1', a1, _⟩ := get p1 n1 o1 e1
  obtain ⟨o2', a2, _⟩ := get p2 n1 o2 e2
  exact h.uniq _ _ _ _ _ a1 a2
 ·obtain ⟨o1', a1, _, b1, _⟩ := get p1 n1 o1 e1
  obtain ⟨o2', a2, _, b2, _⟩ := get p2 n2 o2 e2
  exact h.stk1 _ _ _ _ _ _ a1 a2 (b1 s1) (b2 s2)
def knPut (kn : Kn) (b : Nat) (arr : Array Value) : Kn := fun b' o => if b' = b then arr[o]? else kn b' o
theorem knPut_same (kn : Kn) (b : Nat) (arr : Array Value) (o : Nat) : knPut kn b arr b o = arr[o]? := by simp [knPut]
theorem Inv.box {C : Cx} {B : Base} {kn : Kn} {m : Mp} {σ : Sto} {nx : Nat} {w : World} (h : Inv C B kn m σ nx w) (arr : Array Value) (T : TypeId) :
  KnLe kn (knPut kn w.heap.size arr) ∧ Inv C B (knPut kn w.heap.size arr) m σ nx (w.alloc (.cells arr T)) := by
 refine h.grow (by simp) rfl rfl rfl (fun b hb => Below.heap_alloc _ _ _ hb) (fun b hb => ?_) (fun b o v hb e => ?_)
 ·funext o; simp [knPut, Nat.ne_of_lt hb]
 ·unfold knPut at e
  split at e
  ·rename_i hbb; subst hbb; simp [e]
  ·exact absurd (h.kn_lt e) (by omega)
theorem Inv.drew {C : Cx} {B : Base} {kn : Kn} {m : Mp} {σ : Sto} {nx : Nat} {w : World} (h : Inv C B kn m σ nx w) : Inv C B kn m σ nx w.drew :=
 (h.grow (kn' := kn) (w' := w.drew) (Nat.le_refl _) rfl rfl rfl (fun _ _ => rfl) (fun _ _ => rfl) (fun b o v hb e => absurd (h.kn_lt e) (by omega))).2
theorem rel_tvec {kn : Kn} {m : Mp} {e : E} {l : List e.den} {v : Value} : Rel kn m (.tvec e l) v ↔ Rel kn m (.vec e.size (l.map e.row)) v := ⟨fun h => (by cases h; assumption), .tvec e l v⟩
theorem RelL.cons_iff {kn : Kn} {m : Mp} {c : AV} {cs : List AV} {vs : List Value} : RelL kn m (c :: cs) vs ↔ ∃ v us, vs = v :: us ∧ Rel kn m c v ∧ RelL kn m cs us :=
 ⟨fun h => h.uncons, fun ⟨v, us, e, h1, h2⟩ => e ▸ .cons h1 h2⟩
theorem RelL.append_iff {kn : Kn} {m : Mp} {cs ds : List AV} {vs : List Value} : RelL kn m (cs ++ ds) vs ↔ ∃ us ws, vs = us ++ ws ∧ RelL kn m cs us ∧ RelL kn m ds ws := by
 constructor
 ·intro h
  refine ⟨vs.take cs.length, vs.drop cs.length, (List.take_append_drop _ _).symm, ?_, ?_⟩
  ·have := h.take cs.length; simpa using this
  ·have := h.drop cs.length; simpa using this
 ·rintro ⟨us, ws, rfl, h1, h2⟩; exact h1.append h2
theorem RelL.last {kn : Kn} {m : Mp} {c c' : AV} {vs : List Value} (h : ∀ v, Rel kn m c v ↔ Rel kn m c' v) : RelL kn m [c] vs ↔ RelL kn m [c'] vs := by
 rw [RelL.cons_iff, RelL.cons_iff]; simp only [h]
theorem RelL.cons' {kn : Kn} {m : Mp} {c : AV} {cs ds : List AV} {vs : List Value} (h : ∀ us, RelL kn m cs us ↔ RelL kn m ds us) : RelL kn m (c :: cs) vs ↔ RelL kn m (c :: ds) vs := by
 rw [RelL.cons_iff, RelL.cons_iff]; simp only [h]
theorem E.rel_cells {kn : Kn} {m : Mp} : ∀ (e : E) (x : e.den) (vs : List Value), RelL kn m (e.cells x) vs ↔ RelL kn m (e.row x) vs
 | .int _, _, _ => Iff.rfl
 | .bool, _, _ => Iff.rfl
 | .str, _, _ => Iff.rfl
 | .erri, _, _ => Iff.rfl
 | .form, .mk k n t l, vs => by
  simp only [E.cells, E.row, Fm.row, Fm.k, Fm.n, Fm.t, Fm.l, Fm.rows_map]
  exact RelL.cons' fun _ => (RelL.cons' fun _ => (RelL.cons' fun _ => (RelL.last fun v => rel_tvec (e := .form) (l := l))))
 | .un, _, _ => Iff.rfl
 | .pr a b, (x, y), vs => by
  show RelL kn m (a.cells x ++ b.cells y) vs ↔ RelL kn m (a.row x ++ b.row y) vs
  rw [RelL.append_iff, RelL.append_iff]
  simp only [E.rel_cells a x, E.rel_cells b y]
 | .slice e, l, vs => by
  exact RelL.last fun v => rel_tvec (e := e) (l := l)
theorem rel_rptr_congr {kn : Kn} {m : Mp} {cs ds : List AV} {v : Value} (h : Rel kn m (.rptr cs) v) (hl : ds.length = cs.length) (hc : ∀ vs, RelL kn m cs vs → RelL kn m ds vs) : Rel kn m (.rptr ds) v := by
 cases h with
 | rptr _ b o vals hk hr h1 =>
  have hget : ∀ j, j < cs.length → ((List.range cs.length).map vals)[j]? = some (vals j) := fun j hj => by simp [hj]
  have hrl := hc ((List.range cs.length).map vals) ⟨by simp, fun i x v a b => by
   have hi := (List.getElem?_eq_some_iff.1 a).1
   rw [hget i hi] at b; cases b; exact hr i x a⟩
  have hlt : ∀ j x, ds[j]? = some x → ∃ y, cs[j]? = some y := fun j x e => by
   have hj := (List.getElem?_eq_some_iff.1 e).1
   exact ⟨cs[j]'(by omega), List.getElem?_eq_getElem (by omega)⟩
  refine .rptr ds b o vals (fun j x e => ?_) (fun j x e => ?_) (fun j x e => ?_)
  ·obtain ⟨y, hy⟩ := hlt j x e; exact hk j y hy
  ·exact hrl.2 j x _ e (hget j (by have := (List.getElem?_eq_some_iff.1 e).1; omega))
  ·obtain ⟨y, hy⟩ := hlt j x e; exact h1 j y hy
theorem Fm.row_len : ∀ f : Fm, f.row.length = 4
 | .mk _ _ _ _ => rfl
theorem E.row_len : ∀ (e : E) (x : e.den), (e.row x).length = e.size
 | .int _, _ => rfl
 | .bool, _ => rfl
 | .str, _ => rfl
 | .erri, _ => rfl
 | .form, f => Fm.row_len f
 | .un, _ => rfl
 | .pr a b, (x, y) => (by show (a.row x ++ b.row y).length = _; rw [List.length_append, E.row_len a x, E.row_len b y]; rfl)
 | .slice _, _ => rfl
theorem E.cells_len : ∀ (e : E) (x : e.den), (e.cells x).length = e.size
 | .int _, _ => rfl
 | .bool, _ => rfl
 | .str, _ => rfl
 | .erri, _ => rfl
 | .form, f => rfl
 | .un, _ => rfl
 | .pr a b, x => (by show (a.cells x.1 ++ b.cells x.2).length = _; rw [List.length_append, E.cells_len a x.1, E.cells_len b x.2]; rfl)
 | .slice _, _ => rfl
end Go.Ab

namespace Go.Ab
open Go Go.RowKit
def aggD : TypeDesc → Bool
 | .struct _ | .array _ _ => true
 | _ => false
def aggT (P : Program) (t : TypeId) : Option Bool := (P.underlying t).map aggD
def szT (P : Program) (t : TypeId) : Option Nat := (P.info? t).map (·.size)
def fldT (P : Program) (s f : Nat) : Option (Nat × Nat × Bool) :=
 match P.underlying s with
 | some (.struct fs) => match fs[f]? with
  | some x => match szT P x.type, aggT P x.type with
   | some n, some a => some (x.offset, n, a)
   | _, _ => none
  | none => none
 | _ => none
def elmT (P : Program) (t : TypeId) : Option (Nat × Nat × Nat) :=
 match P.underlying t with
 | some (.slice e) => match P.info? e with
  | some i => some (e, i.size, i.bytes)
  | none => none
 | _ => none
def arrT (P : Program) (t : TypeId) : Option (Nat × Nat × Nat) :=
 match P.underlying t with
 | some (.array n e) => match szT P e with
  | some s => some (n, e, s)
  | none => none
 | _ => none
def strT (P : Program) (t : TypeId) : Bool := match P.underlying t with | some .string => true | _ => false
def intT (P : Program) (t : TypeId) : Option IntKind := match P.underlying t with | some (.int k) => some k | _ => none
def slcT (P : Program) (t : TypeId) : Bool := match P.underlying t with | some (.slice _) => true | _ => false
def conT (P : Program) (t : TypeId) : Bool := match P.underlying t with | some (.interface _) => false | none => false | _ => true
def undT (P : Program) (t : TypeId) : Bool := (P.underlying t).isSome
def bldT (P : Program) (t : TypeId) : Option (List (Nat × Nat)) :=
 match P.underlying t with
 | some (.struct fs) => fs.toList.mapM fun x => (szT P x.type).map fun n => (x.offset, n)
 | some (.array n e) => (szT P e).map fun s => (List.range n).map fun i => (i * s, s)
 | _ => none
def opv (C : Cx) (env : Nat → AV) : Operand → AV
 | .tmp t => env t
 | .const v => ofVal v
 | .global g => C.gl g
 | .func f => .fn (.func f) [] []
structure RelEnv (kn : Kn) (m : Mp) (env : Nat → AV) (n : Nat) (act : Act) : Prop where
 size : act.tmps.size = n
 tmp : ∀ t, Rel kn m (env t) (act.tmps.getD t undef)
theorem RelEnv.mono {kn kn' : Kn} {m m' : Mp} {env : Nat → AV} {n : Nat} {act : Act} (h : RelEnv kn m env n act) (hk : KnLe kn kn') (hm : MpLe m m') : RelEnv kn' m' env n act :=
 ⟨h.size, fun t => (h.tmp t).mono hk hm⟩
def upd (env : Nat → AV) (d : Nat) (v : AV) : Nat → AV := fun t => if t = d then v else env t
def updo (env : Nat → AV) : Option Nat → AV → Nat → AV
 | some d, v => upd env d v
 | none, _ => env
theorem RelEnv.put {kn : Kn} {m : Mp} {env : Nat → AV} {n : Nat} {act : Act} (h : RelEnv kn m env n act) (dst : Option Tmp) (hd : ∀ d, dst = some d → d < n) {x : AV} {v : Value} (hv : Rel kn m x v) :
  RelEnv kn m (updo env dst x) n (act.put dst v) := by
 cases dst with
 | none => exact h
 | some d =>
  have hdn : @LT.lt Nat _ d n := hd d rfl
  refine ⟨by simp [Act.put, h.size], fun t => ?_⟩
  simp only [updo, upd, Act.put]
  by_cases e : t = d
  ·subst e
   have : t < act.tmps.size := by rw [h.size]; exact hdn
   simp [this]; exact hv
  ·rw [if_neg e]
   have := h.tmp t
   simpa [Array.getElem?_setIfInBounds_ne (Ne.symm e)] using this
theorem rel_opv {C : Cx} {B : Base} {kn : Kn} {m : Mp} {σ : Sto} {nx : Nat} {w : World} {env : Nat → AV} {n : Nat} {act : Act} (hI : Inv C B kn m σ nx w) (h : RelEnv kn m env n act) (x : Operand) : Rel kn m (opv C env x) (act.eval x) := by
 cases x with
 | tmp t => exact h.tmp t
 | const v => exact ofVal_rel kn m v
 | global g => exact hI.glob g
 | func f => exact .fn _ [] [] #[] #[] rfl rfl (fun i x v a => by simp at a) (fun i x v a => by simp at a)
def sget (σ : Sto) (pos nm : Nat) : Option AObj :=
 match σ[pos]? with
 | some (n, o) => if n = nm then some o else none
 | none => none
theorem sget_some {σ : Sto} {pos nm : Nat} {o : AObj} (h : sget σ pos nm = some o) : σ[pos]? = some (nm, o) := by
 unfold sget at h
 split at h
 ·rename_i n o' e
  split at h
  ·rename_i hn; subst hn; cases h; exact e
  ·cases h
 ·cases h
def loadC (P : Program) (T : TypeId) (cs : List AV) : Option AV :=
 match aggT P T, szT P T with
 | some true, some n => if n ≤ cs.length then some (.agg (cs.take n)) else none
 | some false, _ => cs.head?
 | _, _ => none
def readA (P : Program) (T : TypeId) (σ : Sto) : AV → Option AV
 | .rptr cs => loadC P T cs
 | .ref p n off => match sget σ p n with
  | some (.cells _ cs) => loadC P T (cs.drop off)
  | _ => none
 | .eref p n i off => match sget σ p n with
  | some (.gvec _ _ rows) => match rows[i]? with
   | some row => loadC P T (row.drop off)
   | none => none
  | some (.tg e _ l) => if i < l.length then loadC P T ((e.cells (l.getD i e.dflt)).drop off) else none
  | some (.stk e _ l .no) => if i < l.length then loadC P T ([AV.tvec e (l.getD i [])].drop off) else none
  | _ => none
 | _ => none
theorem add_mk (b o n : Nat) : (⟨b, o, none⟩ : Addr).add n = ⟨b, o + n, none⟩ := Addr.add_lit b o n
theorem run_loadC {P : Program} {T : TypeId} {kn : Kn} {m : Mp} {cs : List AV} {x : AV} (h : loadC P T cs = some x) (w : World) (b o : Nat)
  (hc : ∀ (j : Nat) (y : AV), cs[j]? = some y → ∃ v, w.cell? ⟨b, o + j, none⟩ = some v ∧ Rel kn m y v ∧ v.oneCell' = true) :
  ∃ v, (loadVar T ⟨b, o, none⟩).run P w = .ok v w ∧ Rel kn m x v := by
 unfold loadC aggT szT at h
 cases hu : P.underlying T with
 | none => simp [hu] at h
 | some d =>
  have hagg : (isAgg T).run P w = .ok (aggD d) w := by
   unfold isAgg
   rw [Sem.run_bind, run_underlying hu w]
   cases d <;> rfl
  simp only [hu, Option.map_some] at h
  cases ha : aggD d with
  | true =>
   simp only [ha] at h hagg
   cases hi : P.info? T with
   | none => simp [hi] at h
   | some i =>
    simp only [hi, Option.map_some] at h
    split at h
    ·rename_i hle
     cases h
     have hcs : ∃ vs : List Value, vs.length = i.size ∧ ∀ j v, vs[j]? = some v → w.cell? ⟨b, o + j, none⟩ = some v ∧ (∀ y, (cs.take i.size)[j]? = some y → Rel kn m y v) ∧ v.oneCell' = true := by
      refine ⟨(List.range i.size).map fun j => (w.cell? ⟨b, o + j, none⟩).getD undef, by simp, fun j v hj => ?_⟩
      rw [List.getElem?_map] at hj
      cases hr : (List.range i.size)[j]? with
      | none => simp [hr] at hj
      | some j' =>
       have hjl : j < i.size := by
        have := List.getElem?_eq_some_iff.1 hr
        obtain ⟨hl, _⟩ := this
        simpa using hl
       have hjj : j' = j := by
        rw [List.getElem?_range hjl] at hr; cases hr; rfl
       subst hjj
       simp only [hr, Option.map_some, Option.some.injEq] at hj
       have hlt : j' < cs.length := by omega
       obtain ⟨v', hv', hr', ho'⟩ := hc j' cs[j'] (List.getElem?_eq_getElem hlt)
       rw [hv'] at hj
       simp at hj
       subst hj
       refine ⟨hv', fun y hy => ?_, ho'⟩
       rw [List.getElem?_take, if_pos hjl, List.getElem?_eq_getElem hlt] at hy
       cases hy
       exact hr'
     obtain ⟨vs, hvl, hvs⟩ := hcs
     have hl := run_loadCells_list (P := P) w ⟨b, o, none⟩ vs (fun j v hj => by rw [add_mk]; exact (hvs j v hj).1)
     refine ⟨.agg vs.toArray, ?_, .agg _ _ (by simp [hvl, hle]) (fun j y v hy hv => ?_) (fun j v hv => (hvs j v (by simpa using hv)).2.2)⟩
     ·rw [hvl] at hl
      simp [loadVar, hagg, sizeOf, typeInfo, hi, hl]
     ·have hv' : vs[j]? = some v := by simpa using hv
      exact (hvs j v hv').2.1 y hy
    ·cases h
  | false =>
   simp only [ha] at h hagg
   have hh : cs[0]? = some x := by cases cs <;> simp_all
   obtain ⟨v, hv, hr, _⟩ := hc 0 x hh
   refine ⟨v, ?_, hr⟩
   simp [loadVar, hagg]
   simp only [Nat.add_zero] at hv
   simp [hv]
theorem GvRel.row {kn : Kn} {m : Mp} {w : World} {nm esz : Nat} {ety : TypeId} {rows : List (List AV)} (h : GvRel kn m w nm esz ety rows) {loc : Loc} (hm : m nm = some loc) {i : Nat} {row : List AV} (hrow : rows[i]? = some row) :
  ∃ (b o : Nat) (vs : List Value), vs.length = esz ∧ RelL kn m row vs ∧ row.length = esz ∧ (∀ (cs : List AV), RelL kn m cs vs → ∀ (off j : Nat) (y : AV), (cs.drop off)[j]? = some y → ∃ v, w.cell? ⟨loc.blk, loc.off + i * loc.esz + off + j, none⟩ = some v ∧ Rel kn m y v ∧ v.oneCell' = true) ∧ ∀ v ∈ vs, v.oneCell' = true := by
 obtain ⟨loc', hm', hll, h⟩ := h
 rw [hm] at hm'; cases hm'
 rcases h with ⟨-, rfl⟩ | ⟨hnl, he, arr, hw, hsz, hle, hmx, hone, hrl, hrr⟩
 ·simp at hrow
 subst he
 have hir : i < rows.length := (List.getElem?_eq_some_iff.1 hrow).1
 have hin : ∀ k, k < loc.esz → loc.off + i * loc.esz + k < arr.size := fun k hk => by
  have : i * loc.esz + loc.esz ≤ loc.cap * loc.esz := by
   rw [← Nat.succ_mul]; exact Nat.mul_le_mul_right _ (by omega)
  omega
 have hget : ∀ k, k < loc.esz → ((List.range loc.esz).map fun k => arr.getD (loc.off + i * loc.esz + k) undef)[k]? = some (arr.getD (loc.off + i * loc.esz + k) undef) := fun k hk => by simp [hk]
 have hgetD : ∀ k (hk : k < loc.esz), arr.getD (loc.off + i * loc.esz + k) undef = arr[loc.off + i * loc.esz + k]'(hin k hk) := fun k hk => by simp [Array.getD, hin k hk]
 have hrowl := hrl i row hrow
 refine ⟨0, 0, (List.range loc.esz).map fun k => arr.getD (loc.off + i * loc.esz + k) undef, by simp, ⟨by simp [hrowl], fun k x v a b => ?_⟩, hrowl, fun cs hcs off j y hy => ?_, fun v hv => ?_⟩
 ·have hk : k < loc.esz := by rw [← hrowl]; exact (List.getElem?_eq_some_iff.1 a).1
  rw [hget k hk] at b; cases b
  rw [hgetD k hk]
  exact hrr i row k x _ hrow a (by simp [hin k hk])
 ·rw [List.getElem?_drop] at hy
  have hk : off + j < loc.esz := by have := (List.getElem?_eq_some_iff.1 hy).1; have h2 := hcs.1; simp at h2; omega
  refine ⟨_, ?_, hcs.2 _ y _ hy (hget _ hk), ?_⟩
  ·rw [hgetD _ hk]; simp only [World.cell?, hw]; rw [Nat.add_assoc (loc.off + i * loc.esz)]; simp [hin _ hk]
  ·rw [hgetD _ hk]; exact hone _ (by simp)
 ·simp only [List.mem_map, List.mem_range] at hv
  obtain ⟨k, hk, rfl⟩ := hv
  rw [hgetD k hk]; exact hone _ (by simp)
theorem RowV.rel {B : Base} {kn : Kn} {w : World} {e : E} {l : List e.den} {v : Value} (h : RowV B kn w e l v) (m : Mp) : Rel kn m (.tvec e l) v := by
 rcases h with ⟨rfl, rfl⟩ | ⟨hl, hs, b, o, cap, arr, ty, rfl, h2, h3, h4, h5, h5', h6, h7, h8, h9⟩
 ·exact .tvec _ _ _ (.vecNone _)
 ·refine .tvec _ _ _ ?_
  have hin : ∀ (i : Nat) (row : List AV) (j : Nat) (x : AV), (l.map e.row)[i]? = some row → row[j]? = some x → o + i * e.size + j < arr.size := fun i row j x a c => by
   have hi : i < l.length := by have := (List.getElem?_eq_some_iff.1 a).1; simpa using this
   have hj : j < e.size := by
    rw [List.getElem?_map] at a
    cases hx : l[i]? with
    | none => simp [hx] at a
    | some y => simp [hx] at a; subst a; have := (List.getElem?_eq_some_iff.1 c).1; rwa [E.row_len] at this
   have : (i + 1) * e.size ≤ cap * e.size := Nat.mul_le_mul_right _ (by omega)
   rw [Nat.succ_mul] at this
   omega
  have := Rel.vec (kn := kn) (m := m) e.size (l.map e.row) b o cap (fun i j => arr.getD (o + i * e.size + j) undef) (by simpa using h4) (by simpa using h5') (fun i row a => by
    rw [List.getElem?_map] at a
    cases hx : l[i]? with
    | none => simp [hx] at a
    | some y => simp [hx] at a; subst a; exact E.row_len _ _)
   (fun i row j x a c => by have hlt := hin i row j x a c; have := (h7 i row j x arr[o + i * e.size + j] a c (by simp [hlt])).2; simpa [hlt] using this)
   (fun i row j x a c => by have hlt := hin i row j x a c; have := (h7 i row j x arr[o + i * e.size + j] a c (by simp [hlt])).1 m; simpa [hlt] using this)
   (fun i row j x a c => by have hlt := hin i row j x a c; have := h6 arr[o + i * e.size + j] (by simp); simpa [hlt] using this)
  simpa using this
theorem run_readA {C : Cx} {B : Base} {kn : Kn} {m : Mp} {σ : Sto} {nx : Nat} {w : World} (hI : Inv C B kn m σ nx w) {T : TypeId} {a x : AV} {v : Value} (h : readA C.P T σ a = some x) (ha : Rel kn m a v) :
  ∃ u, (Instr.loadAt T v).run C.P w = .ok u w ∧ Rel kn m x u := by
 cases ha with
 | rptr cs b o vals hk hr ho =>
  simp only [readA] at h
  obtain ⟨u, h1, h2⟩ := run_loadC (kn := kn) (m := m) h w b o (fun j y hy => ⟨vals j, hI.knok _ _ _ (hk j y hy), hr j y hy, ho j y hy⟩)
  exact ⟨u, by simp [Instr.loadAt, Instr.sureAddr, h1], h2⟩
 | ref p n off loc hm =>
  simp only [readA] at h
  cases hs : sget σ p n with
  | none => simp [hs] at h
  | some ob =>
   cases ob with
   | cells T' cs =>
    simp only [hs] at h
    have hob := hI.obj _ _ _ (sget_some hs)
    simp only [ObjRel, hm] at hob
    obtain ⟨-, h0, arr, hw, hrl⟩ := hob
    obtain ⟨u, h1, h2⟩ := run_loadC (kn := kn) (m := m) h w loc.blk (loc.off + off) (fun j y hy => by
     rw [List.getElem?_drop] at hy
     have hlt : off + j < cs.length := (List.getElem?_eq_some_iff.1 hy).1
     have hlt' : off + j < arr.toList.length := by rw [← hrl.1.1]; exact hlt
     refine ⟨arr.toList[off + j], ?_, hrl.1.2 _ _ _ hy (List.getElem?_eq_getElem hlt'), hrl.2 _ (List.getElem_mem hlt')⟩
     have hlt'' : off + j < arr.size := by simpa using hlt'
     simp [World.cell?, hw, h0, hlt''])
    exact ⟨u, by simp [Instr.loadAt, Instr.sureAddr, h1], h2⟩
   | _ => simp [hs] at h
 | eref p n i off loc hm =>
  simp only [readA] at h
  cases hs : sget σ p n with
  | none => simp [hs] at h
  | some ob =>
   cases ob with
   | gvec esz ety rows =>
    simp only [hs] at h
    cases hrow : rows[i]? with
    | none => simp [hrow] at h
    | some row =>
     simp only [hrow] at h
     have hob := hI.obj _ _ _ (sget_some hs)
     obtain ⟨b, o, vs, hv, hvs, hlen, hcell, hone⟩ := hob.row hm hrow
     obtain ⟨u, h1, h2⟩ := run_loadC (kn := kn) (m := m) h w loc.blk (loc.off + i * loc.esz + off) (fun j y hy => hcell _ hvs off j y hy)
     exact ⟨u, by simp [Instr.loadAt, Instr.sureAddr, h1], h2⟩
   | tg e ety l =>
    simp only [hs] at h
    split at h
    ·rename_i hil
     have hob := hI.obj _ _ _ (sget_some hs)
     obtain ⟨b, o, vs, hv, hvs, hlen, hcell, hone⟩ := GvRel.row hob hm (i := i) (row := e.row (l.getD i e.dflt)) (by simp [hil])
     obtain ⟨u, h1, h2⟩ := run_loadC (kn := kn) (m := m) h w loc.blk (loc.off + i * loc.esz + off) (fun j y hy => hcell _ ((E.rel_cells e _ vs).2 hvs) off j y hy)
     exact ⟨u, by simp [Instr.loadAt, Instr.sureAddr, h1], h2⟩
    ·cases h
   | stk e ety l k =>
    cases k with
    | no =>
     simp only [hs] at h
     split at h
     ·rename_i hil
      have hob := hI.obj _ _ _ (sget_some hs)
      obtain ⟨rv, hgv, hlen, hrows, _, _⟩ := hob
      have hrl : i < rv.length := by rw [hlen]; exact hil
      obtain ⟨b, o, vs, hv, hvs, hlen', hcell, hone⟩ := GvRel.row hgv hm (i := i) (row := [AV.base (rv[i]'hrl)]) (by simp [stkRows, hrl])
      have hrv := hrows i (l.getD i []) (rv[i]'hrl) rfl (by simp [hil]) (List.getElem?_eq_getElem hrl)
      have hcs : RelL kn m [AV.tvec e (l.getD i [])] vs := by
       obtain ⟨v', vs', rfl, h1, h2⟩ := hvs.uncons
       have : vs' = [] := List.eq_nil_of_length_eq_zero (by have := h2.1; simpa using this.symm)
       subst this
       cases h1
       exact .cons (hrv.rel m) (.nil _ _)
      obtain ⟨u, h1, h2⟩ := run_loadC (kn := kn) (m := m) h w loc.blk (loc.off + i * loc.esz + off) (fun j y hy => hcell _ hcs off j y hy)
      exact ⟨u, by simp [Instr.loadAt, Instr.sureAddr, h1], h2⟩
     ·cases h
    | _ => simp [hs] at h
   | _ => simp [hs] at h
 | _ => simp [readA] at h
end Go.Ab

namespace Go.Ab
open Go Go.RowKit
def cellsA : AV → Option (List AV)
 | .any => none
 | .tup _ => none
 | .agg cs => some cs
 | .base (.agg vs) => if vs.toList.all (·.oneCell') = true then some (vs.toList.map ofVal) else none
 | .base v => if v.oneCell' = true then some [.base v] else none
 | x => some [x]
def oneA : AV → Bool
 | .any => false
 | .tup _ => false
 | .agg _ => false
 | .base v => v.oneCell'
 | _ => true
theorem Rel.one {kn : Kn} {m : Mp} {x : AV} {v : Value} (h : Rel kn m x v) (ho : oneA x = true) : v.oneCell' = true := by
 have hv : ∀ esz rows, Rel kn m (.vec esz rows) v → v.oneCell' = true := fun esz rows h => by cases h <;> rfl
 have hs : ∀ p n e o l, Rel kn m (.sref p n e o l) v → v.oneCell' = true := fun p n e o l h => by cases h <;> rfl
 cases h with
 | tvec e l _ h => exact hv _ _ h
 | gs p n e len _ loc h1 h2 h => exact hs _ _ _ _ _ h
 | gvS p n e o len _ h => exact hs _ _ _ _ _ h
 | _ => simp_all [oneA, Value.oneCell']
theorem cells_one {v : Value} (h : v.oneCell' = true) : v.cells = #[v] := by cases v <;> simp_all [Value.oneCell', Value.cells]
theorem Rel.cells {kn : Kn} {m : Mp} {x : AV} {v : Value} {cs : List AV} (h : Rel kn m x v) (hc : cellsA x = some cs) : RelC kn m cs v.cells.toList := by
 have single : oneA x = true → cs = [x] → RelC kn m cs v.cells.toList := fun ho e => by
  subst e
  rw [cells_one (h.one ho)]
  exact ⟨.cons h (.nil _ _), fun u hu => by simp at hu; subst hu; exact h.one ho⟩
 cases h with
 | any v => simp [cellsA] at hc
 | tup => simp [cellsA] at hc
 | agg cs' vs hl h h1 =>
  simp only [cellsA, Option.some.injEq] at hc
  subst hc
  refine ⟨⟨by simpa [Value.cells] using hl, fun i x v a b => h i x v a (by simpa [Value.cells] using b)⟩, fun u hu => ?_⟩
  obtain ⟨i, hi⟩ := List.mem_iff_getElem?.1 hu
  exact h1 i u (by simpa [Value.cells] using hi)
 | base v =>
  have base : (if v.oneCell' = true then some [AV.base v] else none) = some cs → RelC kn m cs v.cells.toList := fun hc => by
   split at hc
   ·rename_i ho; cases hc; exact single ho rfl
   ·cases hc
  cases v with
  | agg vs =>
   simp only [cellsA] at hc
   split at hc
   ·rename_i ho
    cases hc
    refine ⟨⟨by simp [Value.cells], fun i x u a b => ?_⟩, fun u hu => List.all_eq_true.1 ho u (by simpa [Value.cells] using hu)⟩
    simp only [Value.cells] at b
    rw [List.getElem?_map, b] at a
    cases a
    exact ofVal_rel kn m u
   ·cases hc
  | _ => exact base hc
 | _ => simp only [cellsA, Option.some.injEq] at hc; exact single rfl hc.symm
def fillA (place : Nat → Option (Nat × Nat)) (cells : List AV) : List (Nat × AV) → Option (List AV)
 | [] => some cells
 | (i, x) :: rest => match place i, cellsA x with
  | some (off, size), some cs => if cs.length = size ∧ off + cs.length ≤ cells.length then fillA place (cells.take off ++ (cs ++ cells.drop (off + cs.length))) rest else none
  | _, _ => none
theorem put_cells (cells new : List Value) (off : Nat) (h : off + new.length ≤ cells.length) :
  (new.toArray.zipIdx.foldl (fun cs (p : Value × Nat) => cs.setIfInBounds (off + p.2) p.1) cells.toArray).toList = cells.take off ++ (new ++ cells.drop (off + new.length)) := by
 have key : ∀ (new : List Value) (k : Nat) (cells : List Value), off + k + new.length ≤ cells.length →
   ((new.zipIdx k).foldl (fun (cs : Array Value) (p : Value × Nat) => cs.setIfInBounds (off + p.2) p.1) cells.toArray).toList = cells.take (off + k) ++ (new ++ cells.drop (off + k + new.length)) := by
  intro new
  induction new with
  | nil => intro k cells h; simp
  | cons v rest ih =>
   intro k cells h
   simp only [List.zipIdx_cons, List.foldl_cons, List.length_cons] at h ⊢
   have e : (cells.toArray.setIfInBounds (off + k) v) = (cells.set (off + k) v).toArray := by simp
   rw [e, ih (k + 1) (cells.set (off + k) v) (by simp; omega)]
   have h1 : (cells.set (off + k) v).take (off + (k + 1)) = cells.take (off + k) ++ [v] := by
    rw [show off + (k + 1) = (off + k) + 1 by omega, List.take_succ_eq_append_getElem (by simp; omega)]
    congr 1
    ·rw [List.take_set_of_le]; omega
    ·simp
   have h2 : (cells.set (off + k) v).drop (off + (k + 1) + rest.length) = cells.drop (off + k + (rest.length + 1)) := by
    rw [List.drop_set_of_lt (by omega)]; congr 1; omega
   rw [h1, h2]
   simp
 have := key new 0 cells (by simpa using h)
 rw [← Array.foldl_toList, Array.toList_zipIdx]
 simpa only [Nat.add_zero] using this
theorem fill_sound {kn : Kn} {m : Mp} (place : Nat → Option (Nat × Nat)) : ∀ (parts : List (Nat × AV)) (parts' : List (Nat × Value)) (cells out : List AV) (cells' : List Value), fillA place cells parts = some out →
  parts.length = parts'.length → (∀ (i : Nat) (p : Nat × AV) (p' : Nat × Value), parts[i]? = some p → parts'[i]? = some p' → p.1 = p'.1 ∧ Rel kn m p.2 p'.2) → RelC kn m cells cells' →
  ∃ out', Instr.fill place cells'.toArray parts' = some out' ∧ RelC kn m out out'.toList
 | [], parts', cells, out, cells', h, hl, hp, hc => by
  have : parts' = [] := List.eq_nil_of_length_eq_zero (by simpa using hl.symm)
  subst this
  simp only [fillA, Option.some.injEq] at h
  subst h
  exact ⟨cells'.toArray, rfl, by simpa using hc⟩
 | (i, x) :: rest, [], cells, out, cells', h, hl, hp, hc => by simp at hl
 | (i, x) :: rest, (i', v) :: rest', cells, out, cells', h, hl, hp, hc => by
  obtain ⟨e, hx⟩ := hp 0 _ _ rfl rfl
  simp only at e hx
  subst e
  simp only [fillA] at h
  split at h
  ·rename_i off size cs hpl hcs
   split at h
   ·rename_i hok
    have hv := hx.cells hcs
    have hcv : cs.length = v.cells.size := by simpa using hv.1.1
    have hcl : cells.length = cells'.length := hc.1.1
    have hput := put_cells cells' v.cells.toList off (by rw [← hv.1.1, ← hc.1.1]; exact hok.2)
    have hrl : RelC kn m (cells.take off ++ (cs ++ cells.drop (off + cs.length))) (v.cells.zipIdx.foldl (fun cs (c, j) => cs.setIfInBounds (off + j) c) cells'.toArray).toList := by
     have : (v.cells.zipIdx.foldl (fun cs (c, j) => cs.setIfInBounds (off + j) c) cells'.toArray).toList = cells'.take off ++ (v.cells.toList ++ cells'.drop (off + v.cells.toList.length)) := by
      simpa using hput
     rw [this, ← hv.1.1]
     exact (hc.take off).append (hv.append (hc.drop _))
    obtain ⟨out', h1, h2⟩ := fill_sound place rest rest' _ out _ h (by simpa using hl) (fun j p p' a b => hp (j + 1) p p' (by simpa using a) (by simpa using b)) hrl
    refine ⟨out', ?_, h2⟩
    simp only [Instr.fill, hpl]
    rw [if_neg (by simp only [Bool.or_eq_true, decide_eq_true_eq, not_or, bne_iff_ne, ne_eq]; simp; omega)]
    simpa using h1
   ·cases h
  ·cases h
def rowsA (sz : Nat) (rows : List (List AV)) : List (Nat × AV) → Option (List (List AV))
 | [] => some rows
 | (i, x) :: rest => match cellsA x with
  | some cs => if cs.length = sz ∧ i < rows.length then rowsA sz (rows.set i cs) rest else none
  | none => none
def abinInt (op : BinOp) (k : IntKind) (x y : Int) : Option AV :=
 match op with
 | .add => some (.int k (k.wrap (x + y)))
 | .sub => some (.int k (k.wrap (x - y)))
 | .mul => some (.int k (k.wrap (x * y)))
 | .quo => if y = 0 then none else some (.int k (k.wrap (x.tdiv y)))
 | .rem => if y = 0 then none else some (.int k (x.tmod y))
 | .and => some (.int k (Go.bits .and k x y))
 | .or => some (.int k (Go.bits .or k x y))
 | .xor => some (.int k (Go.bits .xor k x y))
 | .andNot => some (.int k (Go.bits .andNot k x y))
 | .eql => some (.bool (decide (x = y)))
 | .neq => some (.bool (!decide (x = y)))
 | .lss => some (.bool (decide (x < y)))
 | .leq => some (.bool (decide (x ≤ y)))
 | .gtr => some (.bool (decide (x > y)))
 | .geq => some (.bool (decide (x ≥ y)))
 | _ => none
def abinStr (op : BinOp) (x y : List UInt8) : Option AV :=
 match op with
 | .add => if x.length + y.length ≤ 9223372036854775807 then some (.str (x ++ y)) else none
 | .eql => some (.bool (decide (x = y)))
 | .neq => some (.bool (!decide (x = y)))
 | .lss => some (.bool (Op.bytesLess x y))
 | .leq => some (.bool (Op.bytesLess x y || decide (x = y)))
 | .gtr => some (.bool (!(Op.bytesLess x y || decide (x = y))))
 | .geq => some (.bool (!Op.bytesLess x y))
 | _ => none
def nilA : AV → Option Bool
 | .base (.slice none 0 0) => some true
 | .base (.pointer none) => some true
 | .base (.map none) => some true
 | .base .nilFunc => some true
 | .base .nilIface => some true
 | .base (.slice (some _) _ _) => some false
 | .vec _ rows => if rows.isEmpty = true then none else some false
 | .tvec _ l => if l.isEmpty = true then none else some false
 | .gs _ _ _ len => if len = 0 then none else some false
 | .erri b => some b
 | .sref _ _ _ _ len => if len = 0 then none else some false
 | .rptr _ => some false
 | .ref _ _ _ => some false
 | .eref _ _ _ _ => some false
 | .mapr _ _ => some false
 | .fn _ _ _ => some false
 | .iface _ _ => some false
 | _ => none
def nilT : TypeDesc → AV → Bool
 | .slice _, .base (.slice none 0 0) | .slice _, .base (.slice (some _) _ _) | .slice _, .vec _ _ | .slice _, .sref _ _ _ _ _ | .slice _, .emp | .slice _, .tvec _ _ | .slice _, .gs _ _ _ _ => true
 | .pointer _, .base (.pointer none) | .pointer _, .rptr _ | .pointer _, .ref _ _ _ | .pointer _, .eref _ _ _ _ => true
 | .map _ _, .base (.map none) | .map _ _, .mapr _ _ => true
 | .func _ _ _, .base .nilFunc | .func _ _ _, .fn _ _ _ => true
 | .interface _, .base .nilIface | .interface _, .iface _ _ | .interface _, .erri _ => true
 | _, _ => false
def isNilConst : Operand → Bool
 | .const (.slice none 0 0) | .const (.pointer none) | .const (.map none) | .const .nilFunc | .const .nilIface => true
 | _ => false
def nilTest (P : Program) (t : TypeId) (x : AV) : Option Bool :=
 match P.underlying t with
 | some d => if nilT d x then nilA x else none
 | none => none
def isBoolT (P : Program) (t : TypeId) : Bool := match P.underlying t with | some .bool => true | _ => false
def abin (C : Cx) (op : BinOp) (t : TypeId) (x y : Operand) (a b : AV) : Option AV :=
 match a, b with
 | .int k x, .int k' y => match op with
  | .shl => if 0 ≤ y ∧ y ≤ k.bits then some (.int k (k.wrap (x * 2 ^ y.toNat))) else none
  | .shr => if 0 ≤ y ∧ y ≤ k.bits then some (.int k (x / 2 ^ y.toNat)) else none
  | op => if k = k' then abinInt op k x y else none
 | .str x, .str y => abinStr op x y
 | .bool p, .bool q => if isBoolT C.P t then (match op with
  | .eql => some (.bool (p == q))
  | .neq => some (.bool (!(p == q)))
  | _ => none) else none
 | a, b => if isNilConst y then (match op, nilTest C.P t a, nilTest C.P t b with
   | .eql, some r, some true => some (.bool r)
   | .neq, some r, some true => some (.bool (!r))
   | _, _, _ => none)
  else none
def aun (op : UnOp) (a : AV) : Option AV :=
 match op, a with
 | .neg, .int k n => some (.int k (k.wrap (0 - n)))
 | .not, .bool b => some (.bool !b)
 | _, _ => none
def bytT (P : Program) (t : TypeId) : Bool := match P.underlying t with
 | some (.slice e) => match P.underlying e with
  | some (.int .u8) => true
  | _ => false
 | _ => false
def intsOf (l : List UInt8) : List Int := l.map fun b => (b.toNat : Int)
def strOf (l : List Int) : List UInt8 := l.map fun n => UInt8.ofNat n.toNat
def rowsU8 : List (List AV) → Option (List Int)
 | [] => some []
 | [.int .u8 n] :: rest => (rowsU8 rest).map fun l => n :: l
 | _ => none
theorem rowsU8_sound : ∀ (rows : List (List AV)) (l : List Int), rowsU8 rows = some l → rows = List.map (E.row (.int .u8)) l
 | [], l, h => by cases h; rfl
 | [.int .u8 n] :: rest, l, h => by
  obtain ⟨l', h1, rfl⟩ := Option.map_eq_some_iff.1 (show (rowsU8 rest).map (fun l => n :: l) = some l from h)
  rw [rowsU8_sound rest l' h1]
  rfl
def aconv (P : Program) (src dst : TypeId) (a : AV) : Option AV :=
 match a with
 | .int _ n => match undT P src, intT P dst with
  | true, some k => some (.int k (k.wrap n))
  | _, _ => none
 | .str l => if strT P src ∧ strT P dst then some (.str l) else if strT P src ∧ bytT P dst ∧ l.length ≤ 4611686018427387904 then some (.tvec (.int .u8) (intsOf l)) else none
 | .tvec (.int .u8) l => if bytT P src ∧ strT P dst then some (.str (strOf l)) else none
 | .vec esz rows => if esz = 1 ∧ bytT P src ∧ strT P dst then (rowsU8 rows).map fun l => .str (strOf l) else none
 | _ => none
def lenA (P : Program) (t : TypeId) (a : AV) : Option AV :=
 match a with
 | .str l => if strT P t then some (.int .i64 l.length) else none
 | .vec _ rows => if slcT P t then some (.int .i64 rows.length) else none
 | .tvec _ l => if slcT P t then some (.int .i64 l.length) else none
 | .gs _ _ _ n => if slcT P t then some (.int .i64 n) else none
 | .gv _ _ _ _ n => if slcT P t then some (.int .i64 n) else none
 | .sref _ _ _ _ n => if slcT P t then some (.int .i64 n) else none
 | .emp => if slcT P t then some (.int .i64 0) else none
 | .base (.slice none 0 0) => if slcT P t then some (.int .i64 0) else none
 | _ => none
def idxA (P : Program) (t : TypeId) (a i : AV) : Option AV :=
 match i with
 | .int _ n => match elmT P t with
  | some (_, sz, _) => match a with
   | .vec esz rows => if esz = sz ∧ 0 ≤ n ∧ n < rows.length then some (.rptr (rows.getD n.toNat [])) else none
   | .sref p nm esz off len => if esz = sz ∧ 0 ≤ n ∧ n < len then some (.eref p nm (off + n.toNat) 0) else none
   | .tvec e l => if e.size = sz ∧ 0 ≤ n ∧ n < l.length then some (.rptr (e.cells (l.getD n.toNat e.dflt))) else none
   | .gs p nm e len => if e.size = sz ∧ 0 ≤ n ∧ n < len then some (.eref p nm n.toNat 0) else none
   | .gv p nm e off len => if e.size = sz ∧ 0 ≤ n ∧ n < len then some (.eref p nm (off + n.toNat) 0) else none
   | _ => none
  | none => match arrT P t with
   | some (len, _, sz) => if 0 ≤ n ∧ n < len then (match a with
    | .rptr cs => some (.rptr (cs.drop (n.toNat * sz)))
    | .ref p nm o => some (.ref p nm (o + n.toNat * sz))
    | .eref p nm i o => some (.eref p nm i (o + n.toNat * sz))
    | _ => none) else none
   | none => none
 | _ => none
def fadA (P : Program) (s f : Nat) (a : AV) : Option AV :=
 match fldT P s f with
 | some (off, sz, _) => if sz = 0 then none else match a with
  | .rptr cs => some (.rptr (cs.drop off))
  | .ref p nm o => some (.ref p nm (o + off))
  | .eref p nm i o => some (.eref p nm i (o + off))
  | _ => none
 | none => none
def fieldA (P : Program) (t f : Nat) (a : AV) : Option AV :=
 match fldT P t f, a with
 | some (off, sz, true), .agg cs => if off + sz ≤ cs.length then some (.agg ((cs.drop off).take sz)) else none
 | some (off, _, false), .agg cs => cs[off]?
 | _, _ => none
def indexA (P : Program) (t : TypeId) (a i : AV) : Option AV :=
 match a, i with
 | .str l, .int _ n => if strT P t ∧ 0 ≤ n then (match l[n.toNat]? with
  | some b => some (.int .u8 b.toNat)
  | none => none) else none
 | _, _ => none
def bndA (len : Nat) (lo hi : Option AV) : Option (Int × Int) :=
 match lo, hi with
 | none, none => some (0, len)
 | some (.int _ l), none => some (l, len)
 | none, some (.int _ h) => some (0, h)
 | some (.int _ l), some (.int _ h) => some (l, h)
 | _, _ => none
def sliceish : AV → Bool
 | .vec _ _ => true
 | .sref _ _ _ _ _ => true
 | .base (.slice none 0 0) => true
 | _ => false
def empA : AV → AV
 | .base v => .base v
 | _ => .emp
def sliceA (P : Program) (t : TypeId) (a : AV) (lo hi mx : Option AV) : Option AV :=
 match a, mx with
 | .str s, none => if strT P t then (match bndA s.length lo hi with
  | some (l, h) => if 0 ≤ l ∧ l ≤ h ∧ h ≤ s.length then some (.str ((s.drop l.toNat).take (h.toNat - l.toNat))) else none
  | none => none) else none
 | .vec esz rows, none => (match elmT P t, bndA rows.length lo hi with
  | some (_, sz, _), some (l, h) => if esz = sz ∧ 0 ≤ l ∧ l ≤ h ∧ h ≤ rows.length then some (.vec esz ((rows.drop l.toNat).take (h.toNat - l.toNat))) else none
  | _, _ => none)
 | .tvec e l, none => (match elmT P t, bndA l.length lo hi with
  | some (_, sz, _), some (l', h) => if e.size = sz ∧ 0 ≤ l' ∧ l' ≤ h ∧ h ≤ l.length then some (.tvec e ((l.drop l'.toNat).take (h.toNat - l'.toNat))) else none
  | _, _ => none)
 | .sref p nm esz off len, none => (match elmT P t, bndA len lo hi with
  | some (_, sz, _), some (l, h) => if esz = sz ∧ 0 ≤ l ∧ l ≤ h ∧ h ≤ len then (if l = 0 ∨ l < h then some (.sref p nm esz (off + l.toNat) (h.toNat - l.toNat)) else some (.vec esz [])) else none
  | _, _ => none)
 | .gs p nm e len, none => (match elmT P t, bndA len lo hi with
  | some (_, sz, _), some (l, h) => if e.size = sz ∧ 0 ≤ l ∧ l ≤ h ∧ h ≤ len then some (.gv p nm e l.toNat (h.toNat - l.toNat)) else none
  | _, _ => none)
 | .base (.slice none 0 0), none => (match elmT P t, bndA 0 lo hi with
  | some _, some (l, h) => if l = 0 ∧ h = 0 then some (.base (.slice none 0 0)) else none
  | _, _ => none)
 | a, some (.int _ k) => (match elmT P t, bndA 0 lo hi with
  | some _, some (l, h) => if hi.isSome = true ∧ k = 0 ∧ l = 0 ∧ h = 0 ∧ sliceish a = true then some (empA a) else none
  | _, _ => none)
 | _, _ => none
def extA (a : AV) (i : Nat) : Option AV :=
 match a with
 | .tup vs => vs[i]?
 | _ => none
def nilckA : AV → Option AV
 | .rptr cs => some (.rptr cs)
 | .ref p n o => some (.ref p n o)
 | .eref p n i o => some (.eref p n i o)
 | .fn (.func g) a b => some (.fn (.func g) a b)
 | _ => none
def assertA (P : Program) (a : AV) (as_ : TypeId) (ok : Bool) : Option AV :=
 if conT P as_ then (match a with
  | .iface t x => if t = as_ then some (if ok then .tup [x, .bool true] else x)
   else if ok then (match zeroV P as_ with | some z => some (.tup [z, .bool false]) | none => none) else none
  | .base .nilIface => if ok then (match zeroV P as_ with | some z => some (.tup [z, .bool false]) | none => none) else none
  | _ => none) else none
 where
 zeroV (P : Program) (t : TypeId) : Option AV := ((P.info? t).bind (·.zero)).bind fun v => match v with
  | .agg cs => if cs.toList.all (·.oneCell') = true then some (.agg (cs.toList.map ofVal)) else none
  | v => some (ofVal v)
def maxA (mx : Bool) (a b : AV) : Option AV :=
 match a, b with
 | .int k x, .int _ y => some (.int k (if mx then (if y > x then y else x) else (if y < x then y else x)))
 | _, _ => none
def bfun (P : Program) (b : Builtin) (ts : List TypeId) (args : List AV) : Option AV :=
 match b, ts, args with
 | .len, [t], [x] => lenA P t x
 | .max, _, [x, y] => maxA true x y
 | .min, _, [x, y] => maxA false x y
 | _, _, _ => none
def fop (C : Cx) (al : Nat × Nat) (op : Op) (env : Nat → AV) (σ : Sto) : Option AV :=
 match op with
 | .move x => some (opv C env x)
 | .assign x => some (opv C env x)
 | .pick c a b => match opv C env c with
  | .bool t => some (if t = true then opv C env a else opv C env b)
  | _ => none
 | .alloc T => match zeroCells C.P T with
  | some _ => some (.ref al.1 al.2 0)
  | none => none
 | .box _ x => (cellsA (opv C env x)).map .rptr
 | .build t parts => match zeroCells C.P t, bldT C.P t with
  | some z, some pl => (fillA (pl[·]?) z (parts.toList.map fun p => (p.1, opv C env p.2))).map .agg
  | _, _ => none
 | .buildSlice t len parts => match elmT C.P t with
  | some (e, sz, _) => match zeroCells C.P e with
   | some z => if 0 < sz ∧ z.length = sz ∧ len * sz ≤ 16777216 then (rowsA sz (List.replicate len z) (parts.toList.map fun p => (p.1, opv C env p.2))).map (.vec sz) else none
   | none => none
  | none => none
 | .load T a => readA C.P T σ (opv C env a)
 | .nilCheck x => nilckA (opv C env x)
 | .binOp op t x y _ => abin C op t x y (opv C env x) (opv C env y)
 | .unOp op _ x => aun op (opv C env x)
 | .convert s d x => aconv C.P s d (opv C env x)
 | .makeInterface t x => if conT C.P t then some (.iface t (opv C env x)) else none
 | .makeFunc f a b => some (.fn f (a.toList.map (opv C env)) (b.toList.map (opv C env)))
 | .fieldAddr s x f => fadA C.P s f (opv C env x)
 | .field t x f => fieldA C.P t f (opv C env x)
 | .indexAddr t x i => idxA C.P t (opv C env x) (opv C env i)
 | .index t x i => indexA C.P t (opv C env x) (opv C env i)
 | .slice t x lo hi mx => sliceA C.P t (opv C env x) (lo.map (opv C env)) (hi.map (opv C env)) (mx.map (opv C env))
 | .extract x i => extA (opv C env x) i
 | .typeAssert x _ t ok => assertA C.P (opv C env x) t ok
 | .call c => match c.callee with
  | .builtin b => bfun C.P b c.argTypes.toList (c.args.toList.map (opv C env))
  | _ => none
 | _ => none
end Go.Ab
