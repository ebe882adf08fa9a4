/- merged by minib.py -/
import Derived.Below
import Derived.WalkKit
import Derived.KernelRfl
import Derived.Laws.Strings2
import Derived.Laws.Unary
import Derived.Laws.Slices
import Derived.Laws.Cells
import Derived.Laws.Concat
import Derived.Laws.IdiomStrings
import Derived.Laws.BytesString
import Derived.Laws.AppendOwn
import Derived.Laws.MakeOwn
set_option linter.unusedVariables false
set_option linter.unusedSimpArgs false
set_option maxRecDepth 100000
noncomputable section
namespace Go.Ab
open Go Go.RowKit
abbrev Kn := Nat -> Nat -> Option Value
structure Loc where
 blk : Nat
 off : Nat
 cap : Nat
 esz : Nat
 len : Nat
 nil : Bool
abbrev Mp := Nat -> Option Loc
inductive Fm where
 | mk (k n : Int) (t : List UInt8) (l : List Fm)
def Fm.k : Fm -> Int | .mk k _ _ _ => k
def Fm.n : Fm -> Int | .mk _ n _ _ => n
def Fm.t : Fm -> List UInt8 | .mk _ _ t _ => t
def Fm.l : Fm -> List Fm | .mk _ _ _ l => l
inductive E where
 | int (k : IntKind)
 | bool
 | str
 | erri
 | form
 | un
 | pr (a b : E)
 | slice (e : E)
 deriving DecidableEq
def E.den : E -> Type
 | .int _ => Int
 | .bool => Bool
 | .str => List UInt8
 | .erri => Bool
 | .form => Fm
 | .un => Unit
 | .pr a b => a.den × b.den
 | .slice e => List e.den
def E.size : E -> Nat
 | .form => 4
 | .un => 0
 | .pr a b => a.size + b.size
 | _ => 1
def E.dflt : (e : E) -> e.den
 | .int _ => (0 : Int)
 | .bool => false
 | .str => ([] : List UInt8)
 | .erri => true
 | .form => Fm.mk 0 0 [] []
 | .un => ()
 | .pr a b => (a.dflt, b.dflt)
 | .slice _ => []
inductive AV where
 | any
 | int (k : IntKind) (n : Int)
 | bool (b : Bool)
 | str (l : List UInt8)
 | base (v : Value)
 | agg (cs : List AV)
 | tup (vs : List AV)
 | vec (esz : Nat) (rows : List (List AV))
 | emp
 | rptr (cs : List AV)
 | ref (pos nm off : Nat)
 | eref (pos nm i off : Nat)
 | sref (pos nm esz off len : Nat)
 | fn (f : Fn) (first caps : List AV)
 | iface (t : TypeId) (v : AV)
 | mapr (pos nm : Nat)
 | erri (b : Bool)
 | tvec (e : E) (l : List e.den)
 | gs (pos nm : Nat) (e : E) (len : Nat)
 | mref (pos nm off : Nat) (b : Bool)
 | gv (pos nm : Nat) (e : E) (off len : Nat)
abbrev AV.undef : AV := .base (.tuple #[])
mutual
def Fm.row : Fm -> List AV
 | .mk k n t l => [.int .i64 k, .int .i64 n, .str t, .vec 4 (Fm.rows l)]
def Fm.rows : List Fm -> List (List AV)
 | [] => []
 | f :: l => f.row :: Fm.rows l
end
def E.row : (e : E) -> e.den -> List AV
 | .int k, (n : Int) => [.int k n]
 | .bool, (b : Bool) => [.bool b]
 | .str, (l : List UInt8) => [.str l]
 | .erri, (b : Bool) => [.erri b]
 | .form, (f : Fm) => f.row
 | .un, _ => []
 | .pr a b, (x, y) => a.row x ++ b.row y
 | .slice e, (l : List e.den) => [.vec e.size (l.map e.row)]
def E.cells : (e : E) -> e.den -> List AV
 | .int k, (n : Int) => [.int k n]
 | .bool, (b : Bool) => [.bool b]
 | .str, (l : List UInt8) => [.str l]
 | .erri, (b : Bool) => [.erri b]
 | .form, (f : Fm) => [.int .i64 f.k, .int .i64 f.n, .str f.t, .tvec .form f.l]
 | .un, _ => []
 | .pr a b, x => a.cells x.1 ++ b.cells x.2
 | .slice e, (l : List e.den) => [.tvec e l]
theorem Fm.rows_map (l : List Fm) : Fm.rows l = l.map Fm.row := by
 induction l with
 | nil => rfl
 | cons f l ih => simp [Fm.rows, ih]
def X2a (loc : Loc) : Value := if loc.nil = true then .slice none 0 0 else .slice (some ⟨loc.blk, loc.off, none⟩) loc.len loc.cap
inductive Rel (kn : Kn) (m : Mp) : AV -> Value -> Prop
 | any (v : Value) : Rel kn m .any v
 | int (k : IntKind) (n : Int) : Rel kn m (.int k n) (.int k n)
 | bool (b : Bool) : Rel kn m (.bool b) (.bool b)
 | str (l : List UInt8) : Rel kn m (.str l) (.string ⟨l.toArray⟩)
 | base (v : Value) : Rel kn m (.base v) v
 | agg (cs : List AV) (vs : Array Value) (hl : cs.length = vs.size) (h : ∀ (i : Nat) (x : AV) (v : Value), cs[i]? = some x -> vs[i]? = some v -> Rel kn m x v) (h1 : ∀ (i : Nat) (v : Value), vs[i]? = some v -> v.oneCell' = true) : Rel kn m (.agg cs) (.agg vs)
 | tup (cs : List AV) (vs : Array Value) (hl : cs.length = vs.size) (h : ∀ (i : Nat) (x : AV) (v : Value), cs[i]? = some x -> vs[i]? = some v -> Rel kn m x v) : Rel kn m (.tup cs) (.tuple vs)
 | vecNil (esz : Nat) (a : Addr) (cap : Nat) : Rel kn m (.vec esz []) (.slice (some a) 0 cap)
 | vecNone (esz : Nat) : Rel kn m (.vec esz []) (.slice none 0 0)
 | vec (esz : Nat) (rows : List (List AV)) (b o cap : Nat) (vals : Nat -> Nat -> Value) (hc : rows.length <= cap) (hm : rows.length <= 2 ^ 62) (hrow : ∀ (i : Nat) (row : List AV), rows[i]? = some row -> row.length = esz)
   (hk : ∀ (i : Nat) (row : List AV) (j : Nat) (x : AV), rows[i]? = some row -> row[j]? = some x -> kn b (o + i * esz + j) = some (vals i j))
   (h : ∀ (i : Nat) (row : List AV) (j : Nat) (x : AV), rows[i]? = some row -> row[j]? = some x -> Rel kn m x (vals i j))
   (h1 : ∀ (i : Nat) (row : List AV) (j : Nat) (x : AV), rows[i]? = some row -> row[j]? = some x -> (vals i j).oneCell' = true) : Rel kn m (.vec esz rows) (.slice (some ⟨b, o, none⟩) rows.length cap)
 | emp (a : Addr) : Rel kn m .emp (.slice (some a) 0 0)
 | empNone : Rel kn m .emp (.slice none 0 0)
 | rptr (cs : List AV) (b o : Nat) (vals : Nat -> Value) (hk : ∀ (j : Nat) (x : AV), cs[j]? = some x -> kn b (o + j) = some (vals j)) (h : ∀ (j : Nat) (x : AV), cs[j]? = some x -> Rel kn m x (vals j))
   (h1 : ∀ (j : Nat) (x : AV), cs[j]? = some x -> (vals j).oneCell' = true) : Rel kn m (.rptr cs) (.pointer (some ⟨b, o, none⟩))
 | ref (pos nm off : Nat) (loc : Loc) (hm : m nm = some loc) : Rel kn m (.ref pos nm off) (.pointer (some ⟨loc.blk, loc.off + off, none⟩))
 | eref (pos nm i off : Nat) (loc : Loc) (hm : m nm = some loc) : Rel kn m (.eref pos nm i off) (.pointer (some ⟨loc.blk, loc.off + i * loc.esz + off, none⟩))
 | sref (pos nm esz off len : Nat) (loc : Loc) (hm : m nm = some loc) (hn : loc.nil = false) (he : loc.esz = esz) (hl : len + off <= loc.cap) (hm' : len <= 2 ^ 62) : Rel kn m (.sref pos nm esz off len) (.slice (some ⟨loc.blk, loc.off + off * loc.esz, none⟩) len (loc.cap - off))
 | fn (f : Fn) (first caps : List AV) (first' caps' : Array Value) (h1 : first.length = first'.size) (h2 : caps.length = caps'.size)
   (hf : ∀ (i : Nat) (x : AV) (v : Value), first[i]? = some x -> first'[i]? = some v -> Rel kn m x v) (hc : ∀ (i : Nat) (x : AV) (v : Value), caps[i]? = some x -> caps'[i]? = some v -> Rel kn m x v) : Rel kn m (.fn f first caps) (.func f first' caps')
 | iface (t : TypeId) (x : AV) (v : Value) (h : Rel kn m x v) : Rel kn m (.iface t x) (.iface t v)
 | mapr (pos nm : Nat) (loc : Loc) (hm : m nm = some loc) : Rel kn m (.mapr pos nm) (.map (some loc.blk))
 | srefNil (pos nm esz : Nat) (loc : Loc) (hm : m nm = some loc) (hn : loc.nil = true) : Rel kn m (.sref pos nm esz 0 0) (.slice none 0 0)
 | erriNil : Rel kn m (.erri true) .nilIface
 | erriSome (t : TypeId) (v : Value) : Rel kn m (.erri false) (.iface t v)
 | tvec (e : E) (l : List e.den) (v : Value) (h : Rel kn m (.vec e.size (l.map e.row)) v) : Rel kn m (.tvec e l) v
 | gs (pos nm : Nat) (e : E) (len : Nat) (v : Value) (loc : Loc) (hm : m nm = some loc) (hl : loc.len = len) (h : Rel kn m (.sref pos nm e.size 0 len) v) : Rel kn m (.gs pos nm e len) v
 | mrefSome (pos nm off : Nat) (loc : Loc) (hm : m nm = some loc) : Rel kn m (.mref pos nm off true) (.pointer (some ⟨loc.blk, loc.off + off, none⟩))
 | mrefNil (pos nm off : Nat) : Rel kn m (.mref pos nm off false) (.pointer none)
 | gvE (pos nm : Nat) (e : E) (off : Nat) (a : Option Addr) (cap : Nat) : Rel kn m (.gv pos nm e off 0) (.slice a 0 cap)
 | gvS (pos nm : Nat) (e : E) (off len : Nat) (v : Value) (h : Rel kn m (.sref pos nm e.size off len) v) : Rel kn m (.gv pos nm e off len) v
def KnLe (kn kn' : Kn) : Prop := ∀ b o v, kn b o = some v -> kn' b o = some v
def MpLe (m m' : Mp) : Prop := ∀ n l, m n = some l -> m' n = some l
theorem KnLe.refl (kn : Kn) : KnLe kn kn := fun _ _ _ h => h
theorem MpLe.refl (m : Mp) : MpLe m m := fun _ _ h => h
theorem KnLe.trans {a b c : Kn} (h : KnLe a b) (k : KnLe b c) : KnLe a c := fun _ _ _ x => k _ _ _ (h _ _ _ x)
theorem MpLe.trans {a b c : Mp} (h : MpLe a b) (k : MpLe b c) : MpLe a c := fun _ _ x => k _ _ (h _ _ x)
theorem Rel.mono {kn kn' : Kn} {m m' : Mp} {x : AV} {v : Value} (h : Rel kn m x v) (hk : KnLe kn kn') (hm : MpLe m m') : Rel kn' m' x v := by
 induction h with
 | any v => exact .any v
 | int k n => exact .int k n
 | bool b => exact .bool b
 | str l => exact .str l
 | base v => exact .base v
 | agg cs vs hl h h1 ih => exact .agg cs vs hl ih h1
 | tup cs vs hl h ih => exact .tup cs vs hl ih
 | vecNil e a c => exact .vecNil e a c
 | vecNone e => exact .vecNone e
 | erriNil => exact .erriNil
 | erriSome t v => exact .erriSome t v
 | vec esz rows b o cap vals hc hm' hrow hk' h h1 ih => exact .vec esz rows b o cap vals hc hm' hrow (fun i row j x a b => hk _ _ _ (hk' i row j x a b)) ih h1
 | emp a => exact .emp a
 | empNone => exact .empNone
 | rptr cs b o vals hk' h h1 ih => exact .rptr cs b o vals (fun j x a => hk _ _ _ (hk' j x a)) ih h1
 | ref pos nm off loc h => exact .ref pos nm off loc (hm _ _ h)
 | eref pos nm i off loc h => exact .eref pos nm i off loc (hm _ _ h)
 | sref pos nm esz off len loc h hn he hl hm' => exact .sref pos nm esz off len loc (hm _ _ h) hn he hl hm'
 | srefNil pos nm esz loc h hn => exact .srefNil pos nm esz loc (hm _ _ h) hn
 | tvec e l v _ ih => exact .tvec e l v ih
 | gs p nm e len v loc h hl _ ih => exact .gs p nm e len v loc (hm _ _ h) hl ih
 | mrefSome p nm off loc h => exact .mrefSome p nm off loc (hm _ _ h)
 | mrefNil p nm off => exact .mrefNil p nm off
 | gvE p nm e off a c => exact .gvE p nm e off a c
 | gvS p nm e off len v _ ih => exact .gvS p nm e off len v ih
 | fn f first caps f' c' h1 h2 _ _ ihf ihc => exact .fn f first caps f' c' h1 h2 ihf ihc
 | iface t x v _ ih => exact .iface t x v ih
 | mapr pos nm loc h => exact .mapr pos nm loc (hm _ _ h)
mutual
def RF : AV -> Prop
 | .any => True
 | .int _ _ => True
 | .bool _ => True
 | .str _ => True
 | .base _ => True
 | .agg cs => RFL cs
 | .tup cs => RFL cs
 | .vec _ rows => RFLL rows
 | .emp => True
 | .rptr cs => RFL cs
 | .ref _ _ _ => False
 | .eref _ _ _ _ => False
 | .sref _ _ _ _ _ => False
 | .fn _ a b => RFL a /\ RFL b
 | .iface _ v => RF v
 | .mapr _ _ => False
 | .erri _ => True
 | .tvec _ _ => True
 | .gs _ _ _ _ => False
 | .mref _ _ _ _ => False
 | .gv _ _ _ _ _ => False
def RFL : List AV -> Prop
 | [] => True
 | c :: cs => RF c /\ RFL cs
def RFLL : List (List AV) -> Prop
 | [] => True
 | r :: rs => RFL r /\ RFLL rs
end
theorem X7X (l : List AV) : RFL l ↔ ∀ c ∈ l, RF c := by
 induction l with
 | nil => simp [RFL]
 | cons c cs ih => simp [RFL, ih]
theorem X7t (l : List (List AV)) : RFLL l ↔ ∀ r ∈ l, RFL r := by
 induction l with
 | nil => simp [RFLL]
 | cons c cs ih => simp [RFLL, ih]
theorem RFL.get {l : List AV} (h : RFL l) {i : Nat} {x : AV} (hx : l[i]? = some x) : RF x := (X7X l).1 h x (List.mem_of_getElem? hx)
theorem RFLL.get {l : List (List AV)} (h : RFLL l) {i : Nat} {x : List AV} (hx : l[i]? = some x) : RFL x := (X7t l).1 h x (List.mem_of_getElem? hx)
theorem RFL.append {a b : List AV} (h : RFL a) (k : RFL b) : RFL (a ++ b) := (X7X _).2 fun c hc => (List.mem_append.1 hc).elim ((X7X _).1 h c) ((X7X _).1 k c)
mutual
theorem Fm.row_rf : ∀ f : Fm, RFL f.row
 | .mk k n t l => ⟨trivial, trivial, trivial, Fm.rows_rf l, trivial⟩
theorem Fm.rows_rf : ∀ l : List Fm, RFLL (Fm.rows l)
 | [] => trivial
 | f :: l => ⟨Fm.row_rf f, Fm.rows_rf l⟩
end
theorem E.row_rf : ∀ (e : E) (x : e.den), RFL (e.row x)
 | .int _, _ => ⟨trivial, trivial⟩
 | .bool, _ => ⟨trivial, trivial⟩
 | .str, _ => ⟨trivial, trivial⟩
 | .erri, _ => ⟨trivial, trivial⟩
 | .form, f => Fm.row_rf f
 | .un, _ => trivial
 | .pr a b, (x, y) => (E.row_rf a x).append (E.row_rf b y)
 | .slice e, l => ⟨(X7t _).2 fun r hr => (by obtain ⟨x, _, rfl⟩ := List.mem_map.1 hr; exact E.row_rf e x), trivial⟩
theorem E.rows_rf (e : E) (l : List e.den) : RFLL (l.map e.row) := (X7t _).2 fun r hr => (by obtain ⟨x, _, rfl⟩ := List.mem_map.1 hr; exact E.row_rf e x)
theorem E.cells_rf : ∀ (e : E) (x : e.den), RFL (e.cells x)
 | .int _, _ => ⟨trivial, trivial⟩
 | .bool, _ => ⟨trivial, trivial⟩
 | .str, _ => ⟨trivial, trivial⟩
 | .erri, _ => ⟨trivial, trivial⟩
 | .form, f => ⟨trivial, trivial, trivial, trivial, trivial⟩
 | .un, _ => trivial
 | .pr a b, x => (E.cells_rf a x.1).append (E.cells_rf b x.2)
 | .slice e, l => ⟨trivial, trivial⟩
theorem Rel.rf {kn : Kn} {m : Mp} {x : AV} {v : Value} (h : Rel kn m x v) (hf : RF x) (m' : Mp) : Rel kn m' x v := by
 induction h with
 | any v => exact .any v
 | int k n => exact .int k n
 | bool b => exact .bool b
 | str l => exact .str l
 | base v => exact .base v
 | agg cs vs hl h h1 ih => exact .agg cs vs hl (fun i x v a b => ih i x v a b (by simp only [RF] at hf; exact hf.get a)) h1
 | tup cs vs hl h ih => exact .tup cs vs hl (fun i x v a b => ih i x v a b (by simp only [RF] at hf; exact hf.get a))
 | vecNil e a c => exact .vecNil e a c
 | vecNone e => exact .vecNone e
 | erriNil => exact .erriNil
 | erriSome t v => exact .erriSome t v
 | vec esz rows b o cap vals hc hm' hrow hk' h h1 ih => exact .vec esz rows b o cap vals hc hm' hrow hk' (fun i row j x a b => ih i row j x a b (by simp only [RF] at hf; exact (hf.get a).get b)) h1
 | emp a => exact .emp a
 | empNone => exact .empNone
 | rptr cs b o vals hk' h h1 ih => exact .rptr cs b o vals hk' (fun j x a => ih j x a (by simp only [RF] at hf; exact hf.get a)) h1
 | ref pos nm off loc h => simp [RF] at hf
 | eref pos nm i off loc h => simp [RF] at hf
 | sref pos nm esz off len loc h hn he hl hm' => simp [RF] at hf
 | srefNil pos nm esz loc h hn => simp [RF] at hf
 | gs p nm e len v loc h hl _ ih => simp [RF] at hf
 | mrefSome p nm off loc h => simp [RF] at hf
 | mrefNil p nm off => simp [RF] at hf
 | gvE p nm e off a c => simp [RF] at hf
 | gvS p nm e off len v _ ih => simp [RF] at hf
 | tvec e l v _ ih => exact .tvec e l v (ih (by simp only [RF]; exact E.rows_rf e l))
 | fn f first caps f' c' h1 h2 _ _ ihf ihc => exact .fn f first caps f' c' h1 h2 (fun i x v a b => ihf i x v a b (by simp only [RF] at hf; exact hf.1.get a)) (fun i x v a b => ihc i x v a b (by simp only [RF] at hf; exact hf.2.get a))
 | iface t x v _ ih => exact .iface t x v (ih (by simpa only [RF] using hf))
 | mapr pos nm loc h => simp [RF] at hf
def RelL (kn : Kn) (m : Mp) (cs : List AV) (vs : List Value) : Prop := cs.length = vs.length /\ ∀ (i : Nat) (x : AV) (v : Value), cs[i]? = some x -> vs[i]? = some v -> Rel kn m x v
theorem RelL.mono {kn kn' : Kn} {m m' : Mp} {cs : List AV} {vs : List Value} (h : RelL kn m cs vs) (hk : KnLe kn kn') (hm : MpLe m m') : RelL kn' m' cs vs :=
 ⟨h.1, fun i x v a b => (h.2 i x v a b).mono hk hm⟩
theorem RelL.nil (kn : Kn) (m : Mp) : RelL kn m [] [] := ⟨rfl, fun i x v a => by simp at a⟩
theorem RelL.cons {kn : Kn} {m : Mp} {c : AV} {v : Value} {cs : List AV} {vs : List Value} (h : Rel kn m c v) (hs : RelL kn m cs vs) : RelL kn m (c :: cs) (v :: vs) := by
 refine ⟨by simp [hs.1], fun i x u a b => ?_⟩;cases i with
 | zero => simp at a b; subst a; subst b; exact h
 | succ i => simp at a b; exact hs.2 i x u a b
theorem RelL.uncons {kn : Kn} {m : Mp} {c : AV} {cs : List AV} {vs : List Value} (h : RelL kn m (c :: cs) vs) : ∃ v vs', vs = v :: vs' /\ Rel kn m c v /\ RelL kn m cs vs' := by
 cases vs with
 | nil => have := h.1; simp at this
 | cons v vs' => exact ⟨v, vs', rfl, h.2 0 c v rfl rfl, by have := h.1; simpa using this, fun i x u a b => h.2 (i + 1) x u (by simpa using a) (by simpa using b)⟩
theorem RelL.append {kn : Kn} {m : Mp} {cs ds : List AV} {vs us : List Value} (h : RelL kn m cs vs) (k : RelL kn m ds us) : RelL kn m (cs ++ ds) (vs ++ us) := by
 induction cs generalizing vs with
 | nil => have : vs = [] := List.eq_nil_of_length_eq_zero (by have := h.1; simpa using this.symm); subst this; simpa using k
 | cons c cs ih => obtain ⟨v, vs', rfl, h1, h2⟩ := h.uncons; exact .cons h1 (ih h2)
theorem RelL.take {kn : Kn} {m : Mp} {cs : List AV} {vs : List Value} (h : RelL kn m cs vs) (n : Nat) : RelL kn m (cs.take n) (vs.take n) := by
 refine ⟨by simp [h.1], fun i x v a b => ?_⟩;rw [List.getElem?_take] at a b;split at a
 ·rename_i hi; rw [if_pos hi] at b; exact h.2 i x v a b
 cases a
theorem RelL.drop {kn : Kn} {m : Mp} {cs : List AV} {vs : List Value} (h : RelL kn m cs vs) (n : Nat) : RelL kn m (cs.drop n) (vs.drop n) := by
 refine ⟨by simp [h.1], fun i x v a b => ?_⟩;rw [List.getElem?_drop] at a b;exact h.2 _ x v a b
def RelC (kn : Kn) (m : Mp) (cs : List AV) (vs : List Value) : Prop := RelL kn m cs vs /\ ∀ v ∈ vs, v.oneCell' = true
theorem RelC.mono {kn kn' : Kn} {m m' : Mp} {cs : List AV} {vs : List Value} (h : RelC kn m cs vs) (hk : KnLe kn kn') (hm : MpLe m m') : RelC kn' m' cs vs := ⟨h.1.mono hk hm, h.2⟩
theorem RelC.append {kn : Kn} {m : Mp} {cs ds : List AV} {vs us : List Value} (h : RelC kn m cs vs) (k : RelC kn m ds us) : RelC kn m (cs ++ ds) (vs ++ us) :=
 ⟨h.1.append k.1, fun v hv => (List.mem_append.1 hv).elim (h.2 v) (k.2 v)⟩
theorem RelC.take {kn : Kn} {m : Mp} {cs : List AV} {vs : List Value} (h : RelC kn m cs vs) (n : Nat) : RelC kn m (cs.take n) (vs.take n) := ⟨h.1.take n, fun v hv => h.2 v (List.mem_of_mem_take hv)⟩
theorem RelC.drop {kn : Kn} {m : Mp} {cs : List AV} {vs : List Value} (h : RelC kn m cs vs) (n : Nat) : RelC kn m (cs.drop n) (vs.drop n) := ⟨h.1.drop n, fun v hv => h.2 v (List.mem_of_mem_drop hv)⟩
def X11 : Value -> AV
 | .int k n => .int k n
 | .bool b => .bool b
 | .string s => .str s.data.toList
 | .func f a b => if a.size = 0 /\ b.size = 0 then .fn f [] [] else .base (.func f a b)
 | v => .base v
theorem X4k (kn : Kn) (m : Mp) (v : Value) : Rel kn m (X11 v) v := by
 unfold X11;split
 ·exact .int _ _
 ·exact .bool _
 ·rename_i s; have := Rel.str (kn := kn) (m := m) s.data.toList; simpa using this
 ·rename_i f a b;split
  ·rename_i h; exact .fn _ [] [] a b (by simp [h.1]) (by simp [h.2]) (fun i x v a => by simp at a) (fun i x v a => by simp at a)
  exact .base _
 exact .base _
inductive Lk where
 | no
 | out (i h q : Nat) (b : Bool)
inductive AObj where
 | none
 | cells (T : TypeId) (cs : List AV)
 | gvec (esz : Nat) (ety : TypeId) (rows : List (List AV))
 | tg (e : E) (ety : TypeId) (l : List e.den)
 | siter (l : List UInt8) (pos : Nat)
 | stk (e : E) (ety : TypeId) (l : List (List e.den)) (k : Lk)
 | hand (e : E) (ps : Nat) (pe : Bool) (r ys : List e.den)
def X0K : AObj -> Bool
 | .hand _ _ _ _ _ => true
 | _ => false
def X0D : AObj -> Bool
 | .stk _ _ _ _ => true
 | _ => false
abbrev Sto := List (Nat × AObj)
structure St where
 env : Nat -> AV
 σ : Sto
 nx : Nat
def zeroCells (P : Program) (T : TypeId) : Option (List AV) := ((P.info? T).bind (·.zero)).bind fun v => if v.cells.toList.all (·.oneCell') = true then some (v.cells.toList.map X11) else none
def GvRel (kn : Kn) (m : Mp) (w : World) (nm esz : Nat) (ety : TypeId) (rows : List (List AV)) : Prop :=
 ∃ loc, m nm = some loc /\ loc.len = rows.length /\ ((loc.nil = true /\ rows = []) \/ (loc.nil = false /\ loc.esz = esz /\ ∃ arr, w.heap[loc.blk]? = some (.cells arr ety (0, 0)) /\ loc.off + loc.cap * esz <= arr.size /\ rows.length <= loc.cap /\ loc.cap <= maxLen /\
   (∀ v ∈ arr.toList, v.oneCell' = true) /\ (∀ (i : Nat) (row : List AV), rows[i]? = some row -> row.length = esz) /\ ∀ (i : Nat) (row : List AV) (j : Nat) (x : AV) (v : Value), rows[i]? = some row -> row[j]? = some x -> arr[loc.off + i * esz + j]? = some v -> Rel kn m x v))
structure Base where
 w : World
 kn : Kn
 own : Nat -> Prop
def Ow (B : Base) (b : Nat) : Prop := B.w.heap.size <= b \/ B.own b
def RowV (B : Base) (kn : Kn) (w : World) (e : E) (l : List e.den) (v : Value) : Prop :=
 (l = [] /\ v = .slice none 0 0) \/ (l ≠ [] /\ 0 < e.size /\ ∃ b o cap arr ty, v = .slice (some ⟨b, o, none⟩) l.length cap /\ w.heap[b]? = some (.cells arr ty (0, 0)) /\ o + cap * e.size <= arr.size /\ l.length <= cap /\ cap <= maxLen /\ l.length <= 2 ^ 62 /\ (∀ u ∈ arr.toList, u.oneCell' = true) /\
  (∀ (i : Nat) (row : List AV) (j : Nat) (x : AV) (u : Value), (l.map e.row)[i]? = some row -> row[j]? = some x -> arr[o + i * e.size + j]? = some u -> (∀ m, Rel kn m x u) /\ kn b (o + i * e.size + j) = some u) /\ (∀ o', o + l.length * e.size <= o' -> kn b o' = none) /\ Ow B b)
def bkOf : Value -> Option Nat
 | .slice (some a) _ _ => some a.block
 | _ => none
def X0C (k : Lk) (rv : List Value) : List (List AV) := match k with
 | .out i _ _ true => (rv.map fun v => [AV.base v]).set i [.any]
 | _ => rv.map fun v => [AV.base v]
def lkOK (m : Mp) (k : Lk) (rv : List Value) : Prop := match k with
 | .no => True
 | .out i _ q _ => ∃ loc, m q = some loc /\ rv[i]? = some (X2a loc)
def Z4e (k : Lk) (j : Nat) : Bool := match k with
 | .no => false
 | .out i _ _ _ => Nat.beq i j
def Y52 (B : Base) (kn : Kn) (m : Mp) (w : World) (nm : Nat) (e : E) (ety : TypeId) (l : List (List e.den)) (k : Lk) : Prop :=
 ∃ rv : List Value, GvRel kn m w nm 1 ety (X0C k rv) /\ rv.length = l.length /\ (∀ (i : Nat) (r : List e.den) (v : Value), Z4e k i = false -> l[i]? = some r -> rv[i]? = some v -> RowV B kn w e r v) /\
  (∀ (i i' : Nat) (v v' : Value), i ≠ i' -> rv[i]? = some v -> rv[i']? = some v' -> bkOf v = bkOf v' -> bkOf v = none) /\ lkOK m k rv
def X3X (kn : Kn) (m : Mp) (w : World) (nm : Nat) (e : E) (r ys : List e.den) : Prop :=
 ∃ ty, GvRel kn m w nm e.size ty ((r ++ ys).map e.row) /\ 0 < e.size /\ r.length + ys.length <= 2 ^ 62 /\ ∀ loc, m nm = some loc -> loc.nil = false -> r ++ ys ≠ [] /\ ∀ o', loc.off + r.length * e.size <= o' -> kn loc.blk o' = none
def ObjRel (P : Program) (B : Base) (kn : Kn) (m : Mp) (w : World) (nm : Nat) : AObj -> Prop
 | .none => True
 | .cells T cs => match m nm with
  | none => zeroCells P T = some cs
  | some loc => loc.nil = false /\ loc.off = 0 /\ ∃ arr, w.heap[loc.blk]? = some (.cells arr T (0, 0)) /\ RelC kn m cs arr.toList
 | .gvec esz ety rows => GvRel kn m w nm esz ety rows
 | .tg e ety l => GvRel kn m w nm e.size ety (l.map e.row)
 | .siter l pos => ∃ loc, m nm = some loc /\ (w.heap[loc.blk]? = some (.stringIter ⟨l.toArray⟩ pos) /\ loc.off = 0 /\ loc.nil = false)
 | .stk e ety l k => Y52 B kn m w nm e ety l k
 | .hand e _ _ r ys => X3X kn m w nm e r ys
structure Cx where
 P : Program
 gl : Nat -> AV
 rf : ∀ g, RF (gl g)
 tb : Nat -> Option (Array Value)
def live : AObj -> Prop
 | .none => False
 | _ => True
structure Inv (C : Cx) (B : Base) (kn : Kn) (m : Mp) (σ : Sto) (nx : Nat) (w : World) : Prop where
 knok : ∀ b o v, kn b o = some v -> w.cell? ⟨b, o, none⟩ = some v
 size : B.w.heap.size <= w.heap.size
 os : w.os = B.w.os
 tape : w.tape = B.w.tape
 output : w.output = B.w.output
 old : ∀ b, b < B.w.heap.size -> ¬ B.own b -> w.heap[b]? = B.w.heap[b]? /\ kn b = B.kn b
 obj : ∀ (p nm : Nat) (ob : AObj), σ[p]? = some (nm, ob) -> ObjRel C.P B kn m w nm ob
 own : ∀ (p nm : Nat) (ob : AObj) (loc : Loc), σ[p]? = some (nm, ob) -> live ob -> m nm = some loc -> loc.nil = false -> loc.blk < w.heap.size /\ (B.w.heap.size <= loc.blk \/ B.own loc.blk) /\ (X0K ob = false -> ∀ o, kn loc.blk o = none)
 dist : ∀ (p nm : Nat) (ob : AObj) (loc : Loc) (p' nm' : Nat) (ob' : AObj) (loc' : Loc), σ[p]? = some (nm, ob) -> σ[p']? = some (nm', ob') -> live ob -> live ob' -> m nm = some loc -> m nm' = some loc' -> loc.nil = false -> loc'.nil = false -> p ≠ p' -> loc.blk ≠ loc'.blk
 dom : ∀ n, nx <= n -> m n = none
 lt : ∀ (p nm : Nat) (ob : AObj), σ[p]? = some (nm, ob) -> nm < nx
 uniq : ∀ (p p' nm : Nat) (ob ob' : AObj), σ[p]? = some (nm, ob) -> σ[p']? = some (nm, ob') -> p = p'
 stk1 : ∀ (p p' nm nm' : Nat) (ob ob' : AObj), σ[p]? = some (nm, ob) -> σ[p']? = some (nm', ob') -> X0D ob = true -> X0D ob' = true -> p = p'
 glob : ∀ g, Rel kn m (C.gl g) (.pointer (some ⟨g, 0, none⟩))
 tab : ∀ g a, C.tb g = some a -> g < B.w.heap.size /\ ¬ B.own g /\ ∃ T z, B.w.heap[g]? = some (.cells a T z)
def TabW (C : Cx) (w : World) : Prop := ∀ g a, C.tb g = some a -> ∃ T z, w.heap[g]? = some (.cells a T z)
theorem Inv.tabW {C : Cx} {B : Base} {kn : Kn} {m : Mp} {σ : Sto} {nx : Nat} {w : World} (h : Inv C B kn m σ nx w) : TabW C w := fun g a e => by
 obtain ⟨h1, h2, T, z, h3⟩ := h.tab g a e;exact ⟨T, z, (h.old g h1 h2).1.trans h3⟩
theorem TabW.base {C : Cx} {w : World} (h : TabW C w) (own : Nat -> Prop) (ho : ∀ g a, C.tb g = some a -> ¬ own g) : ∀ g a, C.tb g = some a -> g < w.heap.size /\ ¬ own g /\ ∃ T z, w.heap[g]? = some (.cells a T z) := fun g a e => by
 obtain ⟨T, z, hw⟩ := h g a e;exact ⟨(Array.getElem?_eq_some_iff.1 hw).1, ho g a e, T, z, hw⟩
theorem Inv.kn_lt {C : Cx} {B : Base} {kn : Kn} {m : Mp} {σ : Sto} {nx : Nat} {w : World} (h : Inv C B kn m σ nx w) {b o : Nat} {v : Value} (hk : kn b o = some v) : b < w.heap.size :=
 World.block_lt_of_cell? w ⟨b, o, none⟩ (h.knok b o v hk)
theorem GvRel.get {kn : Kn} {m : Mp} {w : World} {nm esz : Nat} {ety : TypeId} {rows : List (List AV)} (h : GvRel kn m w nm esz ety rows) {loc : Loc} (hm : m nm = some loc) (hn : loc.nil = false) :
  loc.len = rows.length /\ loc.esz = esz /\ ∃ arr, w.heap[loc.blk]? = some (.cells arr ety (0, 0)) /\ loc.off + loc.cap * esz <= arr.size /\ rows.length <= loc.cap /\ loc.cap <= maxLen /\
   (∀ v ∈ arr.toList, v.oneCell' = true) /\ (∀ (i : Nat) (row : List AV), rows[i]? = some row -> row.length = esz) /\ ∀ (i : Nat) (row : List AV) (j : Nat) (x : AV) (v : Value), rows[i]? = some row -> row[j]? = some x -> arr[loc.off + i * esz + j]? = some v -> Rel kn m x v := by
 obtain ⟨loc', hm', hl, h⟩ := h;rw [hm] at hm'; cases hm';rcases h with ⟨h, _⟩ | ⟨_, h⟩
 ·rw [hn] at h; cases h
 exact ⟨hl, h⟩
theorem GvRel.nilRows {kn : Kn} {m : Mp} {w : World} {nm esz : Nat} {ety : TypeId} {rows : List (List AV)} (h : GvRel kn m w nm esz ety rows) {loc : Loc} (hm : m nm = some loc) (hn : loc.nil = true) : rows = [] := by
 obtain ⟨loc', hm', hl, h⟩ := h;rw [hm] at hm'; cases hm';rcases h with ⟨_, h⟩ | ⟨h, _⟩
 ·exact h
 rw [hn] at h; cases h
theorem GvRel.mono {kn kn' : Kn} {m : Mp} {w w' : World} {nm esz ety : Nat} {rows : List (List AV)} (h : GvRel kn m w nm esz ety rows) (hk : KnLe kn kn')
  (hw : ∀ loc, m nm = some loc -> loc.nil = false -> w'.heap[loc.blk]? = w.heap[loc.blk]?) : GvRel kn' m w' nm esz ety rows := by
 obtain ⟨loc, hn, hl, h⟩ := h;refine ⟨loc, hn, hl, ?_⟩;rcases h with h | ⟨hnl, he, arr, h1, h2, h3, h4, h4', h5, h6⟩
 ·exact .inl h
 exact .inr ⟨hnl, he, arr, (hw loc hn hnl).trans h1, h2, h3, h4, h4', h5, fun i row j x v a b c => (h6 i row j x v a b c).mono hk (MpLe.refl m)⟩
theorem RowV.known {B : Base} {kn : Kn} {w : World} {e : E} {l : List e.den} {v : Value} (h : RowV B kn w e l v) {b : Nat} (hb : bkOf v = some b) : (∃ o u, kn b o = some u) /\ Ow B b := by
 rcases h with ⟨_, rfl⟩ | ⟨hl, hs, b', o, cap, arr, ty, rfl, h2, h3, h4, h5, h5', h6, h7, h8, h9⟩
 ·cases hb
 cases hb;have h1 : e.size <= cap * e.size := by
  have : 1 * e.size <= cap * e.size := Nat.mul_le_mul_right _ (by cases l with | nil => exact absurd rfl hl | cons _ _ => simp at h4; omega);omega
 have hlt : o < arr.size := by omega
 cases l with
 | nil => exact absurd rfl hl
 | cons a l =>
  have hrl : (e.row a).length = e.size := by
   have hh : ∀ (e : E) (x : e.den), (e.row x).length = e.size := fun e => by
    induction e with
    | form => intro x; cases x; rfl
    | pr a b iha ihb => intro x; obtain ⟨x, y⟩ := x; show (a.row x ++ b.row y).length = _; rw [List.length_append, iha, ihb]; rfl
    | _ => intro x; rfl
   exact hh e a
  have := h7 0 (e.row a) 0 ((e.row a)[0]'(by omega)) (arr[o]'hlt) (by simp) (List.getElem?_eq_getElem (by omega)) (by simp [hlt]);exact ⟨⟨_, _, this.2⟩, h9⟩
theorem RowV.mono {B : Base} {kn kn' : Kn} {w w' : World} {e : E} {l : List e.den} {v : Value} (h : RowV B kn w e l v) (hk : KnLe kn kn') (hr : ∀ b, bkOf v = some b -> (∃ o u, kn b o = some u) -> w'.heap[b]? = w.heap[b]? /\ kn' b = kn b) : RowV B kn' w' e l v := by
 have hkn := fun b => h.known (b := b)
 rcases h with h | ⟨hl, hs, b, o, cap, arr, ty, rfl, h2, h3, h4, h5, h5', h6, h7, h8, h9⟩
 ·exact .inl h
 obtain ⟨q1, q2⟩ := hr b rfl (hkn b rfl).1;exact .inr ⟨hl, hs, b, o, cap, arr, ty, rfl, q1.trans h2, h3, h4, h5, h5', h6, fun i row j x u a b c => ⟨fun m => ((h7 i row j x u a b c).1 m).mono hk (MpLe.refl m), hk _ _ _ (h7 i row j x u a b c).2⟩, fun o' ho => by rw [q2]; exact h8 o' ho, h9⟩
theorem ObjRel.mono {P : Program} {B : Base} {kn kn' : Kn} {m : Mp} {w w' : World} {nm : Nat} {ob : AObj} (h : ObjRel P B kn m w nm ob) (hk : KnLe kn kn')
  (hw : ∀ loc, live ob -> m nm = some loc -> loc.nil = false -> w'.heap[loc.blk]? = w.heap[loc.blk]?) (hr : ∀ b, (X0D ob = true /\ ∃ o v, kn b o = some v) \/ (X0K ob = true /\ ∃ loc, m nm = some loc /\ loc.nil = false /\ loc.blk = b) -> w'.heap[b]? = w.heap[b]? /\ kn' b = kn b) : ObjRel P B kn' m w' nm ob := by
 cases ob with
 | none => trivial
 | cells T cs =>
  simp only [ObjRel] at h ⊢;cases hn : m nm with
  | none => simpa [hn] using h
  | some loc =>
   simp only [hn] at h ⊢;obtain ⟨hnl, h0, arr, h1, h2⟩ := h;exact ⟨hnl, h0, arr, (hw loc trivial hn hnl).trans h1, h2.mono hk (MpLe.refl m)⟩
 | gvec esz ety rows => exact GvRel.mono h hk (fun loc a b => hw loc trivial a b)
 | tg e ety l => exact GvRel.mono h hk (fun loc a b => hw loc trivial a b)
 | siter l pos =>
  obtain ⟨loc, hn, h1⟩ := h;exact ⟨loc, hn, (hw loc trivial hn h1.2.2).trans h1.1, h1.2⟩
 | stk e ety l k =>
  obtain ⟨rv, h1, h2, h3, h4, h5⟩ := h;exact ⟨rv, GvRel.mono h1 hk (fun loc a b => hw loc trivial a b), h2, fun i r v q a b => (h3 i r v q a b).mono hk (fun b _ hq => hr b (.inl ⟨rfl, hq⟩)), h4, h5⟩
 | hand e ps pe r ys =>
  obtain ⟨ty, h1, h2, h3, h4⟩ := h;exact ⟨ty, GvRel.mono h1 hk (fun loc a b => hw loc trivial a b), h2, h3, fun loc a b => ⟨(h4 loc a b).1, fun o' ho => by rw [(hr loc.blk (.inr ⟨rfl, loc, a, b, rfl⟩)).2]; exact (h4 loc a b).2 o' ho⟩⟩
theorem GvRel.mono_m {kn : Kn} {m m' : Mp} {w : World} {nm esz ety : Nat} {rows : List (List AV)} (h : GvRel kn m w nm esz ety rows) (he : m' nm = m nm) (hm : MpLe m m') : GvRel kn m' w nm esz ety rows := by
 obtain ⟨loc, hn, hl, h⟩ := h;refine ⟨loc, he.trans hn, hl, ?_⟩;rcases h with h | ⟨hnl, he, arr, h1, h2, h3, h4, h4', h5, h6⟩
 ·exact .inl h
 exact .inr ⟨hnl, he, arr, h1, h2, h3, h4, h4', h5, fun i row j x v a b c => (h6 i row j x v a b c).mono (KnLe.refl _) hm⟩
theorem lkOK.mono {m m' : Mp} {k : Lk} {rv : List Value} (h : lkOK m k rv) (hm : MpLe m m') : lkOK m' k rv := by
 cases k with
 | no => trivial
 | out i x q c => obtain ⟨loc, a, b⟩ := h; exact ⟨loc, hm _ _ a, b⟩
theorem ObjRel.mono_m {P : Program} {B : Base} {kn : Kn} {m m' : Mp} {w : World} {nm : Nat} {ob : AObj} (h : ObjRel P B kn m w nm ob) (he : m' nm = m nm) (hm : MpLe m m') : ObjRel P B kn m' w nm ob := by
 cases ob with
 | none => trivial
 | cells T cs =>
  simp only [ObjRel, he] at h ⊢;cases hn : m nm with
  | none => simpa [hn] using h
  | some l =>
   simp only [hn] at h ⊢;obtain ⟨a0, a, arr, b, c⟩ := h;exact ⟨a0, a, arr, b, c.mono (KnLe.refl _) hm⟩
 | gvec esz ety rows => exact GvRel.mono_m h he hm
 | tg e ety l => exact GvRel.mono_m h he hm
 | siter l pos =>
  obtain ⟨l', a, b⟩ := h;exact ⟨l', he.trans a, b⟩
 | stk e ety l k =>
  obtain ⟨rv, h1, h2, h3, h4, h5⟩ := h;exact ⟨rv, GvRel.mono_m h1 he hm, h2, h3, h4, h5.mono hm⟩
 | hand e ps pe r ys =>
  obtain ⟨ty, h1, h2, h3, h4⟩ := h;exact ⟨ty, GvRel.mono_m h1 he hm, h2, h3, fun loc a b => h4 loc (he.symm.trans a) b⟩
theorem Inv.grow {C : Cx} {B : Base} {kn kn' : Kn} {m : Mp} {σ : Sto} {nx : Nat} {w w' : World} (h : Inv C B kn m σ nx w)
  (hs : w.heap.size <= w'.heap.size) (ho : w'.os = w.os) (ht : w'.tape = w.tape) (hp : w'.output = w.output) (hb : ∀ b, b < w.heap.size -> w'.heap[b]? = w.heap[b]?)
  (hk : ∀ b, b < w.heap.size -> kn' b = kn b) (hn : ∀ b o v, w.heap.size <= b -> kn' b o = some v -> w'.cell? ⟨b, o, none⟩ = some v) : KnLe kn kn' /\ Inv C B kn' m σ nx w' := by
 have hle : KnLe kn kn' := fun b o v e => by rw [hk b (h.kn_lt e)]; exact e
 refine ⟨hle, ⟨fun b o v e => ?_, Nat.le_trans h.size hs, ho.trans h.os, ht.trans h.tape, hp.trans h.output, fun b hbb hob => ?_, fun p nm ob e => ?_, fun p nm ob loc e l g gn => ?_, h.dist, h.dom, h.lt, h.uniq, h.stk1, fun g => (h.glob g).mono hle (MpLe.refl m), h.tab⟩⟩
 ·rcases Nat.lt_or_ge b w.heap.size with hlt | hge
  ·rw [hk b hlt] at e;have := h.knok b o v e;unfold World.cell? at this ⊢;simp only [hb b hlt];exact this
  exact hn b o v hge e
 ·have := h.old b hbb hob;have hlt : b < w.heap.size := Nat.lt_of_lt_of_le hbb h.size;exact ⟨(hb b hlt).trans this.1, (hk b hlt).trans this.2⟩
 ·exact (h.obj p nm ob e).mono hle (fun loc l g gn => hb _ (h.own p nm ob loc e l g gn).1) (fun b hq => by
   have hlt : b < w.heap.size := by
    rcases hq with ⟨_, o, v, e⟩ | ⟨_, loc, a, c, rfl⟩
    ·exact h.kn_lt e
    exact (h.own p nm ob loc e (by cases ob <;> first | trivial | simp_all [X0K]) a c).1
   exact ⟨hb b hlt, hk b hlt⟩)
 obtain ⟨h1, h2, h3⟩ := h.own p nm ob loc e l g gn;exact ⟨Nat.lt_of_lt_of_le h1 hs, h2, fun hnh o => by rw [hk _ h1]; exact h3 hnh o⟩
theorem Inv.conv {C : Cx} {B : Base} {kn : Kn} {m : Mp} {σ : Sto} {nx : Nat} {w : World} (h : Inv C B kn m σ nx w) {p nm : Nat} {ob ob' : AObj} (hp : σ[p]? = some (nm, ob)) (hl : live ob' -> live ob) (ho : ObjRel C.P B kn m w nm ob') (hsk : X0D ob' = true -> X0D ob = true := by intro h; first | rfl | cases h) (hnh : X0K ob = true -> X0K ob' = true := by intro h; cases h) :
  Inv C B kn m (σ.set p (nm, ob')) nx w := by
 have get : ∀ (p' nm' : Nat) (o : AObj), (σ.set p (nm, ob'))[p']? = some (nm', o) -> ∃ o', σ[p']? = some (nm', o') /\ (live o -> live o') /\ (X0D o = true -> X0D o' = true) /\ (X0K o = false -> X0K o' = false) /\ (ObjRel C.P B kn m w nm' o' -> ObjRel C.P B kn m w nm' o) := fun p' nm' o e => by
  rw [List.getElem?_set] at e;split at e
  ·rename_i hpp;subst hpp;split at e
   ·cases e; exact ⟨ob, hp, hl, hsk, (fun h => by cases hx : X0K ob with | false => rfl | true => rw [hnh hx] at h; cases h), fun _ => ho⟩
   cases e
  exact ⟨o, e, id, id, id, id⟩
 refine ⟨h.knok, h.size, h.os, h.tape, h.output, h.old, fun p' nm' o e => ?_, fun p' nm' o loc e l g => ?_, fun p1 n1 o1 l1 p2 n2 o2 l2 e1 e2 v1 v2 => ?_, h.dom, fun p' nm' o e => ?_, fun p1 p2 n1 o1 o2 e1 e2 => ?_, fun p1 p2 n1 n2 o1 o2 e1 e2 s1 s2 => ?_, h.glob, h.tab⟩
 ·obtain ⟨o', a, b, _, _, c⟩ := get p' nm' o e; exact c (h.obj _ _ _ a)
 ·obtain ⟨o', a, b, _, c, _⟩ := get p' nm' o e;exact fun hn => ⟨(h.own _ _ _ _ a (b l) g hn).1, (h.own _ _ _ _ a (b l) g hn).2.1, fun hh => (h.own _ _ _ _ a (b l) g hn).2.2 (c hh)⟩
 ·obtain ⟨o1', a1, b1, _⟩ := get p1 n1 o1 e1;obtain ⟨o2', a2, b2, _⟩ := get p2 n2 o2 e2;exact h.dist _ _ _ _ _ _ _ _ a1 a2 (b1 v1) (b2 v2)
 ·obtain ⟨o', a, b, c⟩ := get p' nm' o e; exact h.lt _ _ _ a
 ·obtain ⟨o1', a1, _⟩ := get p1 n1 o1 e1;obtain ⟨o2', a2, _⟩ := get p2 n1 o2 e2;exact h.uniq _ _ _ _ _ a1 a2
 obtain ⟨o1', a1, _, b1, _⟩ := get p1 n1 o1 e1;obtain ⟨o2', a2, _, b2, _⟩ := get p2 n2 o2 e2;exact h.stk1 _ _ _ _ _ _ a1 a2 (b1 s1) (b2 s2)
def X7j (kn : Kn) (b : Nat) (arr : Array Value) : Kn := fun b' o => if b' = b then arr[o]? else kn b' o
theorem Y7t (kn : Kn) (b : Nat) (arr : Array Value) (o : Nat) : X7j kn b arr b o = arr[o]? := by simp [X7j]
theorem Inv.box {C : Cx} {B : Base} {kn : Kn} {m : Mp} {σ : Sto} {nx : Nat} {w : World} (h : Inv C B kn m σ nx w) (arr : Array Value) (T : TypeId) :
  KnLe kn (X7j kn w.heap.size arr) /\ Inv C B (X7j kn w.heap.size arr) m σ nx (w.alloc (.cells arr T)) := by
 refine h.grow (by simp) rfl rfl rfl (fun b hb => Below.heap_alloc _ _ _ hb) (fun b hb => ?_) (fun b o v hb e => ?_)
 ·funext o; simp [X7j, Nat.ne_of_lt hb]
 unfold X7j at e;split at e
 ·rename_i hbb; subst hbb; simp [e]
 exact absurd (h.kn_lt e) (by omega)
theorem Inv.drew {C : Cx} {B : Base} {kn : Kn} {m : Mp} {σ : Sto} {nx : Nat} {w : World} (h : Inv C B kn m σ nx w) : Inv C B kn m σ nx w.drew :=
 (h.grow (kn' := kn) (w' := w.drew) (Nat.le_refl _) rfl rfl rfl (fun _ _ => rfl) (fun _ _ => rfl) (fun b o v hb e => absurd (h.kn_lt e) (by omega))).2
theorem X1R {kn : Kn} {m : Mp} {e : E} {l : List e.den} {v : Value} : Rel kn m (.tvec e l) v ↔ Rel kn m (.vec e.size (l.map e.row)) v := ⟨fun h => (by cases h; assumption), .tvec e l v⟩
theorem RelL.cons_iff {kn : Kn} {m : Mp} {c : AV} {cs : List AV} {vs : List Value} : RelL kn m (c :: cs) vs ↔ ∃ v us, vs = v :: us /\ Rel kn m c v /\ RelL kn m cs us :=
 ⟨fun h => h.uncons, fun ⟨v, us, e, h1, h2⟩ => e ▸ .cons h1 h2⟩
theorem RelL.append_iff {kn : Kn} {m : Mp} {cs ds : List AV} {vs : List Value} : RelL kn m (cs ++ ds) vs ↔ ∃ us ws, vs = us ++ ws /\ RelL kn m cs us /\ RelL kn m ds ws := by
 constructor
 ·intro h;refine ⟨vs.take cs.length, vs.drop cs.length, (List.take_append_drop _ _).symm, ?_, ?_⟩
  ·have := h.take cs.length; simpa using this
  have := h.drop cs.length; simpa using this
 rintro ⟨us, ws, rfl, h1, h2⟩; exact h1.append h2
theorem RelL.last {kn : Kn} {m : Mp} {c c' : AV} {vs : List Value} (h : ∀ v, Rel kn m c v ↔ Rel kn m c' v) : RelL kn m [c] vs ↔ RelL kn m [c'] vs := by
 rw [RelL.cons_iff, RelL.cons_iff]; simp only [h]
theorem RelL.cons' {kn : Kn} {m : Mp} {c : AV} {cs ds : List AV} {vs : List Value} (h : ∀ us, RelL kn m cs us ↔ RelL kn m ds us) : RelL kn m (c :: cs) vs ↔ RelL kn m (c :: ds) vs := by
 rw [RelL.cons_iff, RelL.cons_iff]; simp only [h]
theorem E.rel_cells {kn : Kn} {m : Mp} : ∀ (e : E) (x : e.den) (vs : List Value), RelL kn m (e.cells x) vs ↔ RelL kn m (e.row x) vs
 | .int _, _, _ => Iff.rfl
 | .bool, _, _ => Iff.rfl
 | .str, _, _ => Iff.rfl
 | .erri, _, _ => Iff.rfl
 | .form, .mk k n t l, vs => by
  simp only [E.cells, E.row, Fm.row, Fm.k, Fm.n, Fm.t, Fm.l, Fm.rows_map];exact RelL.cons' fun _ => (RelL.cons' fun _ => (RelL.cons' fun _ => (RelL.last fun v => X1R (e := .form) (l := l))))
 | .un, _, _ => Iff.rfl
 | .pr a b, (x, y), vs => by
  show RelL kn m (a.cells x ++ b.cells y) vs ↔ RelL kn m (a.row x ++ b.row y) vs;rw [RelL.append_iff, RelL.append_iff];simp only [E.rel_cells a x, E.rel_cells b y]
 | .slice e, l, vs => by
  exact RelL.last fun v => X1R (e := e) (l := l)
theorem X9F {kn : Kn} {m : Mp} {cs ds : List AV} {v : Value} (h : Rel kn m (.rptr cs) v) (hl : ds.length = cs.length) (hc : ∀ vs, RelL kn m cs vs -> RelL kn m ds vs) : Rel kn m (.rptr ds) v := by
 cases h with
 | rptr _ b o vals hk hr h1 =>
  have hget : ∀ j, j < cs.length -> ((List.range cs.length).map vals)[j]? = some (vals j) := fun j hj => by simp [hj]
  have hrl := hc ((List.range cs.length).map vals) ⟨by simp, fun i x v a b => by
   have hi := (List.getElem?_eq_some_iff.1 a).1;rw [hget i hi] at b; cases b; exact hr i x a⟩
  have hlt : ∀ j x, ds[j]? = some x -> ∃ y, cs[j]? = some y := fun j x e => by
   have hj := (List.getElem?_eq_some_iff.1 e).1;exact ⟨cs[j]'(by omega), List.getElem?_eq_getElem (by omega)⟩
  refine .rptr ds b o vals (fun j x e => ?_) (fun j x e => ?_) (fun j x e => ?_)
  ·obtain ⟨y, hy⟩ := hlt j x e; exact hk j y hy
  ·exact hrl.2 j x _ e (hget j (by have := (List.getElem?_eq_some_iff.1 e).1; omega))
  obtain ⟨y, hy⟩ := hlt j x e; exact h1 j y hy
theorem Fm.row_len : ∀ f : Fm, f.row.length = 4
 | .mk _ _ _ _ => rfl
theorem E.row_len : ∀ (e : E) (x : e.den), (e.row x).length = e.size
 | .int _, _ => rfl
 | .bool, _ => rfl
 | .str, _ => rfl
 | .erri, _ => rfl
 | .form, f => Fm.row_len f
 | .un, _ => rfl
 | .pr a b, (x, y) => (by show (a.row x ++ b.row y).length = _; rw [List.length_append, E.row_len a x, E.row_len b y]; rfl)
 | .slice _, _ => rfl
theorem E.cells_len : ∀ (e : E) (x : e.den), (e.cells x).length = e.size
 | .int _, _ => rfl
 | .bool, _ => rfl
 | .str, _ => rfl
 | .erri, _ => rfl
 | .form, f => rfl
 | .un, _ => rfl
 | .pr a b, x => (by show (a.cells x.1 ++ b.cells x.2).length = _; rw [List.length_append, E.cells_len a x.1, E.cells_len b x.2]; rfl)
 | .slice _, _ => rfl
def aggD : TypeDesc -> Bool
 | .struct _ | .array _ _ => true
 | _ => false
def aggT (P : Program) (t : TypeId) : Option Bool := (P.underlying t).map aggD
def szT (P : Program) (t : TypeId) : Option Nat := (P.info? t).map (·.size)
def fldT (P : Program) (s f : Nat) : Option (Nat × Nat × Bool) :=
 match P.underlying s with
 | some (.struct fs) => match fs[f]? with
  | some x => match szT P x.type, aggT P x.type with
   | some n, some a => some (x.offset, n, a)
   | _, _ => none
  | none => none
 | _ => none
def elmT (P : Program) (t : TypeId) : Option (Nat × Nat × Nat) :=
 match P.underlying t with
 | some (.slice e) => match P.info? e with
  | some i => some (e, i.size, i.bytes)
  | none => none
 | _ => none
def arrT (P : Program) (t : TypeId) : Option (Nat × Nat × Nat) :=
 match P.underlying t with
 | some (.array n e) => match szT P e with
  | some s => some (n, e, s)
  | none => none
 | _ => none
def strT (P : Program) (t : TypeId) : Bool := match P.underlying t with | some .string => true | _ => false
def intT (P : Program) (t : TypeId) : Option IntKind := match P.underlying t with | some (.int k) => some k | _ => none
def slcT (P : Program) (t : TypeId) : Bool := match P.underlying t with | some (.slice _) => true | _ => false
def conT (P : Program) (t : TypeId) : Bool := match P.underlying t with | some (.interface _) => false | none => false | _ => true
def undT (P : Program) (t : TypeId) : Bool := (P.underlying t).isSome
def bldT (P : Program) (t : TypeId) : Option (List (Nat × Nat)) :=
 match P.underlying t with
 | some (.struct fs) => fs.toList.mapM fun x => (szT P x.type).map fun n => (x.offset, n)
 | some (.array n e) => (szT P e).map fun s => (List.range n).map fun i => (i * s, s)
 | _ => none
def opv (C : Cx) (env : Nat -> AV) : Operand -> AV
 | .tmp t => env t
 | .const v => X11 v
 | .global g => C.gl g
 | .func f => .fn (.func f) [] []
structure RelEnv (kn : Kn) (m : Mp) (env : Nat -> AV) (n : Nat) (act : Act) : Prop where
 size : act.tmps.size = n
 tmp : ∀ t, Rel kn m (env t) (act.tmps.getD t undef)
theorem RelEnv.mono {kn kn' : Kn} {m m' : Mp} {env : Nat -> AV} {n : Nat} {act : Act} (h : RelEnv kn m env n act) (hk : KnLe kn kn') (hm : MpLe m m') : RelEnv kn' m' env n act :=
 ⟨h.size, fun t => (h.tmp t).mono hk hm⟩
def upd (env : Nat -> AV) (d : Nat) (v : AV) : Nat -> AV := fun t => if t = d then v else env t
def updo (env : Nat -> AV) : Option Nat -> AV -> Nat -> AV
 | some d, v => upd env d v
 | none, _ => env
theorem RelEnv.put {kn : Kn} {m : Mp} {env : Nat -> AV} {n : Nat} {act : Act} (h : RelEnv kn m env n act) (dst : Option Tmp) (hd : ∀ d, dst = some d -> d < n) {x : AV} {v : Value} (hv : Rel kn m x v) :
  RelEnv kn m (updo env dst x) n (act.put dst v) := by
 cases dst with
 | none => exact h
 | some d =>
  have hdn : @LT.lt Nat _ d n := hd d rfl;refine ⟨by simp [Act.put, h.size], fun t => ?_⟩;simp only [updo, upd, Act.put]
  by_cases e : t = d
  ·subst e;have : t < act.tmps.size := by rw [h.size]; exact hdn
   simp [this]; exact hv
  rw [if_neg e];have := h.tmp t;simpa [Array.getElem?_setIfInBounds_ne (Ne.symm e)] using this
theorem X0o {C : Cx} {B : Base} {kn : Kn} {m : Mp} {σ : Sto} {nx : Nat} {w : World} {env : Nat -> AV} {n : Nat} {act : Act} (hI : Inv C B kn m σ nx w) (h : RelEnv kn m env n act) (x : Operand) : Rel kn m (opv C env x) (act.eval x) := by
 cases x with
 | tmp t => exact h.tmp t
 | const v => exact X4k kn m v
 | global g => exact hI.glob g
 | func f => exact .fn _ [] [] #[] #[] rfl rfl (fun i x v a => by simp at a) (fun i x v a => by simp at a)
def sget (σ : Sto) (pos nm : Nat) : Option AObj :=
 match σ[pos]? with
 | some (n, o) => if n = nm then some o else none
 | none => none
theorem X0j {σ : Sto} {pos nm : Nat} {o : AObj} (h : sget σ pos nm = some o) : σ[pos]? = some (nm, o) := by
 unfold sget at h;split at h
 ·rename_i n o' e;split at h
  ·rename_i hn; subst hn; cases h; exact e
  cases h
 cases h
def X5m (P : Program) (T : TypeId) (cs : List AV) : Option AV :=
 match aggT P T, szT P T with
 | some true, some n => if n <= cs.length then some (.agg (cs.take n)) else none
 | some false, _ => cs.head?
 | _, _ => none
def X1K (P : Program) (T : TypeId) (σ : Sto) : AV -> Option AV
 | .rptr cs => X5m P T cs
 | .ref p n off => match sget σ p n with
  | some (.cells _ cs) => X5m P T (cs.drop off)
  | _ => none
 | .eref p n i off => match sget σ p n with
  | some (.gvec _ _ rows) => match rows[i]? with
   | some row => X5m P T (row.drop off)
   | none => none
  | some (.tg e _ l) => if i < l.length then X5m P T ((e.cells (l.getD i e.dflt)).drop off) else none
  | some (.stk e _ l .no) => if i < l.length then X5m P T ([AV.tvec e (l.getD i [])].drop off) else none
  | _ => none
 | _ => none
theorem X2F (b o n : Nat) : (⟨b, o, none⟩ : Addr).add n = ⟨b, o + n, none⟩ := Addr.add_lit b o n
theorem X3g {P : Program} {T : TypeId} {kn : Kn} {m : Mp} {cs : List AV} {x : AV} (h : X5m P T cs = some x) (w : World) (b o : Nat)
  (hc : ∀ (j : Nat) (y : AV), cs[j]? = some y -> ∃ v, w.cell? ⟨b, o + j, none⟩ = some v /\ Rel kn m y v /\ v.oneCell' = true) :
  ∃ v, (loadVar T ⟨b, o, none⟩).run P w = .ok v w /\ Rel kn m x v := by
 unfold X5m aggT szT at h;cases hu : P.underlying T with
 | none => simp [hu] at h
 | some d =>
  have hagg : (isAgg T).run P w = .ok (aggD d) w := by
   unfold isAgg;rw [Sem.run_bind, run_underlying hu w];cases d <;> rfl
  simp only [hu, Option.map_some] at h;cases ha : aggD d with
  | true =>
   simp only [ha] at h hagg;cases hi : P.info? T with
   | none => simp [hi] at h
   | some i =>
    simp only [hi, Option.map_some] at h;split at h
    ·rename_i hle;cases h;have hcs : ∃ vs : List Value, vs.length = i.size /\ ∀ j v, vs[j]? = some v -> w.cell? ⟨b, o + j, none⟩ = some v /\ (∀ y, (cs.take i.size)[j]? = some y -> Rel kn m y v) /\ v.oneCell' = true := by
      refine ⟨(List.range i.size).map fun j => (w.cell? ⟨b, o + j, none⟩).getD undef, by simp, fun j v hj => ?_⟩;rw [List.getElem?_map] at hj;cases hr : (List.range i.size)[j]? with
      | none => simp [hr] at hj
      | some j' =>
       have hjl : j < i.size := by
        have := List.getElem?_eq_some_iff.1 hr;obtain ⟨hl, _⟩ := this;simpa using hl
       have hjj : j' = j := by
        rw [List.getElem?_range hjl] at hr; cases hr; rfl
       subst hjj;simp only [hr, Option.map_some, Option.some.injEq] at hj;have hlt : j' < cs.length := by omega
       obtain ⟨v', hv', hr', ho'⟩ := hc j' cs[j'] (List.getElem?_eq_getElem hlt);rw [hv'] at hj;simp at hj;subst hj;refine ⟨hv', fun y hy => ?_, ho'⟩;rw [List.getElem?_take, if_pos hjl, List.getElem?_eq_getElem hlt] at hy;cases hy;exact hr'
     obtain ⟨vs, hvl, hvs⟩ := hcs;have hl := run_loadCells_list (P := P) w ⟨b, o, none⟩ vs (fun j v hj => by rw [X2F]; exact (hvs j v hj).1);refine ⟨.agg vs.toArray, ?_, .agg _ _ (by simp [hvl, hle]) (fun j y v hy hv => ?_) (fun j v hv => (hvs j v (by simpa using hv)).2.2)⟩
     ·rw [hvl] at hl;simp [loadVar, hagg, sizeOf, typeInfo, hi, hl]
     have hv' : vs[j]? = some v := by simpa using hv
     exact (hvs j v hv').2.1 y hy
    cases h
  | false =>
   simp only [ha] at h hagg;have hh : cs[0]? = some x := by cases cs <;> simp_all
   obtain ⟨v, hv, hr, _⟩ := hc 0 x hh;refine ⟨v, ?_, hr⟩;simp [loadVar, hagg];simp only [Nat.add_zero] at hv;simp [hv]
theorem GvRel.row {kn : Kn} {m : Mp} {w : World} {nm esz : Nat} {ety : TypeId} {rows : List (List AV)} (h : GvRel kn m w nm esz ety rows) {loc : Loc} (hm : m nm = some loc) {i : Nat} {row : List AV} (hrow : rows[i]? = some row) :
  ∃ (b o : Nat) (vs : List Value), vs.length = esz /\ RelL kn m row vs /\ row.length = esz /\ (∀ (cs : List AV), RelL kn m cs vs -> ∀ (off j : Nat) (y : AV), (cs.drop off)[j]? = some y -> ∃ v, w.cell? ⟨loc.blk, loc.off + i * loc.esz + off + j, none⟩ = some v /\ Rel kn m y v /\ v.oneCell' = true) /\ ∀ v ∈ vs, v.oneCell' = true := by
 obtain ⟨loc', hm', hll, h⟩ := h;rw [hm] at hm'; cases hm';rcases h with ⟨-, rfl⟩ | ⟨hnl, he, arr, hw, hsz, hle, hmx, hone, hrl, hrr⟩
 ·simp at hrow
 subst he;have hir : i < rows.length := (List.getElem?_eq_some_iff.1 hrow).1;have hin : ∀ k, k < loc.esz -> loc.off + i * loc.esz + k < arr.size := fun k hk => by
  have : i * loc.esz + loc.esz <= loc.cap * loc.esz := by
   rw [<- Nat.succ_mul]; exact Nat.mul_le_mul_right _ (by omega)
  omega
 have hget : ∀ k, k < loc.esz -> ((List.range loc.esz).map fun k => arr.getD (loc.off + i * loc.esz + k) undef)[k]? = some (arr.getD (loc.off + i * loc.esz + k) undef) := fun k hk => by simp [hk]
 have hgetD : ∀ k (hk : k < loc.esz), arr.getD (loc.off + i * loc.esz + k) undef = arr[loc.off + i * loc.esz + k]'(hin k hk) := fun k hk => by simp [Array.getD, hin k hk]
 have hrowl := hrl i row hrow;refine ⟨0, 0, (List.range loc.esz).map fun k => arr.getD (loc.off + i * loc.esz + k) undef, by simp, ⟨by simp [hrowl], fun k x v a b => ?_⟩, hrowl, fun cs hcs off j y hy => ?_, fun v hv => ?_⟩
 ·have hk : k < loc.esz := by rw [<- hrowl]; exact (List.getElem?_eq_some_iff.1 a).1
  rw [hget k hk] at b; cases b;rw [hgetD k hk];exact hrr i row k x _ hrow a (by simp [hin k hk])
 ·rw [List.getElem?_drop] at hy;have hk : off + j < loc.esz := by have := (List.getElem?_eq_some_iff.1 hy).1; have h2 := hcs.1; simp at h2; omega
  refine ⟨_, ?_, hcs.2 _ y _ hy (hget _ hk), ?_⟩
  ·rw [hgetD _ hk]; simp only [World.cell?, hw]; rw [Nat.add_assoc (loc.off + i * loc.esz)]; simp [hin _ hk]
  rw [hgetD _ hk]; exact hone _ (by simp)
 simp only [List.mem_map, List.mem_range] at hv;obtain ⟨k, hk, rfl⟩ := hv;rw [hgetD k hk]; exact hone _ (by simp)
theorem RowV.rel {B : Base} {kn : Kn} {w : World} {e : E} {l : List e.den} {v : Value} (h : RowV B kn w e l v) (m : Mp) : Rel kn m (.tvec e l) v := by
 rcases h with ⟨rfl, rfl⟩ | ⟨hl, hs, b, o, cap, arr, ty, rfl, h2, h3, h4, h5, h5', h6, h7, h8, h9⟩
 ·exact .tvec _ _ _ (.vecNone _)
 refine .tvec _ _ _ ?_;have hin : ∀ (i : Nat) (row : List AV) (j : Nat) (x : AV), (l.map e.row)[i]? = some row -> row[j]? = some x -> o + i * e.size + j < arr.size := fun i row j x a c => by
  have hi : i < l.length := by have := (List.getElem?_eq_some_iff.1 a).1; simpa using this
  have hj : j < e.size := by
   rw [List.getElem?_map] at a;cases hx : l[i]? with
   | none => simp [hx] at a
   | some y => simp [hx] at a; subst a; have := (List.getElem?_eq_some_iff.1 c).1; rwa [E.row_len] at this
  have : (i + 1) * e.size <= cap * e.size := Nat.mul_le_mul_right _ (by omega);rw [Nat.succ_mul] at this;omega
 have := Rel.vec (kn := kn) (m := m) e.size (l.map e.row) b o cap (fun i j => arr.getD (o + i * e.size + j) undef) (by simpa using h4) (by simpa using h5') (fun i row a => by
   rw [List.getElem?_map] at a;cases hx : l[i]? with
   | none => simp [hx] at a
   | some y => simp [hx] at a; subst a; exact E.row_len _ _)
  (fun i row j x a c => by have hlt := hin i row j x a c; have := (h7 i row j x arr[o + i * e.size + j] a c (by simp [hlt])).2; simpa [hlt] using this)
  (fun i row j x a c => by have hlt := hin i row j x a c; have := (h7 i row j x arr[o + i * e.size + j] a c (by simp [hlt])).1 m; simpa [hlt] using this)
  (fun i row j x a c => by have hlt := hin i row j x a c; have := h6 arr[o + i * e.size + j] (by simp); simpa [hlt] using this)
 simpa using this
theorem Y3J {C : Cx} {B : Base} {kn : Kn} {m : Mp} {σ : Sto} {nx : Nat} {w : World} (hI : Inv C B kn m σ nx w) {T : TypeId} {a x : AV} {v : Value} (h : X1K C.P T σ a = some x) (ha : Rel kn m a v) :
  ∃ u, (Instr.loadAt T v).run C.P w = .ok u w /\ Rel kn m x u := by
 cases ha with
 | rptr cs b o vals hk hr ho =>
  simp only [X1K] at h;obtain ⟨u, h1, h2⟩ := X3g (kn := kn) (m := m) h w b o (fun j y hy => ⟨vals j, hI.knok _ _ _ (hk j y hy), hr j y hy, ho j y hy⟩);exact ⟨u, by simp [Instr.loadAt, Instr.sureAddr, h1], h2⟩
 | ref p n off loc hm =>
  simp only [X1K] at h;cases hs : sget σ p n with
  | none => simp [hs] at h
  | some ob =>
   cases ob with
   | cells T' cs =>
    simp only [hs] at h;have hob := hI.obj _ _ _ (X0j hs);simp only [ObjRel, hm] at hob;obtain ⟨-, h0, arr, hw, hrl⟩ := hob;obtain ⟨u, h1, h2⟩ := X3g (kn := kn) (m := m) h w loc.blk (loc.off + off) (fun j y hy => by
     rw [List.getElem?_drop] at hy;have hlt : off + j < cs.length := (List.getElem?_eq_some_iff.1 hy).1;have hlt' : off + j < arr.toList.length := by rw [<- hrl.1.1]; exact hlt
     refine ⟨arr.toList[off + j], ?_, hrl.1.2 _ _ _ hy (List.getElem?_eq_getElem hlt'), hrl.2 _ (List.getElem_mem hlt')⟩;have hlt'' : off + j < arr.size := by simpa using hlt'
     simp [World.cell?, hw, h0, hlt''])
    exact ⟨u, by simp [Instr.loadAt, Instr.sureAddr, h1], h2⟩
   | _ => simp [hs] at h
 | eref p n i off loc hm =>
  simp only [X1K] at h;cases hs : sget σ p n with
  | none => simp [hs] at h
  | some ob =>
   cases ob with
   | gvec esz ety rows =>
    simp only [hs] at h;cases hrow : rows[i]? with
    | none => simp [hrow] at h
    | some row =>
     simp only [hrow] at h;have hob := hI.obj _ _ _ (X0j hs);obtain ⟨b, o, vs, hv, hvs, hlen, hcell, hone⟩ := hob.row hm hrow;obtain ⟨u, h1, h2⟩ := X3g (kn := kn) (m := m) h w loc.blk (loc.off + i * loc.esz + off) (fun j y hy => hcell _ hvs off j y hy);exact ⟨u, by simp [Instr.loadAt, Instr.sureAddr, h1], h2⟩
   | tg e ety l =>
    simp only [hs] at h;split at h
    ·rename_i hil;have hob := hI.obj _ _ _ (X0j hs);obtain ⟨b, o, vs, hv, hvs, hlen, hcell, hone⟩ := GvRel.row hob hm (i := i) (row := e.row (l.getD i e.dflt)) (by simp [hil]);obtain ⟨u, h1, h2⟩ := X3g (kn := kn) (m := m) h w loc.blk (loc.off + i * loc.esz + off) (fun j y hy => hcell _ ((E.rel_cells e _ vs).2 hvs) off j y hy);exact ⟨u, by simp [Instr.loadAt, Instr.sureAddr, h1], h2⟩
    cases h
   | stk e ety l k =>
    cases k with
    | no =>
     simp only [hs] at h;split at h
     ·rename_i hil;have hob := hI.obj _ _ _ (X0j hs);obtain ⟨rv, hgv, hlen, hrows, _, _⟩ := hob;have hrl : i < rv.length := by rw [hlen]; exact hil
      obtain ⟨b, o, vs, hv, hvs, hlen', hcell, hone⟩ := GvRel.row hgv hm (i := i) (row := [AV.base (rv[i]'hrl)]) (by simp [X0C, hrl]);have hrv := hrows i (l.getD i []) (rv[i]'hrl) rfl (by simp [hil]) (List.getElem?_eq_getElem hrl);have hcs : RelL kn m [AV.tvec e (l.getD i [])] vs := by
       obtain ⟨v', vs', rfl, h1, h2⟩ := hvs.uncons;have : vs' = [] := List.eq_nil_of_length_eq_zero (by have := h2.1; simpa using this.symm);subst this;cases h1;exact .cons (hrv.rel m) (.nil _ _)
      obtain ⟨u, h1, h2⟩ := X3g (kn := kn) (m := m) h w loc.blk (loc.off + i * loc.esz + off) (fun j y hy => hcell _ hcs off j y hy);exact ⟨u, by simp [Instr.loadAt, Instr.sureAddr, h1], h2⟩
     cases h
    | _ => simp [hs] at h
   | _ => simp [hs] at h
 | _ => simp [X1K] at h
def X0O : AV -> Option (List AV)
 | .any => none
 | .tup _ => none
 | .agg cs => some cs
 | .base (.agg vs) => if vs.toList.all (·.oneCell') = true then some (vs.toList.map X11) else none
 | .base v => if v.oneCell' = true then some [.base v] else none
 | x => some [x]
def oneA : AV -> Bool
 | .any => false
 | .tup _ => false
 | .agg _ => false
 | .base v => v.oneCell'
 | _ => true
theorem Rel.one {kn : Kn} {m : Mp} {x : AV} {v : Value} (h : Rel kn m x v) (ho : oneA x = true) : v.oneCell' = true := by
 have hv : ∀ esz rows, Rel kn m (.vec esz rows) v -> v.oneCell' = true := fun esz rows h => by cases h <;> rfl
 have hs : ∀ p n e o l, Rel kn m (.sref p n e o l) v -> v.oneCell' = true := fun p n e o l h => by cases h <;> rfl
 cases h with
 | tvec e l _ h => exact hv _ _ h
 | gs p n e len _ loc h1 h2 h => exact hs _ _ _ _ _ h
 | gvS p n e o len _ h => exact hs _ _ _ _ _ h
 | _ => simp_all [oneA, Value.oneCell']
theorem Y2X {v : Value} (h : v.oneCell' = true) : v.cells = #[v] := by cases v <;> simp_all [Value.oneCell', Value.cells]
theorem Rel.cells {kn : Kn} {m : Mp} {x : AV} {v : Value} {cs : List AV} (h : Rel kn m x v) (hc : X0O x = some cs) : RelC kn m cs v.cells.toList := by
 have single : oneA x = true -> cs = [x] -> RelC kn m cs v.cells.toList := fun ho e => by
  subst e;rw [Y2X (h.one ho)];exact ⟨.cons h (.nil _ _), fun u hu => by simp at hu; subst hu; exact h.one ho⟩
 cases h with
 | any v => simp [X0O] at hc
 | tup => simp [X0O] at hc
 | agg cs' vs hl h h1 =>
  simp only [X0O, Option.some.injEq] at hc;subst hc;refine ⟨⟨by simpa [Value.cells] using hl, fun i x v a b => h i x v a (by simpa [Value.cells] using b)⟩, fun u hu => ?_⟩;obtain ⟨i, hi⟩ := List.mem_iff_getElem?.1 hu;exact h1 i u (by simpa [Value.cells] using hi)
 | base v =>
  have base : (if v.oneCell' = true then some [AV.base v] else none) = some cs -> RelC kn m cs v.cells.toList := fun hc => by
   split at hc
   ·rename_i ho; cases hc; exact single ho rfl
   cases hc
  cases v with
  | agg vs =>
   simp only [X0O] at hc;split at hc
   ·rename_i ho;cases hc;refine ⟨⟨by simp [Value.cells], fun i x u a b => ?_⟩, fun u hu => List.all_eq_true.1 ho u (by simpa [Value.cells] using hu)⟩;simp only [Value.cells] at b;rw [List.getElem?_map, b] at a;cases a;exact X4k kn m u
   cases hc
  | _ => exact base hc
 | _ => simp only [X0O, Option.some.injEq] at hc; exact single rfl hc.symm
def Y3a (place : Nat -> Option (Nat × Nat)) (cells : List AV) : List (Nat × AV) -> Option (List AV)
 | [] => some cells
 | (i, x) :: rest => match place i, X0O x with
  | some (off, size), some cs => if cs.length = size /\ off + cs.length <= cells.length then Y3a place (cells.take off ++ (cs ++ cells.drop (off + cs.length))) rest else none
  | _, _ => none
theorem Y3x (cells new : List Value) (off : Nat) (h : off + new.length <= cells.length) :
  (new.toArray.zipIdx.foldl (fun cs (p : Value × Nat) => cs.setIfInBounds (off + p.2) p.1) cells.toArray).toList = cells.take off ++ (new ++ cells.drop (off + new.length)) := by
 have key : ∀ (new : List Value) (k : Nat) (cells : List Value), off + k + new.length <= cells.length ->
   ((new.zipIdx k).foldl (fun (cs : Array Value) (p : Value × Nat) => cs.setIfInBounds (off + p.2) p.1) cells.toArray).toList = cells.take (off + k) ++ (new ++ cells.drop (off + k + new.length)) := by
  intro new
  induction new with
  | nil => intro k cells h; simp
  | cons v rest ih =>
   intro k cells h;simp only [List.zipIdx_cons, List.foldl_cons, List.length_cons] at h ⊢;have e : (cells.toArray.setIfInBounds (off + k) v) = (cells.set (off + k) v).toArray := by simp
   rw [e, ih (k + 1) (cells.set (off + k) v) (by simp; omega)];have h1 : (cells.set (off + k) v).take (off + (k + 1)) = cells.take (off + k) ++ [v] := by
    rw [show off + (k + 1) = (off + k) + 1 by omega, List.take_succ_eq_append_getElem (by simp; omega)]
    congr 1
    ·rw [List.take_set_of_le]; omega
    simp
   have h2 : (cells.set (off + k) v).drop (off + (k + 1) + rest.length) = cells.drop (off + k + (rest.length + 1)) := by
    rw [List.drop_set_of_lt (by omega)]; congr 1; omega
   rw [h1, h2];simp
 have := key new 0 cells (by simpa using h);rw [<- Array.foldl_toList, Array.toList_zipIdx];simpa only [Nat.add_zero] using this
theorem Y0e {kn : Kn} {m : Mp} (place : Nat -> Option (Nat × Nat)) : ∀ (parts : List (Nat × AV)) (parts' : List (Nat × Value)) (cells out : List AV) (cells' : List Value), Y3a place cells parts = some out ->
  parts.length = parts'.length -> (∀ (i : Nat) (p : Nat × AV) (p' : Nat × Value), parts[i]? = some p -> parts'[i]? = some p' -> p.1 = p'.1 /\ Rel kn m p.2 p'.2) -> RelC kn m cells cells' ->
  ∃ out', Instr.fill place cells'.toArray parts' = some out' /\ RelC kn m out out'.toList
 | [], parts', cells, out, cells', h, hl, hp, hc => by
  have : parts' = [] := List.eq_nil_of_length_eq_zero (by simpa using hl.symm);subst this;simp only [Y3a, Option.some.injEq] at h;subst h;exact ⟨cells'.toArray, rfl, by simpa using hc⟩
 | (i, x) :: rest, [], cells, out, cells', h, hl, hp, hc => by simp at hl
 | (i, x) :: rest, (i', v) :: rest', cells, out, cells', h, hl, hp, hc => by
  obtain ⟨e, hx⟩ := hp 0 _ _ rfl rfl;simp only at e hx;subst e;simp only [Y3a] at h;split at h
  ·rename_i off size cs hpl hcs;split at h
   ·rename_i hok;have hv := hx.cells hcs;have hcv : cs.length = v.cells.size := by simpa using hv.1.1
    have hcl : cells.length = cells'.length := hc.1.1;have hput := Y3x cells' v.cells.toList off (by rw [<- hv.1.1, <- hc.1.1]; exact hok.2);have hrl : RelC kn m (cells.take off ++ (cs ++ cells.drop (off + cs.length))) (v.cells.zipIdx.foldl (fun cs (c, j) => cs.setIfInBounds (off + j) c) cells'.toArray).toList := by
     have : (v.cells.zipIdx.foldl (fun cs (c, j) => cs.setIfInBounds (off + j) c) cells'.toArray).toList = cells'.take off ++ (v.cells.toList ++ cells'.drop (off + v.cells.toList.length)) := by
      simpa using hput
     rw [this, <- hv.1.1];exact (hc.take off).append (hv.append (hc.drop _))
    obtain ⟨out', h1, h2⟩ := Y0e place rest rest' _ out _ h (by simpa using hl) (fun j p p' a b => hp (j + 1) p p' (by simpa using a) (by simpa using b)) hrl;refine ⟨out', ?_, h2⟩;simp only [Instr.fill, hpl];rw [if_neg (by simp only [Bool.or_eq_true, decide_eq_true_eq, not_or, bne_iff_ne, ne_eq]; simp; omega)];simpa using h1
   cases h
  cases h
def X4o (sz : Nat) (rows : List (List AV)) : List (Nat × AV) -> Option (List (List AV))
 | [] => some rows
 | (i, x) :: rest => match X0O x with
  | some cs => if cs.length = sz /\ i < rows.length then X4o sz (rows.set i cs) rest else none
  | none => none
def X1L (op : BinOp) (k : IntKind) (x y : Int) : Option AV :=
 match op with
 | .add => some (.int k (k.wrap (x + y)))
 | .sub => some (.int k (k.wrap (x - y)))
 | .mul => some (.int k (k.wrap (x * y)))
 | .quo => if y = 0 then none else some (.int k (k.wrap (x.tdiv y)))
 | .rem => if y = 0 then none else some (.int k (x.tmod y))
 | .and => some (.int k (Go.bits .and k x y))
 | .or => some (.int k (Go.bits .or k x y))
 | .xor => some (.int k (Go.bits .xor k x y))
 | .andNot => some (.int k (Go.bits .andNot k x y))
 | .eql => some (.bool (decide (x = y)))
 | .neq => some (.bool (!decide (x = y)))
 | .lss => some (.bool (decide (x < y)))
 | .leq => some (.bool (decide (x <= y)))
 | .gtr => some (.bool (decide (x > y)))
 | .geq => some (.bool (decide (x >= y)))
 | _ => none
def X5f (op : BinOp) (x y : List UInt8) : Option AV :=
 match op with
 | .add => if x.length + y.length <= 9223372036854775807 then some (.str (x ++ y)) else none
 | .eql => some (.bool (decide (x = y)))
 | .neq => some (.bool (!decide (x = y)))
 | .lss => some (.bool (Op.bytesLess x y))
 | .leq => some (.bool (Op.bytesLess x y || decide (x = y)))
 | .gtr => some (.bool (!(Op.bytesLess x y || decide (x = y))))
 | .geq => some (.bool (!Op.bytesLess x y))
 | _ => none
def nilA : AV -> Option Bool
 | .base (.slice none 0 0) => some true
 | .base (.pointer none) => some true
 | .base (.map none) => some true
 | .base .nilFunc => some true
 | .base .nilIface => some true
 | .base (.slice (some _) _ _) => some false
 | .vec _ rows => if rows.isEmpty = true then none else some false
 | .tvec _ l => if l.isEmpty = true then none else some false
 | .gs _ _ _ len => if len = 0 then none else some false
 | .erri b => some b
 | .sref _ _ _ _ len => if len = 0 then none else some false
 | .rptr _ => some false
 | .ref _ _ _ => some false
 | .eref _ _ _ _ => some false
 | .mapr _ _ => some false
 | .fn _ _ _ => some false
 | .iface _ _ => some false
 | _ => none
def nilT : TypeDesc -> AV -> Bool
 | .slice _, .base (.slice none 0 0) | .slice _, .base (.slice (some _) _ _) | .slice _, .vec _ _ | .slice _, .sref _ _ _ _ _ | .slice _, .emp | .slice _, .tvec _ _ | .slice _, .gs _ _ _ _ => true
 | .pointer _, .base (.pointer none) | .pointer _, .rptr _ | .pointer _, .ref _ _ _ | .pointer _, .eref _ _ _ _ => true
 | .map _ _, .base (.map none) | .map _ _, .mapr _ _ => true
 | .func _ _ _, .base .nilFunc | .func _ _ _, .fn _ _ _ => true
 | .interface _, .base .nilIface | .interface _, .iface _ _ | .interface _, .erri _ => true
 | _, _ => false
def X27 : Operand -> Bool
 | .const (.slice none 0 0) | .const (.pointer none) | .const (.map none) | .const .nilFunc | .const .nilIface => true
 | _ => false
def X5n (P : Program) (t : TypeId) (x : AV) : Option Bool :=
 match P.underlying t with
 | some d => if nilT d x then nilA x else none
 | none => none
def Y1B (P : Program) (t : TypeId) : Bool := match P.underlying t with | some .bool => true | _ => false
def abin (C : Cx) (op : BinOp) (t : TypeId) (x y : Operand) (a b : AV) : Option AV :=
 match a, b with
 | .int k x, .int k' y => match op with
  | .shl => if 0 <= y /\ y <= k.bits then some (.int k (k.wrap (x * 2 ^ y.toNat))) else none
  | .shr => if 0 <= y /\ y <= k.bits then some (.int k (x / 2 ^ y.toNat)) else none
  | op => if k = k' then X1L op k x y else none
 | .str x, .str y => X5f op x y
 | .bool p, .bool q => if Y1B C.P t then (match op with
  | .eql => some (.bool (p == q))
  | .neq => some (.bool (!(p == q)))
  | _ => none) else none
 | a, b => if X27 y then (match op, X5n C.P t a, X5n C.P t b with
   | .eql, some r, some true => some (.bool r)
   | .neq, some r, some true => some (.bool (!r))
   | _, _, _ => none)
  else none
def aun (op : UnOp) (a : AV) : Option AV :=
 match op, a with
 | .neg, .int k n => some (.int k (k.wrap (0 - n)))
 | .not, .bool b => some (.bool !b)
 | _, _ => none
def bytT (P : Program) (t : TypeId) : Bool := match P.underlying t with
 | some (.slice e) => match P.underlying e with
  | some (.int .u8) => true
  | _ => false
 | _ => false
def X0f (l : List UInt8) : List Int := l.map fun b => (b.toNat : Int)
def strOf (l : List Int) : List UInt8 := l.map fun n => UInt8.ofNat n.toNat
def Y6x : List (List AV) -> Option (List Int)
 | [] => some []
 | [.int .u8 n] :: rest => (Y6x rest).map fun l => n :: l
 | _ => none
theorem X67 : ∀ (rows : List (List AV)) (l : List Int), Y6x rows = some l -> rows = List.map (E.row (.int .u8)) l
 | [], l, h => by cases h; rfl
 | [.int .u8 n] :: rest, l, h => by
  obtain ⟨l', h1, rfl⟩ := Option.map_eq_some_iff.1 (show (Y6x rest).map (fun l => n :: l) = some l from h);rw [X67 rest l' h1];rfl
def Y2P (P : Program) (src dst : TypeId) (a : AV) : Option AV :=
 match a with
 | .int _ n => match undT P src, intT P dst with
  | true, some k => some (.int k (k.wrap n))
  | _, _ => none
 | .str l => if strT P src /\ strT P dst then some (.str l) else if strT P src /\ bytT P dst /\ l.length <= 4611686018427387904 then some (.tvec (.int .u8) (X0f l)) else none
 | .tvec (.int .u8) l => if bytT P src /\ strT P dst then some (.str (strOf l)) else none
 | .vec esz rows => if esz = 1 /\ bytT P src /\ strT P dst then (Y6x rows).map fun l => .str (strOf l) else none
 | _ => none
def lenA (P : Program) (t : TypeId) (a : AV) : Option AV :=
 match a with
 | .str l => if strT P t then some (.int .i64 l.length) else none
 | .vec _ rows => if slcT P t then some (.int .i64 rows.length) else none
 | .tvec _ l => if slcT P t then some (.int .i64 l.length) else none
 | .gs _ _ _ n => if slcT P t then some (.int .i64 n) else none
 | .gv _ _ _ _ n => if slcT P t then some (.int .i64 n) else none
 | .sref _ _ _ _ n => if slcT P t then some (.int .i64 n) else none
 | .emp => if slcT P t then some (.int .i64 0) else none
 | .base (.slice none 0 0) => if slcT P t then some (.int .i64 0) else none
 | _ => none
def idxA (P : Program) (t : TypeId) (a i : AV) : Option AV :=
 match i with
 | .int _ n => match elmT P t with
  | some (_, sz, _) => match a with
   | .vec esz rows => if esz = sz /\ 0 <= n /\ n < rows.length then some (.rptr (rows.getD n.toNat [])) else none
   | .sref p nm esz off len => if esz = sz /\ 0 <= n /\ n < len then some (.eref p nm (off + n.toNat) 0) else none
   | .tvec e l => if e.size = sz /\ 0 <= n /\ n < l.length then some (.rptr (e.cells (l.getD n.toNat e.dflt))) else none
   | .gs p nm e len => if e.size = sz /\ 0 <= n /\ n < len then some (.eref p nm n.toNat 0) else none
   | .gv p nm e off len => if e.size = sz /\ 0 <= n /\ n < len then some (.eref p nm (off + n.toNat) 0) else none
   | _ => none
  | none => match arrT P t with
   | some (len, _, sz) => if 0 <= n /\ n < len then (match a with
    | .rptr cs => some (.rptr (cs.drop (n.toNat * sz)))
    | .ref p nm o => some (.ref p nm (o + n.toNat * sz))
    | .eref p nm i o => some (.eref p nm i (o + n.toNat * sz))
    | _ => none) else none
   | none => none
 | _ => none
def fadA (P : Program) (s f : Nat) (a : AV) : Option AV :=
 match fldT P s f with
 | some (off, sz, _) => if sz = 0 then none else match a with
  | .rptr cs => some (.rptr (cs.drop off))
  | .ref p nm o => some (.ref p nm (o + off))
  | .eref p nm i o => some (.eref p nm i (o + off))
  | _ => none
 | none => none
def Y6i (P : Program) (t f : Nat) (a : AV) : Option AV :=
 match fldT P t f, a with
 | some (off, sz, true), .agg cs => if off + sz <= cs.length then some (.agg ((cs.drop off).take sz)) else none
 | some (off, _, false), .agg cs => cs[off]?
 | _, _ => none
def X8I (P : Program) (t : TypeId) (a i : AV) : Option AV :=
 match a, i with
 | .str l, .int _ n => if strT P t /\ 0 <= n then (match l[n.toNat]? with
  | some b => some (.int .u8 b.toNat)
  | none => none) else none
 | _, _ => none
def bndA (len : Nat) (lo hi : Option AV) : Option (Int × Int) :=
 match lo, hi with
 | none, none => some (0, len)
 | some (.int _ l), none => some (l, len)
 | none, some (.int _ h) => some (0, h)
 | some (.int _ l), some (.int _ h) => some (l, h)
 | _, _ => none
def X4S : AV -> Bool
 | .vec _ _ => true
 | .sref _ _ _ _ _ => true
 | .base (.slice none 0 0) => true
 | _ => false
def empA : AV -> AV
 | .base v => .base v
 | _ => .emp
def X1I (P : Program) (t : TypeId) (a : AV) (lo hi mx : Option AV) : Option AV :=
 match a, mx with
 | .str s, none => if strT P t then (match bndA s.length lo hi with
  | some (l, h) => if 0 <= l /\ l <= h /\ h <= s.length then some (.str ((s.drop l.toNat).take (h.toNat - l.toNat))) else none
  | none => none) else none
 | .vec esz rows, none => (match elmT P t, bndA rows.length lo hi with
  | some (_, sz, _), some (l, h) => if esz = sz /\ 0 <= l /\ l <= h /\ h <= rows.length then some (.vec esz ((rows.drop l.toNat).take (h.toNat - l.toNat))) else none
  | _, _ => none)
 | .tvec e l, none => (match elmT P t, bndA l.length lo hi with
  | some (_, sz, _), some (l', h) => if e.size = sz /\ 0 <= l' /\ l' <= h /\ h <= l.length then some (.tvec e ((l.drop l'.toNat).take (h.toNat - l'.toNat))) else none
  | _, _ => none)
 | .sref p nm esz off len, none => (match elmT P t, bndA len lo hi with
  | some (_, sz, _), some (l, h) => if esz = sz /\ 0 <= l /\ l <= h /\ h <= len then (if l = 0 \/ l < h then some (.sref p nm esz (off + l.toNat) (h.toNat - l.toNat)) else some (.vec esz [])) else none
  | _, _ => none)
 | .gs p nm e len, none => (match elmT P t, bndA len lo hi with
  | some (_, sz, _), some (l, h) => if e.size = sz /\ 0 <= l /\ l <= h /\ h <= len then some (.gv p nm e l.toNat (h.toNat - l.toNat)) else none
  | _, _ => none)
 | .base (.slice none 0 0), none => (match elmT P t, bndA 0 lo hi with
  | some _, some (l, h) => if l = 0 /\ h = 0 then some (.base (.slice none 0 0)) else none
  | _, _ => none)
 | a, some (.int _ k) => (match elmT P t, bndA 0 lo hi with
  | some _, some (l, h) => if hi.isSome = true /\ k = 0 /\ l = 0 /\ h = 0 /\ X4S a = true then some (empA a) else none
  | _, _ => none)
 | _, _ => none
def extA (a : AV) (i : Nat) : Option AV :=
 match a with
 | .tup vs => vs[i]?
 | _ => none
def Y6p : AV -> Option AV
 | .rptr cs => some (.rptr cs)
 | .ref p n o => some (.ref p n o)
 | .eref p n i o => some (.eref p n i o)
 | .fn (.func g) a b => some (.fn (.func g) a b)
 | _ => none
def assertA (P : Program) (a : AV) (as_ : TypeId) (ok : Bool) : Option AV :=
 if conT P as_ then (match a with
  | .iface t x => if t = as_ then some (if ok then .tup [x, .bool true] else x)
   else if ok then (match zeroV P as_ with | some z => some (.tup [z, .bool false]) | none => none) else none
  | .base .nilIface => if ok then (match zeroV P as_ with | some z => some (.tup [z, .bool false]) | none => none) else none
  | _ => none) else none
 where
 zeroV (P : Program) (t : TypeId) : Option AV := ((P.info? t).bind (·.zero)).bind fun v => match v with
  | .agg cs => if cs.toList.all (·.oneCell') = true then some (.agg (cs.toList.map X11)) else none
  | v => some (X11 v)
def maxA (mx : Bool) (a b : AV) : Option AV :=
 match a, b with
 | .int k x, .int _ y => some (.int k (if mx then (if y > x then y else x) else (if y < x then y else x)))
 | _, _ => none
def bfun (P : Program) (b : Builtin) (ts : List TypeId) (args : List AV) : Option AV :=
 match b, ts, args with
 | .len, [t], [x] => lenA P t x
 | .max, _, [x, y] => maxA true x y
 | .min, _, [x, y] => maxA false x y
 | _, _, _ => none
def fop (C : Cx) (al : Nat × Nat) (op : Op) (env : Nat -> AV) (σ : Sto) : Option AV :=
 match op with
 | .move x => some (opv C env x)
 | .assign x => some (opv C env x)
 | .pick c a b => match opv C env c with
  | .bool t => some (if t = true then opv C env a else opv C env b)
  | _ => none
 | .alloc T => match zeroCells C.P T with
  | some _ => some (.ref al.1 al.2 0)
  | none => none
 | .box _ x => (X0O (opv C env x)).map .rptr
 | .build t parts => match zeroCells C.P t, bldT C.P t with
  | some z, some pl => (Y3a (pl[·]?) z (parts.toList.map fun p => (p.1, opv C env p.2))).map .agg
  | _, _ => none
 | .buildSlice t len parts => match elmT C.P t with
  | some (e, sz, _) => match zeroCells C.P e with
   | some z => if 0 < sz /\ z.length = sz /\ len * sz <= 16777216 then (X4o sz (List.replicate len z) (parts.toList.map fun p => (p.1, opv C env p.2))).map (.vec sz) else none
   | none => none
  | none => none
 | .load T a => X1K C.P T σ (opv C env a)
 | .nilCheck x => Y6p (opv C env x)
 | .binOp op t x y _ => abin C op t x y (opv C env x) (opv C env y)
 | .unOp op _ x => aun op (opv C env x)
 | .convert s d x => Y2P C.P s d (opv C env x)
 | .makeInterface t x => if conT C.P t then some (.iface t (opv C env x)) else none
 | .makeFunc f a b => some (.fn f (a.toList.map (opv C env)) (b.toList.map (opv C env)))
 | .fieldAddr s x f => fadA C.P s f (opv C env x)
 | .field t x f => Y6i C.P t f (opv C env x)
 | .indexAddr t x i => idxA C.P t (opv C env x) (opv C env i)
 | .index t x i => X8I C.P t (opv C env x) (opv C env i)
 | .slice t x lo hi mx => X1I C.P t (opv C env x) (lo.map (opv C env)) (hi.map (opv C env)) (mx.map (opv C env))
 | .extract x i => extA (opv C env x) i
 | .typeAssert x _ t ok => assertA C.P (opv C env x) t ok
 | .call c => match c.callee with
  | .builtin b => bfun C.P b c.argTypes.toList (c.args.toList.map (opv C env))
  | _ => none
 | _ => none
end Go.Ab
namespace Go.Ab
open Go Go.RowKit
section
variable {C : Cx} {B : Base} {kn : Kn} {m : Mp} {σ : Sto} {nx : Nat} {w : World}
def Gives (C : Cx) (B : Base) (kn : Kn) (m : Mp) (σ : Sto) (nx : Nat) (x : AV) (r : Result Value) : Prop :=
 ∃ u kn' w', r = .ok u w' /\ KnLe kn kn' /\ Rel kn' m x u /\ Inv C B kn' m σ nx w'
theorem Gives.pure (hI : Inv C B kn m σ nx w) {x : AV} {u : Value} {r : Result Value} (hr : r = .ok u w) (hx : Rel kn m x u) : Gives C B kn m σ nx x r := ⟨u, kn, w, hr, KnLe.refl _, hx, hI⟩
theorem Gives.map {x y : AV} {r : Result Value} (h : Gives C B kn m σ nx x r) (hm : ∀ kn' u, Rel kn' m x u -> Rel kn' m y u) : Gives C B kn m σ nx y r := by
 obtain ⟨u, kn', w', h1, h2, h3, h4⟩ := h;exact ⟨u, kn', w', h1, h2, hm _ _ h3, h4⟩
theorem X1S {t : TypeId} {i : TypeInfo} (h : C.P.info? t = some i) (w : World) : (typeInfo t).run C.P w = .ok i w := by simp [typeInfo, h]
theorem X0l {t : TypeId} {n : Nat} (h : szT C.P t = some n) (w : World) : (sizeOf t).run C.P w = .ok n w := by
 unfold szT at h;cases hi : C.P.info? t with
 | none => simp [hi] at h
 | some i => simp [hi] at h; simp [sizeOf, typeInfo, hi, h]
theorem Y0D {t : TypeId} {b : Bool} (h : aggT C.P t = some b) (w : World) : (isAgg t).run C.P w = .ok b w := by
 unfold aggT at h;cases hu : C.P.underlying t with
 | none => simp [hu] at h
 | some d =>
  simp only [hu, Option.map_some, Option.some.injEq] at h;subst h;unfold isAgg;rw [Sem.run_bind, run_underlying hu w];cases d <;> rfl
theorem X2p {T : TypeId} {cs : List AV} (h : zeroCells C.P T = some cs) (kn : Kn) (m : Mp) : ∃ i z, C.P.info? T = some i /\ i.zero = some z /\ cs = z.cells.toList.map X11 /\ RelC kn m cs z.cells.toList := by
 unfold zeroCells at h;cases hi : C.P.info? T with
 | none => simp [hi] at h
 | some i =>
  cases hz : i.zero with
  | none => simp [hi, hz] at h
  | some z =>
   simp only [hi, Option.bind_some, hz, Option.ite_none_right_eq_some, Option.some.injEq] at h;refine ⟨i, z, rfl, hz, h.2.symm, ⟨?_, fun v hv => ?_⟩⟩
   ·rw [<- h.2];refine ⟨by simp, fun j x v a b => ?_⟩;rw [List.getElem?_map] at a;rw [b] at a;simp at a;subst a;exact X4k kn m v
   exact List.all_eq_true.1 h.1 v hv
theorem Y9P (hI : Inv C B kn m σ nx w) {x : AV} {v : Value} {cs : List AV} (hx : Rel kn m x v) (hc : X0O x = some cs) (T : TypeId) :
  Gives C B kn m σ nx (.rptr cs) ((Instr.box T v).run C.P w) := by
 obtain ⟨hk, hI'⟩ := hI.box v.cells T;have hrl := hx.cells hc;refine ⟨_, _, _, rfl, hk, .rptr cs w.heap.size 0 (fun j => v.cells.getD j undef) (fun j y hy => ?_) (fun j y hy => ?_) (fun j y hy => ?_), hI'⟩
 ·have hj : j < v.cells.size := by have := hrl.1.1; have h2 := (List.getElem?_eq_some_iff.1 hy).1; simp at this; omega
  simp [X7j, hj]
 ·have hj : j < v.cells.size := by have := hrl.1.1; have h2 := (List.getElem?_eq_some_iff.1 hy).1; simp at this; omega
  refine (hrl.1.2 j y _ hy ?_).mono hk (MpLe.refl m);simp [hj]
 have hj : j < v.cells.size := by have := hrl.1.1; have h2 := (List.getElem?_eq_some_iff.1 hy).1; simp at this; omega
 exact hrl.2 _ (by simp [hj])
theorem Y41 {fs : List Field} {pl : List (Nat × Nat)} (P : Program) (h : fs.mapM (fun x => (szT P x.type).map fun n => (x.offset, n)) = some pl) (w : World) :
  (fs.mapM (fun f : Field => (do pure (f.offset, <- sizeOf f.type) : Sem (Nat × Nat)))).run P w = .ok pl w := by
 induction fs generalizing pl with
 | nil => simp at h; subst h; rfl
 | cons f rest ih =>
  simp only [List.mapM_cons] at h ⊢;cases hs : szT P f.type with
  | none => simp [hs] at h
  | some n =>
   simp only [hs, Option.map_some, Option.bind_eq_bind, Option.bind_some] at h;cases hr : rest.mapM (fun x => (szT P x.type).map fun n => (x.offset, n)) with
   | none => simp [hr] at h
   | some pl' =>
    simp [hr] at h;subst h;have h1 : (sizeOf f.type).run P w = .ok n w := by
     unfold szT at hs;cases hi : P.info? f.type with
     | none => simp [hi] at hs
     | some i => simp [hi] at hs; simp [sizeOf, typeInfo, hi, hs]
    simp only [Sem.run_bind, h1, Result.andThen_ok, Sem.run_pure, ih hr]
theorem Y4L (hI : Inv C B kn m σ nx w) {t : TypeId} {z cs : List AV} {pl : List (Nat × Nat)} {parts : List (Nat × AV)} {parts' : Array (Nat × Value)} (hz : zeroCells C.P t = some z) (hb : bldT C.P t = some pl)
  (hf : Y3a (pl[·]?) z parts = some cs) (hl : parts.length = parts'.size)
  (hp : ∀ (i : Nat) (p : Nat × AV) (p' : Nat × Value), parts[i]? = some p -> parts'[i]? = some p' -> p.1 = p'.1 /\ Rel kn m p.2 p'.2) :
  Gives C B kn m σ nx (.agg cs) ((Instr.build t parts').run C.P w) := by
 obtain ⟨i, zv, hi, hzv, rfl, hzr⟩ := X2p hz kn m;obtain ⟨out, h1, h2⟩ := Y0e (pl[·]?) parts parts'.toList _ cs _ hf (by simpa using hl) (fun j p p' a b => hp j p p' a (by simpa using b)) hzr;have h1' : Instr.fill (fun i => pl[i]?) zv.cells parts'.toList = some out := by simpa using h1
 unfold bldT at hb;cases hu : C.P.underlying t with
 | none => simp [hu] at hb
 | some d =>
  cases d with
  | struct fs =>
   simp only [hu] at hb;have hm := Y41 C.P hb w;have hm2 : (fs.mapM (fun f : Field => (do pure (f.offset, <- sizeOf f.type) : Sem (Nat × Nat)))).run C.P w = .ok pl.toArray w := by
    rw [Array.mapM_eq_mapM_toList];simp only [Sem.run_map, hm, Result.andThen_ok]
   refine Gives.pure hI (u := .agg out) ?_ (.agg _ _ (by simpa using h2.1.1) (fun j x v a b => h2.1.2 j x v a (by simpa using b)) (fun j v a => h2.2 v (List.mem_of_getElem? (by simpa using a))));simp only [Instr.build, zeroValue, typeInfo, run_program, Sem.run_bind, Result.andThen_ok, hi, hzv, Sem.run_pure, run_underlying hu];rw [hm2];simp only [Result.andThen_ok];have e : (fun (i : Nat) => pl.toArray[i]?) = fun (i : Nat) => pl[i]? := by funext i; simp
   rw [e, h1'];rfl
  | array n e =>
   simp only [hu] at hb;cases hs : szT C.P e with
   | none => simp [hs] at hb
   | some s =>
    simp only [hs, Option.map_some, Option.some.injEq] at hb;have hfill : ∀ (parts : List (Nat × Value)) (cells out : Array Value), Instr.fill (fun (i : Nat) => pl[i]?) cells parts = some out -> Instr.fill (fun (i : Nat) => some (i * s, s)) cells parts = some out := by
     intro parts
     induction parts with
     | nil => intro cells out h; simpa [Instr.fill] using h
     | cons p rest ih =>
      obtain ⟨j, v⟩ := p;intro cells out h;simp only [Instr.fill] at h ⊢;cases hpj : pl[j]? with
      | none => simp [hpj] at h
      | some os =>
       obtain ⟨o, s'⟩ := os;simp only [hpj] at h;have : o = j * s /\ s' = s := by
        rw [<- hb, List.getElem?_map] at hpj;cases hr : (List.range n)[j]? with
        | none => simp [hr] at hpj
        | some j' =>
         have hjl : j < n := by
          have := (List.getElem?_eq_some_iff.1 hr).1;simpa using this
         rw [List.getElem?_range hjl] at hr;cases hr;rw [List.getElem?_range hjl] at hpj;simp at hpj;exact ⟨hpj.1.symm, hpj.2.symm⟩
       obtain ⟨rfl, rfl⟩ := this;split at h
       ·cases h
       rename_i hc;rw [if_neg hc];exact ih _ _ h
    have h1'' := hfill _ _ _ h1';refine Gives.pure hI (u := .agg out) ?_ (.agg _ _ (by simpa using h2.1.1) (fun j x v a b => h2.1.2 j x v a (by simpa using b)) (fun j v a => h2.2 v (List.mem_of_getElem? (by simpa using a))));simp only [Instr.build, zeroValue, typeInfo, run_program, Sem.run_bind, Result.andThen_ok, hi, hzv, Sem.run_pure, run_underlying hu, X0l hs, h1'']
  | _ => simp [hu] at hb
end
end Go.Ab
namespace Go.Ab
open Go Go.RowKit
theorem X2o {α : Type} (l new : List α) (off k : Nat) (h : off + new.length <= l.length) :
  (l.take off ++ (new ++ l.drop (off + new.length)))[k]? = if off <= k /\ k < off + new.length then new[k - off]? else l[k]? := by
 have hlt : (l.take off).length = off := by simp; omega
 by_cases h1 : k < off
 ·rw [List.getElem?_append_left (by omega), if_neg (by omega), List.getElem?_take, if_pos h1]
 rw [List.getElem?_append_right (by omega), hlt]
 by_cases h2 : k < off + new.length
 ·rw [List.getElem?_append_left (by omega), if_pos ⟨by omega, h2⟩]
 rw [List.getElem?_append_right (by omega), if_neg (by omega), List.getElem?_drop]
 congr 1; omega
theorem X3k {α : Type} (l new : List α) (off : Nat) (h : off + new.length <= l.length) : (l.take off ++ (new ++ l.drop (off + new.length))).length = l.length := by
 simp; omega
def Flat (kn : Kn) (m : Mp) (sz : Nat) (rows : List (List AV)) (cells : List Value) : Prop :=
 (∀ (i : Nat) (row : List AV), rows[i]? = some row -> row.length = sz) /\ (∀ (i : Nat) (row : List AV) (j : Nat) (x : AV) (v : Value), rows[i]? = some row -> row[j]? = some x -> cells[i * sz + j]? = some v -> Rel kn m x v) /\ ∀ v ∈ cells, v.oneCell' = true
theorem X1H {i j sz n : Nat} (hi : i < n) (hj : j < sz) : i * sz + j < n * sz := by
 have : (i + 1) * sz <= n * sz := Nat.mul_le_mul_right _ hi;rw [Nat.succ_mul] at this; omega
theorem Y9V {i i' j sz : Nat} (hj : j < sz) (h1 : i * sz <= i' * sz + j) (h2 : i' * sz + j < i * sz + sz) : i' = i := by
 rcases Nat.lt_trichotomy i' i with h | h | h
 ·have := Nat.mul_le_mul_right sz (show i' + 1 <= i from h); rw [Nat.succ_mul] at this; omega
 ·exact h
 have := Nat.mul_le_mul_right sz (show i + 1 <= i' from h); rw [Nat.succ_mul] at this; omega
theorem Flat.set {kn : Kn} {m : Mp} {sz : Nat} {rows : List (List AV)} {cells : List Value} (h : Flat kn m sz rows cells) (hl : cells.length = rows.length * sz) {i : Nat} (hi : i < rows.length) {cs : List AV} {vs : List Value}
  (hv : RelC kn m cs vs) (hcs : cs.length = sz) : Flat kn m sz (rows.set i cs) (cells.take (i * sz) ++ (vs ++ cells.drop (i * sz + vs.length))) := by
 have hvl : vs.length = sz := by rw [<- hv.1.1]; exact hcs
 have hfit : i * sz + vs.length <= cells.length := by
  rw [hl, hvl]; have := Nat.mul_le_mul_right sz (show i + 1 <= rows.length from hi); rw [Nat.succ_mul] at this; exact this
 refine ⟨fun k row hk => ?_, fun k row j x v hk hj hc => ?_, fun v hm => ?_⟩
 ·rw [List.getElem?_set] at hk;split at hk
  ·cases hk; exact hcs
  exact h.1 k row hk
 ·rw [X2o _ _ _ _ hfit] at hc;rw [List.getElem?_set] at hk;split at hk
  ·rename_i hik;subst hik;cases hk;have hjl : j < sz := by rw [<- hcs]; exact (List.getElem?_eq_some_iff.1 hj).1
   rw [if_pos ⟨by omega, by omega⟩, show i * sz + j - i * sz = j by omega] at hc;exact hv.1.2 j x v hj hc
  rename_i hik;have hjl : j < sz := by rw [<- h.1 k row hk]; exact (List.getElem?_eq_some_iff.1 hj).1
  rw [if_neg (fun hh => hik (Y9V hjl hh.1 (by omega)).symm)] at hc;exact h.2.1 k row j x v hk hj hc
 rcases List.mem_append.1 hm with hm | hm
 ·exact h.2.2 v (List.mem_of_mem_take hm)
 rcases List.mem_append.1 hm with hm | hm
 ·exact hv.2 v hm
 exact h.2.2 v (List.mem_of_mem_drop hm)
theorem Y0C {kn : Kn} {m : Mp} (sz : Nat) : ∀ (parts : List (Nat × AV)) (parts' : List (Nat × Value)) (rows out : List (List AV)) (cells : List Value), X4o sz rows parts = some out ->
  parts.length = parts'.length -> (∀ (i : Nat) (p : Nat × AV) (p' : Nat × Value), parts[i]? = some p -> parts'[i]? = some p' -> p.1 = p'.1 /\ Rel kn m p.2 p'.2) -> Flat kn m sz rows cells -> cells.length = rows.length * sz ->
  ∃ out' : Array Value, Instr.fill (fun i => some (i * sz, sz)) cells.toArray parts' = some out' /\ Flat kn m sz out out'.toList /\ out'.size = out.length * sz /\ out.length = rows.length
 | [], parts', rows, out, cells, h, hl, hp, hf, hc => by
  have : parts' = [] := List.eq_nil_of_length_eq_zero (by simpa using hl.symm);subst this;simp only [X4o, Option.some.injEq] at h;subst h;exact ⟨cells.toArray, rfl, by simpa using hf, by simpa using hc, rfl⟩
 | (i, x) :: rest, [], rows, out, cells, h, hl, hp, hf, hc => by simp at hl
 | (i, x) :: rest, (i', v) :: rest', rows, out, cells, h, hl, hp, hf, hc => by
  obtain ⟨e, hx⟩ := hp 0 _ _ rfl rfl;simp only at e hx;subst e;simp only [X4o] at h;split at h
  ·rename_i cs hcs;split at h
   ·rename_i hok;have hv := hx.cells hcs;have hvl : v.cells.size = sz := by rw [<- Array.length_toList, <- hv.1.1]; exact hok.1
    have hfit : i * sz + v.cells.toList.length <= cells.length := by
     rw [hc, Array.length_toList, hvl]; have := Nat.mul_le_mul_right sz (show i + 1 <= rows.length from hok.2); rw [Nat.succ_mul] at this; exact this
    have hput := Y3x cells v.cells.toList (i * sz) hfit;have hset := hf.set hc hok.2 hv hok.1;rw [<- hput] at hset;have hlen : ((v.cells.toList.toArray.zipIdx.foldl (fun cs (p : Value × Nat) => cs.setIfInBounds (i * sz + p.2) p.1) cells.toArray).toList).length = (rows.set i cs).length * sz := by
     rw [hput, X3k _ _ _ hfit, hc, List.length_set]
    obtain ⟨out', h1, h2, h3, h4⟩ := Y0C sz rest rest' _ out _ h (by simpa using hl) (fun j p p' a b => hp (j + 1) p p' (by simpa using a) (by simpa using b)) hset hlen;refine ⟨out', ?_, h2, h3, by simpa using h4⟩;simp only [Instr.fill];rw [if_neg (by simp only [Bool.or_eq_true, decide_eq_true_eq, not_or, bne_iff_ne, ne_eq]; simp at hfit ⊢; omega)];simpa using h1
   cases h
  cases h
section
variable {C : Cx} {B : Base} {kn : Kn} {m : Mp} {σ : Sto} {nx : Nat} {w : World}
theorem X1o {t e sz by_ : Nat} (h : elmT C.P t = some (e, sz, by_)) : C.P.underlying t = some (.slice e) /\ szT C.P e = some sz /\ ∃ i, C.P.info? e = some i /\ i.size = sz /\ i.bytes = by_ := by
 unfold elmT at h;split at h
 ·rename_i e' hu;split at h
  ·rename_i i hi;cases h;exact ⟨hu, by simp [szT, hi], i, hi, rfl, rfl⟩
  cases h
 cases h
theorem X2R {kn : Kn} {m : Mp} (z : List AV) (zv : Array Value) (hz : RelC kn m z zv.toList) (len : Nat) :
  Flat kn m zv.size (List.replicate len z) ((Array.range (len * zv.size)).map (zv[· % zv.size]!)).toList := by
 have hzl : z.length = zv.size := by simpa using hz.1.1
 refine ⟨fun i row hi => ?_, fun i row j x v hi hj hc => ?_, fun v hv => ?_⟩
 ·rw [List.getElem?_replicate] at hi;split at hi
  ·cases hi; exact hzl
  cases hi
 ·rw [List.getElem?_replicate] at hi;split at hi
  ·rename_i hlt;cases hi;have hjl : j < zv.size := by rw [<- hzl]; exact (List.getElem?_eq_some_iff.1 hj).1
   have hlt2 := X1H hlt hjl;have : ((Array.range (len * zv.size)).map (zv[· % zv.size]!)).toList[i * zv.size + j]? = some zv[j] := by
    have hmod : (i * zv.size + j) % zv.size = j := by rw [Nat.mul_add_mod_self_right, Nat.mod_eq_of_lt hjl]
    simp [hlt2, hmod, getElem!_pos, hjl]
   rw [this] at hc;cases hc;exact hz.1.2 j x _ hj (by simp [hjl])
  cases hi
 simp only [Array.toList_map, List.mem_map] at hv;obtain ⟨k, hk, rfl⟩ := hv;have hk' : k < len * zv.size := by simpa using hk
 have hpos : 0 < zv.size := Nat.pos_of_ne_zero (fun e => by rw [e] at hk'; simp at hk');have hlt := Nat.mod_lt k hpos;rw [getElem!_pos zv (k % zv.size) hlt];exact hz.2 _ (by simp)
theorem X2c (hI : Inv C B kn m σ nx w) {t len e sz by_ : Nat} {z : List AV} {rows : List (List AV)} {parts : List (Nat × AV)} {parts' : Array (Nat × Value)} (he : elmT C.P t = some (e, sz, by_)) (hz : zeroCells C.P e = some z)
  (hs0 : 0 < sz) (hzl : z.length = sz) (hlim : len * sz <= 16777216) (hr : X4o sz (List.replicate len z) parts = some rows) (hl : parts.length = parts'.size)
  (hp : ∀ (i : Nat) (p : Nat × AV) (p' : Nat × Value), parts[i]? = some p -> parts'[i]? = some p' -> p.1 = p'.1 /\ Rel kn m p.2 p'.2) :
  ∃ arr, (Instr.buildSlice t len parts').run C.P w = .ok (.slice (some ⟨w.heap.size, 0, none⟩) len len) (w.alloc (.cells arr e)) /\ Flat kn m sz rows arr.toList /\ arr.size = len * sz /\ rows.length = len := by
 obtain ⟨hu, hsz, i, hi, hs1, hs2⟩ := X1o he;obtain ⟨i', zv, hi', hzv, rfl, hzr⟩ := X2p hz kn m;rw [hi] at hi'; cases hi';have hzs : zv.cells.size = sz := by rw [<- Array.length_toList, <- hzr.1.1]; exact hzl
 have hfl := X2R _ _ hzr len;rw [hzs] at hfl;obtain ⟨out, h1, h2, h3, h4⟩ := Y0C sz parts parts'.toList _ rows _ hr (by simpa using hl) (fun j p p' a b => hp j p p' a (by simpa using b)) hfl (by simp);have h4 : rows.length = len := by simpa using h4
 rw [Array.toArray_toList] at h1;refine ⟨out, ?_, h2, by rw [h3, h4], h4⟩;simp only [Instr.buildSlice, Sem.run_bind, run_underlying hu, Result.andThen_ok, X0l hsz]
 rw [if_neg (by have h2 : (2 : Nat) ^ 24 = 16777216 := by decide
                omega)]
 by_cases hz0 : len * sz = 0
 ·have hlen : len = 0 := by rcases Nat.mul_eq_zero.1 hz0 with h | h <;> omega
  subst hlen;simp only [Nat.zero_mul, if_true];simp only [Nat.zero_mul] at h1;have e1 : (Array.range 0).map ((#[] : Array Value)[· % (#[] : Array Value).size]!) = (Array.range 0).map (zv.cells[· % sz]!) := by simp
  rw [Sem.run_bind, Sem.run_pure, Result.andThen_ok, e1, h1];rfl
 rw [if_neg hz0];simp only [zeroValue, typeInfo, run_program, Sem.run_bind, Result.andThen_ok, hi, Sem.run_pure, hzv, hzs, h1];rfl
theorem Y9S (hI : Inv C B kn m σ nx w) {e sz len : Nat} {rows : List (List AV)} {arr : Array Value} (hf : Flat kn m sz rows arr.toList) (ha : arr.size = len * sz) (hr : rows.length = len) (hs0 : 0 < sz) (hm62 : len <= 2 ^ 62) {r : Result Value}
  (h : r = .ok (.slice (some ⟨w.heap.size, 0, none⟩) len len) (w.alloc (.cells arr e))) : Gives C B kn m σ nx (.vec sz rows) r := by
 obtain ⟨hk, hI'⟩ := hI.box arr e;refine ⟨_, _, _, h, hk, ?_, hI'⟩;subst hr;refine .vec sz rows w.heap.size 0 rows.length (fun i j => arr.getD (i * sz + j) undef) (Nat.le_refl _) hm62 hf.1 (fun i row j x hi hj => ?_) (fun i row j x hi hj => ?_) (fun i row j x hi hj => ?_)
 ·have hjl : j < sz := by rw [<- hf.1 i row hi]; exact (List.getElem?_eq_some_iff.1 hj).1
  have hlt : i * sz + j < arr.size := by rw [ha]; exact X1H (List.getElem?_eq_some_iff.1 hi).1 hjl
  simp [X7j, hlt]
 ·have hjl : j < sz := by rw [<- hf.1 i row hi]; exact (List.getElem?_eq_some_iff.1 hj).1
  have hlt : i * sz + j < arr.size := by rw [ha]; exact X1H (List.getElem?_eq_some_iff.1 hi).1 hjl
  refine (hf.2.1 i row j x _ hi hj ?_).mono hk (MpLe.refl m);simp [hlt]
 have hjl : j < sz := by rw [<- hf.1 i row hi]; exact (List.getElem?_eq_some_iff.1 hj).1
 have hlt : i * sz + j < arr.size := by rw [ha]; exact X1H (List.getElem?_eq_some_iff.1 hi).1 hjl
 exact hf.2.2 _ (by simp [hlt])
theorem X8D {s f off sz : Nat} {ag : Bool} (h : fldT C.P s f = some (off, sz, ag)) : ∃ fs x, C.P.underlying s = some (.struct fs) /\ fs[f]? = some x /\ x.offset = off /\ szT C.P x.type = some sz /\ aggT C.P x.type = some ag := by
 unfold fldT at h;split at h
 ·rename_i fs hu;split at h
  ·rename_i x hx;split at h
   ·rename_i n a h1 h2;cases h;exact ⟨fs, x, hu, hx, rfl, h1, h2⟩
   cases h
  cases h
 cases h
theorem X8F (hI : Inv C B kn m σ nx w) {s f : Nat} {a x : AV} {v : Value} (h : fadA C.P s f a = some x) (ha : Rel kn m a v) : Gives C B kn m σ nx x ((Instr.fieldAt s v f).run C.P w) := by
 unfold fadA at h;split at h
 ·rename_i off sz ag hf;split at h
  ·cases h
  rename_i hs0;obtain ⟨fs, fld, hu, hx, ho, hsz, hag⟩ := X8D hf;have hrun : ∀ b o, v = .pointer (some ⟨b, o, none⟩) -> (Instr.fieldAt s v f).run C.P w = .ok (.pointer (some ⟨b, o + off, none⟩)) w := by
   intro b o hv;subst hv;simp [Instr.fieldAt, run_underlying hu, hx, Instr.sureAddr, fieldPlace, X0l hsz, hs0, X2F, ho]
  cases ha with
  | rptr cs b o vals hk hr ho1 =>
   simp only [Option.some.injEq] at h;subst h;refine Gives.pure hI (hrun b o rfl) (.rptr _ b (o + off) (fun j => vals (off + j)) (fun j y hy => ?_) (fun j y hy => ?_) (fun j y hy => ?_))
   ·rw [List.getElem?_drop] at hy; rw [Nat.add_assoc]; exact hk _ _ hy
   ·rw [List.getElem?_drop] at hy; exact hr _ _ hy
   rw [List.getElem?_drop] at hy; exact ho1 _ _ hy
  | ref p nm o loc hm =>
   simp only [Option.some.injEq] at h;subst h;refine Gives.pure hI (hrun _ _ rfl) ?_;rw [Nat.add_assoc];exact .ref p nm (o + off) loc hm
  | eref p nm i o loc hm =>
   simp only [Option.some.injEq] at h;subst h;refine Gives.pure hI (hrun _ _ rfl) ?_;rw [Nat.add_assoc];exact .eref p nm i (o + off) loc hm
  | _ => cases h
 cases h
theorem Y4N (hI : Inv C B kn m σ nx w) {t f : Nat} {a x : AV} {v : Value} (h : Y6i C.P t f a = some x) (ha : Rel kn m a v) : Gives C B kn m σ nx x ((Instr.field t v f).run C.P w) := by
 unfold Y6i at h;split at h
 ·rename_i off sz cs hf;split at h
  ·rename_i hle;cases h;obtain ⟨fs, fld, hu, hx, ho, hsz, hag⟩ := X8D hf;cases ha with
   | agg _ vs hl hr hr1 =>
    refine Gives.pure hI (u := .agg (vs.extract off (off + sz))) ?_ (.agg _ _ (by simp; omega) (fun j y u hy hu' => ?_) (fun j u hu' => ?_))
    ·simp [Instr.field, run_underlying hu, hx, asAgg, Go.part, Y0D hag, X0l hsz, ho]
    ·rw [List.getElem?_take] at hy;split at hy
     ·rename_i hj;rw [List.getElem?_drop] at hy;refine hr _ y u hy ?_;rw [Array.getElem?_extract] at hu';split at hu'
      ·exact hu'
      cases hu'
     cases hy
    rw [Array.getElem?_extract] at hu';split at hu'
    ·exact hr1 _ u hu'
    cases hu'
  cases h
 ·rename_i off sz cs hf;obtain ⟨fs, fld, hu, hx, ho, hsz, hag⟩ := X8D hf;cases ha with
  | agg _ vs hl hr hr1 =>
   have hlt : off < vs.size := by rw [<- hl]; exact (List.getElem?_eq_some_iff.1 h).1
   refine Gives.pure hI (u := vs[off]) ?_ (hr off x _ h (by simp [hlt]));simp [Instr.field, run_underlying hu, hx, asAgg, Go.part, Y0D hag, ho, hlt]
 cases h
theorem X1x (hI : Inv C B kn m σ nx w) {t : Nat} {a i x : AV} {v iv : Value} (hnt : ∀ e l, a ≠ .tvec e l) (hng : ∀ p nm e l, a ≠ .gs p nm e l) (hnv : ∀ p nm e o l, a ≠ .gv p nm e o l) (h : idxA C.P t a i = some x) (ha : Rel kn m a v) (hi : Rel kn m i iv) : Gives C B kn m σ nx x ((Instr.indexAt t v iv).run C.P w) := by
 unfold idxA at h;cases hi with
 | int k n =>
  simp only at h;split at h
  ·rename_i e sz by_ he;obtain ⟨hu, hsz, _⟩ := X1o he;cases ha with
   | vecNil esz ad cap => simp at h; omega
   | vecNone esz => simp at h; omega
   | srefNil p nm esz loc hm hn => simp at h; omega
   | tvec e l _ _ => exact absurd rfl (hnt e l)
   | gs p nm e len _ _ _ _ _ => exact absurd rfl (hng p nm e len)
   | gvE p nm e off _ _ => exact absurd rfl (hnv p nm e off 0)
   | gvS p nm e off len _ _ => exact absurd rfl (hnv p nm e off len)
   | vec esz rows b o cap vals hc hm hrow hk hr hr1 =>
    simp only [Option.ite_none_right_eq_some, Option.some.injEq] at h;obtain ⟨⟨rfl, h0, h1⟩, rfl⟩ := h;have hnl : n.toNat < rows.length := by omega
    have hrow' : rows[n.toNat]? = some (rows.getD n.toNat []) := by simp [hnl]
    refine Gives.pure hI (u := .pointer (some ⟨b, o + n.toNat * esz, none⟩)) ?_ (.rptr _ b _ (fun j => vals n.toNat j) (fun j y hy => hk _ _ _ _ hrow' hy) (fun j y hy => hr _ _ _ _ hrow' hy) (fun j y hy => hr1 _ _ _ _ hrow' hy));simp [Instr.indexAt, asIntOf, run_underlying hu, h0, h1, X0l hsz, X2F]
   | sref p nm esz off len loc hm hn he' hl hm' =>
    simp only [Option.ite_none_right_eq_some, Option.some.injEq] at h;obtain ⟨⟨rfl, h0, h1⟩, rfl⟩ := h;refine Gives.pure hI (u := .pointer (some ⟨loc.blk, loc.off + off * esz + n.toNat * esz, none⟩)) ?_ ?_
    ·simp [Instr.indexAt, asIntOf, run_underlying hu, h0, h1, X0l hsz, X2F, he']
    have := Rel.eref (kn := kn) p nm (off + n.toNat) 0 loc hm;rw [he', Nat.add_mul, <- Nat.add_assoc, Nat.add_zero] at this;exact this
   | _ => cases h
  split at h
  ·rename_i len e sz he;split at h
   ·rename_i hb;have hu : C.P.underlying t = some (.array len e) /\ szT C.P e = some sz := by
     unfold arrT at he;split at he
     ·rename_i n' e' hu;split at he
      ·rename_i s hs; cases he; exact ⟨hu, hs⟩
      cases he
     cases he
    have hrun : ∀ b o, v = .pointer (some ⟨b, o, none⟩) -> (Instr.indexAt t v (.int k n)).run C.P w = .ok (.pointer (some ⟨b, o + n.toNat * sz, none⟩)) w := by
     intro b o hv;subst hv;simp [Instr.indexAt, asIntOf, run_underlying hu.1, Instr.sureAddr, hb.1, hb.2, X0l hu.2, X2F]
    cases ha with
    | rptr cs b o vals hk hr hr1 =>
     simp only [Option.some.injEq] at h;subst h;refine Gives.pure hI (hrun b o rfl) (.rptr _ b _ (fun j => vals (n.toNat * sz + j)) (fun j y hy => ?_) (fun j y hy => ?_) (fun j y hy => ?_))
     case refine_3 => rw [List.getElem?_drop] at hy; exact hr1 _ _ hy
     ·rw [List.getElem?_drop] at hy; rw [Nat.add_assoc]; exact hk _ _ hy
     rw [List.getElem?_drop] at hy; exact hr _ _ hy
    | ref p nm o loc hm =>
     simp only [Option.some.injEq] at h;subst h;refine Gives.pure hI (hrun _ _ rfl) ?_;rw [Nat.add_assoc];exact .ref p nm _ loc hm
    | eref p nm i o loc hm =>
     simp only [Option.some.injEq] at h;subst h;refine Gives.pure hI (hrun _ _ rfl) ?_;rw [Nat.add_assoc];exact .eref p nm i _ loc hm
    | _ => cases h
   cases h
  cases h
 | _ => cases h
theorem X8G (hI : Inv C B kn m σ nx w) {t : Nat} {a i x : AV} {v iv : Value} (h : idxA C.P t a i = some x) (ha : Rel kn m a v) (hi : Rel kn m i iv) : Gives C B kn m σ nx x ((Instr.indexAt t v iv).run C.P w) := by
 by_cases hnt : ∃ e l, a = .tvec e l
 ·obtain ⟨e, l, rfl⟩ := hnt;have key : ∃ y, idxA C.P t (.vec e.size (l.map e.row)) i = some (.rptr (e.row y)) /\ x = .rptr (e.cells y) := by
   unfold idxA at h ⊢;split at h
   ·rename_i k n;split at h
    ·rename_i q sz by_ he;simp only [Option.ite_none_right_eq_some, Option.some.injEq] at h;obtain ⟨hc, rfl⟩ := h;refine ⟨l.getD n.toNat e.dflt, ?_, rfl⟩;have hlt : n.toNat < l.length := by omega
     simp only [List.length_map];rw [if_pos hc];simp [hlt]
    split at h
    ·split at h <;> cases h
    cases h
   cases h
  obtain ⟨y, h0, rfl⟩ := key;exact (X1x hI (fun e l => by simp) (fun p n e l => by simp) (fun p n e o l => by simp) h0 (X1R.1 ha) hi).map fun kn' u hr => X9F hr (by rw [E.cells_len, E.row_len]) fun vs => (E.rel_cells e y vs).2
 by_cases hng : ∃ p nm e l, a = .gs p nm e l
 ·obtain ⟨p, nm, e, l, rfl⟩ := hng;have h0 : idxA C.P t (.sref p nm e.size 0 l) i = some x := by
   unfold idxA at h ⊢;split at h
   ·split at h
    ·simpa using h
    split at h
    ·split at h <;> cases h
    cases h
   cases h
  have ha' : Rel kn m (.sref p nm e.size 0 l) v := by cases ha; assumption
  exact X1x hI (fun e l => by simp) (fun p n e l => by simp) (fun p n e o l => by simp) h0 ha' hi
 by_cases hnv : ∃ p nm e o l, a = .gv p nm e o l
 ·obtain ⟨p, nm, e, o, l, rfl⟩ := hnv;have key : idxA C.P t (.sref p nm e.size o l) i = some x /\ l ≠ 0 := by
   unfold idxA at h ⊢;split at h
   ·split at h
    ·simp only [Option.ite_none_right_eq_some] at h;exact ⟨by simpa using h, by have := h.1.2; omega⟩
    split at h
    ·split at h <;> cases h
    cases h
   cases h
  have ha' : Rel kn m (.sref p nm e.size o l) v := by
   cases ha with
   | gvE => exact absurd rfl key.2
   | gvS _ _ _ _ _ _ h => exact h
  exact X1x hI (fun e l => by simp) (fun p n e l => by simp) (fun p n e o l => by simp) key.1 ha' hi
 exact X1x hI (fun e l hh => hnt ⟨e, l, hh⟩) (fun p n e l hh => hng ⟨p, n, e, l, hh⟩) (fun p n e o l hh => hnv ⟨p, n, e, o, l, hh⟩) h ha hi
theorem X05 {P : Program} {t : Nat} (h : strT P t = true) : P.underlying t = some .string := by
 unfold strT at h;split at h
 ·assumption
 cases h
theorem Y4O (hI : Inv C B kn m σ nx w) {t : Nat} {a i x : AV} {v iv : Value} (h : X8I C.P t a i = some x) (ha : Rel kn m a v) (hi : Rel kn m i iv) : Gives C B kn m σ nx x ((Instr.index t v iv).run C.P w) := by
 unfold X8I at h;split at h
 ·rename_i l k n;cases ha;cases hi;split at h
  ·rename_i hs;split at h
   ·rename_i b hb;cases h;have hlt : n.toNat < l.length := (List.getElem?_eq_some_iff.1 hb).1;refine Gives.pure hI (u := .int .u8 b.toNat) ?_ (.int _ _);have hu := X05 hs.1;have hsz : (ByteArray.mk l.toArray).size = l.length := by simp [ByteArray.size]
    have : (ByteArray.mk l.toArray)[n.toNat]? = some b := by
     rw [ByteArray.getElem?_lt' _ _ (by rw [hsz]; exact hlt)];have := (List.getElem?_eq_some_iff.1 hb).2;rw [<- this]; rfl
    simp [Instr.index, asIntOf, run_underlying hu, hs.2, this]
   cases h
  cases h
 cases h
end
end Go.Ab
namespace Go.Ab
open Go Go.RowKit
section
variable {C : Cx} {B : Base} {kn : Kn} {m : Mp} {σ : Sto} {nx : Nat} {w : World}
theorem X1M {len cap : Nat} {lo hi : Option AV} {l h : Int} {lo' hi' : Option Value} (hb : bndA len lo hi = some (l, h)) (hlo : ∀ a, lo = some a -> ∃ v, lo' = some v /\ Rel kn m a v) (hlo0 : lo = none -> lo' = none)
  (hhi : ∀ a, hi = some a -> ∃ v, hi' = some v /\ Rel kn m a v) (hhi0 : hi = none -> hi' = none) (h0 : 0 <= l) (h1 : l <= h) (h2 : h <= cap) (isS : Bool) :
  (Instr.sliceBounds isS len cap lo' hi' none).run C.P w = .ok (l.toNat, h.toNat, cap) w := by
 have one : ∀ (k : IntKind) (i : Int) (y : Nat) (code : BoundsCode), 0 <= i -> i <= y -> (Instr.sliceBound (.int k i) y code).run C.P w = .ok i.toNat w := by
  intro k i y code a b;simp [Instr.sliceBound, asIntOf, a, b]
 unfold bndA at hb;split at hb
 ·cases hb;rw [hlo0 rfl, hhi0 rfl];simp [Instr.sliceBounds]
 ·rename_i k l';cases hb;obtain ⟨v, e, hr⟩ := hlo _ rfl;cases hr;rw [e, hhi0 rfl];have := one k l len .sliceB h0 h1;simp [Instr.sliceBounds, this]
 ·rename_i k h';cases hb;obtain ⟨v, e, hr⟩ := hhi _ rfl;cases hr;rw [e, hlo0 rfl];have := one k h cap (if isS then .sliceAcap else .sliceAlen) h1 h2;simp [Instr.sliceBounds, this]
 ·rename_i k l' k' h';cases hb;obtain ⟨v, e, hr⟩ := hlo _ rfl;obtain ⟨v', e', hr'⟩ := hhi _ rfl;cases hr; cases hr';rw [e, e'];have a := one k' h cap (if isS then .sliceAcap else .sliceAlen) (by omega) h2;have b := one k l h.toNat .sliceB h0 (by omega);simp [Instr.sliceBounds, a, b]
 cases hb
theorem X4c (hI : Inv C B kn m σ nx w) {t : Nat} {a x : AV} {v : Value} {lo hi mx : Option AV} {lo' hi' mx' : Option Value} (hnt : ∀ e l, a ≠ .tvec e l) (hng : ∀ p nm e l, a ≠ .gs p nm e l) (h : X1I C.P t a lo hi mx = some x) (ha : Rel kn m a v)
  (hlo : ∀ a, lo = some a -> ∃ v, lo' = some v /\ Rel kn m a v) (hlo0 : lo = none -> lo' = none) (hhi : ∀ a, hi = some a -> ∃ v, hi' = some v /\ Rel kn m a v) (hhi0 : hi = none -> hi' = none)
  (hmx : ∀ a, mx = some a -> ∃ v, mx' = some v /\ Rel kn m a v) (hmx0 : mx = none -> mx' = none) :
  Gives C B kn m σ nx x ((Instr.sliceAt t v lo' hi' mx').run C.P w) := by
 unfold X1I at h;split at h
 ·rename_i s;rw [hmx0 rfl];split at h
  ·rename_i hs;split at h
   ·rename_i l h' hb;split at h
    ·rename_i hc;cases h;cases ha;have hsz : (ByteArray.mk s.toArray).size = s.length := by simp [ByteArray.size]
     have hbs := X1M (C := C) (w := w) (cap := s.length) hb hlo hlo0 hhi hhi0 hc.1 hc.2.1 hc.2.2 false;refine Gives.pure hI (u := .string ((ByteArray.mk s.toArray).extract l.toNat h'.toNat)) ?_ ?_
     ·have hu := X05 hs;simp only [Instr.sliceAt, Sem.run_bind, run_underlying hu, Result.andThen_ok, Instr.slice, hsz, hbs];simp [hbs]
     rw [ByteArray.extract_mk];exact .str _
    cases h
   cases h
  cases h
 ·rename_i esz rows;rw [hmx0 rfl];split at h
  ·rename_i e sz by_ l h' he hb;split at h
   ·rename_i hc;cases h;obtain ⟨rfl, h0, h1, h2⟩ := hc;obtain ⟨hu, hsz, _⟩ := X1o he
    have fin : ∀ (ad : Option Addr) (cap : Nat), rows.length <= cap -> (Instr.sliceAt t (.slice ad rows.length cap) lo' hi' none).run C.P w =
      .ok (.slice (if cap = l.toNat then ad else ad.map (·.add (l.toNat * esz))) (h'.toNat - l.toNat) (cap - l.toNat)) w := by
     intro ad cap hcap;have hbs := X1M (C := C) (w := w) (cap := cap) hb hlo hlo0 hhi hhi0 h0 h1 (by omega) true;simp [Instr.sliceAt, run_underlying hu, Instr.slice, hbs, X0l hsz]
    cases ha with
    | vecNil _ ad cap =>
     have hl0 : l = 0 := by simp at h2; omega
     have hh0 : h' = 0 := by simp at h2; omega
     subst hl0; subst hh0;refine Gives.pure hI (fin ad cap (Nat.zero_le _)) ?_;simp;split <;> exact .vecNil _ _ _
    | vecNone _ =>
     have hl0 : l = 0 := by simp at h2; omega
     have hh0 : h' = 0 := by simp at h2; omega
     subst hl0; subst hh0;refine Gives.pure hI (fin none 0 (Nat.zero_le _)) ?_;simp;exact .vecNone _
    | vec _ _ b o cap vals hcp hm hrow hk hr hr1 =>
     refine Gives.pure hI (fin _ cap hcp) ?_
     by_cases hlh : l = h'
     ·subst hlh;simp;split <;> exact .vecNil _ _ _
     have hne : ¬ cap = l.toNat := by omega
     simp only [if_neg hne, Option.map_some, X2F];have hlen : ((rows.drop l.toNat).take (h'.toNat - l.toNat)).length = h'.toNat - l.toNat := by simp; omega
     have := Rel.vec (kn := kn) (m := m) esz ((rows.drop l.toNat).take (h'.toNat - l.toNat)) b (o + l.toNat * esz) (cap - l.toNat) (fun i j => vals (l.toNat + i) j) (by rw [hlen]; omega) (by rw [hlen]; omega)
      (fun i row hi => by
       rw [List.getElem?_take] at hi;split at hi
       ·rw [List.getElem?_drop] at hi; exact hrow _ _ hi
       cases hi)
      (fun i row j y hi hj => by
       rw [List.getElem?_take] at hi;split at hi
       ·rw [List.getElem?_drop] at hi;have := hk _ _ _ _ hi hj;rw [Nat.add_mul] at this;rw [show o + l.toNat * esz + i * esz + j = o + (l.toNat * esz + i * esz) + j by omega];exact this
       cases hi)
      (fun i row j y hi hj => by
       rw [List.getElem?_take] at hi;split at hi
       ·rw [List.getElem?_drop] at hi; exact hr _ _ _ _ hi hj
       cases hi)
      (fun i row j y hi hj => by
       rw [List.getElem?_take] at hi;split at hi
       ·rw [List.getElem?_drop] at hi; exact hr1 _ _ _ _ hi hj
       cases hi)
     rw [hlen] at this;exact this
   cases h
  cases h
 ·exact absurd rfl (hnt _ _)
 ·rename_i p nm esz off len;rw [hmx0 rfl];split at h
  ·rename_i e sz by_ l h' he hb;split at h
   ·rename_i hc;obtain ⟨rfl, h0, h1, h2⟩ := hc;obtain ⟨hu, hsz, _⟩ := X1o he;cases ha with
    | srefNil _ _ _ loc hm hn =>
     have hl0 : l = 0 := by simp at h2; omega
     have hh0 : h' = 0 := by simp at h2; omega
     subst hl0; subst hh0;have hbs := X1M (C := C) (w := w) (cap := 0) hb hlo hlo0 hhi hhi0 (Int.le_refl _) (Int.le_refl _) (by simp) true;have hrun : (Instr.sliceAt t (.slice none 0 0) lo' hi' none).run C.P w = .ok (.slice none 0 0) w := by
      simp [Instr.sliceAt, run_underlying hu, Instr.slice, hbs, X0l hsz]
     refine Gives.pure hI hrun ?_;simp at h;subst h;exact .srefNil p nm esz loc hm hn
    | sref _ _ _ _ _ loc hm hn he' hl hm' =>
     have hbs := X1M (C := C) (w := w) (cap := loc.cap - off) hb hlo hlo0 hhi hhi0 h0 h1 (by omega) true
     have hrun : (Instr.sliceAt t (.slice (some ⟨loc.blk, loc.off + off * loc.esz, none⟩) len (loc.cap - off)) lo' hi' none).run C.P w =
       .ok (.slice (if loc.cap - off = l.toNat then some ⟨loc.blk, loc.off + off * loc.esz, none⟩ else some ⟨loc.blk, loc.off + off * loc.esz + l.toNat * esz, none⟩) (h'.toNat - l.toNat) (loc.cap - off - l.toNat)) w := by
      simp [Instr.sliceAt, run_underlying hu, Instr.slice, hbs, X0l hsz, X2F]
     refine Gives.pure hI hrun ?_;split at h
     ·rename_i hor;cases h;have hadr : (if loc.cap - off = l.toNat then some (⟨loc.blk, loc.off + off * loc.esz, none⟩ : Addr) else some ⟨loc.blk, loc.off + off * loc.esz + l.toNat * esz, none⟩) = some ⟨loc.blk, loc.off + (off + l.toNat) * loc.esz, none⟩ := by
       rw [Nat.add_mul, <- Nat.add_assoc, he'];split
       ·rename_i hcap;have : l.toNat = 0 := by omega
        rw [this]; simp
       rfl
      rw [hadr];rw [show loc.cap - off - l.toNat = loc.cap - (off + l.toNat) by omega];exact .sref p nm esz (off + l.toNat) _ loc hm hn he' (by omega) (by omega)
     rename_i hor;cases h;rw [show h'.toNat - l.toNat = 0 by omega];split <;> exact .vecNil _ _ _
   cases h
  cases h
 ·exact absurd rfl (hng _ _ _ _)
 ·rw [hmx0 rfl];split at h
  ·rename_i e' l h' he hb;split at h
   ·rename_i hc;cases h;obtain ⟨rfl, rfl⟩ := hc;obtain ⟨e, sz, by_⟩ := e';obtain ⟨hu, hsz, _⟩ := X1o he;cases ha;have hbs := X1M (C := C) (w := w) (cap := 0) hb hlo hlo0 hhi hhi0 (Int.le_refl _) (Int.le_refl _) (by simp) true;refine Gives.pure hI (u := .slice none 0 0) ?_ (.base _);simp [Instr.sliceAt, run_underlying hu, Instr.slice, hbs, X0l hsz]
   cases h
  cases h
 ·rename_i a' k kk;obtain ⟨kv, ek, hkr⟩ := hmx _ rfl;cases hkr;rw [ek]
  have three : ∀ (ad : Option Addr) (n cap e sz by_ : Nat) (l h' : Int), elmT C.P t = some (e, sz, by_) -> bndA 0 lo hi = some (l, h') -> l = 0 -> h' = 0 -> hi.isSome = true ->
    (Instr.sliceAt t (.slice ad n cap) lo' hi' (some (.int k 0))).run C.P w = .ok (.slice ad 0 0) w := by
   intro ad n cap e sz by_ l h' he hb hl hh his;subst hl; subst hh;obtain ⟨hu, hsz, _⟩ := X1o he;have one : ∀ (k : IntKind) (y : Nat) (code : BoundsCode), (Instr.sliceBound (.int k 0) y code).run C.P w = .ok 0 w := by
    intro k y code;simp [Instr.sliceBound, asIntOf]
   obtain ⟨hA, rfl⟩ := Option.isSome_iff_exists.1 his;obtain ⟨hv, rfl, hhr⟩ := hhi _ rfl;unfold bndA at hb;cases lo with
   | none =>
    rw [hlo0 rfl];cases hhr <;> simp at hb
    subst hb;simp [Instr.sliceAt, run_underlying hu, Instr.slice, Instr.sliceBounds, one, X0l hsz]
   | some la =>
    obtain ⟨lv, rfl, hlr⟩ := hlo _ rfl;cases hhr <;> cases hlr <;> simp at hb
    obtain ⟨rfl, rfl⟩ := hb;simp [Instr.sliceAt, run_underlying hu, Instr.slice, Instr.sliceBounds, one, X0l hsz]
  split at h
  ·rename_i e' l h' he hb;split at h
   ·rename_i hc;cases h;obtain ⟨h1, rfl, h2, h3, h4⟩ := hc;obtain ⟨e, sz, by_⟩ := e';cases ha with
    | base _ =>
     have hu : v = Value.slice none 0 0 := by
      unfold X4S at h4;split at h4 <;> simp_all
     subst hu;exact Gives.pure hI (three _ _ _ _ _ _ _ _ he hb h2 h3 h1) (.base _)
    | vecNil _ _ _ => exact Gives.pure hI (three _ _ _ _ _ _ _ _ he hb h2 h3 h1) (.emp _)
    | vecNone _ => exact Gives.pure hI (three _ _ _ _ _ _ _ _ he hb h2 h3 h1) .empNone
    | srefNil _ _ _ _ _ _ => exact Gives.pure hI (three _ _ _ _ _ _ _ _ he hb h2 h3 h1) .empNone
    | vec _ _ _ _ _ _ _ _ _ _ _ _ => exact Gives.pure hI (three _ _ _ _ _ _ _ _ he hb h2 h3 h1) (.emp _)
    | sref _ _ _ _ _ _ _ _ _ _ _ => exact Gives.pure hI (three _ _ _ _ _ _ _ _ he hb h2 h3 h1) (.emp _)
    | _ => simp [X4S] at h4
   cases h
  cases h
 cases h
theorem Y4P (hI : Inv C B kn m σ nx w) {t : Nat} {a x : AV} {v : Value} {lo hi mx : Option AV} {lo' hi' mx' : Option Value} (h : X1I C.P t a lo hi mx = some x) (ha : Rel kn m a v)
  (hlo : ∀ a, lo = some a -> ∃ v, lo' = some v /\ Rel kn m a v) (hlo0 : lo = none -> lo' = none) (hhi : ∀ a, hi = some a -> ∃ v, hi' = some v /\ Rel kn m a v) (hhi0 : hi = none -> hi' = none)
  (hmx : ∀ a, mx = some a -> ∃ v, mx' = some v /\ Rel kn m a v) (hmx0 : mx = none -> mx' = none) :
  Gives C B kn m σ nx x ((Instr.sliceAt t v lo' hi' mx').run C.P w) := by
 by_cases hnt : ∃ e l, a = .tvec e l
 ·obtain ⟨e, l, rfl⟩ := hnt;cases mx with
  | some k =>
   unfold X1I at h;cases k <;> simp [X4S] at h
   split at h <;> cases h
  | none =>
   have h0 : ∃ lo2 hi2, bndA l.length lo hi = some (lo2, hi2) /\ x = .tvec e ((l.drop lo2.toNat).take (hi2.toNat - lo2.toNat)) /\ X1I C.P t (.vec e.size (l.map e.row)) lo hi none = some (.vec e.size (((l.drop lo2.toNat).take (hi2.toNat - lo2.toNat)).map e.row)) := by
    unfold X1I at h ⊢;simp only [List.length_map] at h ⊢;cases he : elmT C.P t with
    | none => simp [he] at h
    | some q =>
     obtain ⟨q1, sz, q3⟩ := q;cases hb : bndA l.length lo hi with
     | none => simp [he, hb] at h
     | some r =>
      obtain ⟨lo2, hi2⟩ := r;simp only [he, hb] at h ⊢;split at h
      ·rename_i hc;cases h;exact ⟨lo2, hi2, rfl, rfl, by rw [if_pos hc, List.map_take, List.map_drop]⟩
      cases h
   obtain ⟨lo2, hi2, -, rfl, h0⟩ := h0;exact (X4c hI (fun e l => by simp) (fun p n e l => by simp) h0 (X1R.1 ha) hlo hlo0 hhi hhi0 hmx hmx0).map fun kn' u hr => .tvec _ _ _ hr
 by_cases hng : ∃ p nm e l, a = .gs p nm e l
 ·obtain ⟨p, nm, e, len, rfl⟩ := hng;have ha' : Rel kn m (.sref p nm e.size 0 len) v := by cases ha; assumption
  cases mx with
  | some k =>
   unfold X1I at h;cases k <;> simp [X4S] at h
   split at h <;> cases h
  | none =>
   obtain ⟨y, h0, hy⟩ : ∃ y, X1I C.P t (.sref p nm e.size 0 len) lo hi none = some y /\ ∀ kn' u, Rel kn' m y u -> Rel kn' m x u := by
    unfold X1I at h ⊢;simp only at h ⊢;cases he : elmT C.P t with
    | none => simp [he] at h
    | some q =>
     obtain ⟨q1, sz, q3⟩ := q;cases hb : bndA len lo hi with
     | none => simp [he, hb] at h
     | some r =>
      obtain ⟨l, h'⟩ := r;simp only [he, hb] at h ⊢;split at h
      ·rename_i hc;cases h;rw [if_pos hc];split
       ·refine ⟨_, rfl, fun kn' u hu => .gvS _ _ _ _ _ _ (by rw [Nat.zero_add] at hu; exact hu)⟩
       rename_i hor;have hz : h'.toNat - l.toNat = 0 := by omega
       rw [hz];refine ⟨_, rfl, fun kn' u hu => ?_⟩;cases hu with
       | vecNil => exact .gvE _ _ _ _ _ _
       | vecNone => exact .gvE _ _ _ _ _ _
       | vec => exact .gvE _ _ _ _ _ _
      cases h
   exact (X4c hI (fun e l => by simp) (fun p n e l => by simp) h0 ha' hlo hlo0 hhi hhi0 hmx hmx0).map hy
 exact X4c hI (fun e l hh => hnt ⟨e, l, hh⟩) (fun p n e l hh => hng ⟨p, n, e, l, hh⟩) h ha hlo hlo0 hhi hhi0 hmx hmx0
theorem Y3d (hI : Inv C B kn m σ nx w) {op : BinOp} {t : Nat} {k : IntKind} {p q : Int} {x : AV} {a b : Operand} (h : X1L op k p q = some x) :
  Gives C B kn m σ nx x ((do eqGuard op t a b (.int k p) (.int k q); binOp op t (.int k p) (.int k q) : Sem Value).run C.P w) := by
 simp only [eqGuard_at_int, pure_bind];cases op <;> simp only [X1L, Option.some.injEq] at h
 case add => subst h; exact Gives.pure hI (by simp [binOp_add, Op.intArith]) (.int _ _)
 case sub => subst h; exact Gives.pure hI (by simp [binOp_sub, Op.intArith]) (.int _ _)
 case mul => subst h; exact Gives.pure hI (by simp [binOp_mul, Op.intArith]) (.int _ _)
 case quo =>
  split at h
  ·cases h
  rename_i hq; cases h; exact Gives.pure hI (by simp [binOp_quo, Op.intDiv, hq]) (.int _ _)
 case rem =>
  split at h
  ·cases h
  rename_i hq; cases h; exact Gives.pure hI (by simp [binOp_rem, Op.intDiv, hq]) (.int _ _)
 case and => subst h; exact Gives.pure hI (by simp [binOp_and, intBits_and]) (.int _ _)
 case or => subst h; exact Gives.pure hI (by simp [binOp_or, intBits_or]) (.int _ _)
 case xor => subst h; exact Gives.pure hI (by simp [binOp_xor, intBits_xor]) (.int _ _)
 case andNot => subst h; exact Gives.pure hI (by simp [binOp_andNot, intBits_andNot]) (.int _ _)
 case eql => subst h; exact Gives.pure hI (by simp [binOp_eql]; rfl) (.bool _)
 case neq => subst h; exact Gives.pure hI (by simp [binOp_neq]; rfl) (.bool _)
 case lss => subst h; exact Gives.pure hI (by simp [binOp_lss]) (.bool _)
 case leq => subst h; exact Gives.pure hI (by simp [binOp_leq]) (.bool _)
 case gtr => subst h; exact Gives.pure hI (by simp [binOp_gtr]) (.bool _)
 case geq => subst h; exact Gives.pure hI (by simp [binOp_geq]) (.bool _)
 all_goals cases h
theorem Y3e (hI : Inv C B kn m σ nx w) {op : BinOp} {t : Nat} {p q : List UInt8} {x : AV} {a b : Operand} (h : X5f op p q = some x) :
  Gives C B kn m σ nx x ((do eqGuard op t a b (.string ⟨p.toArray⟩) (.string ⟨q.toArray⟩); binOp op t (.string ⟨p.toArray⟩) (.string ⟨q.toArray⟩) : Sem Value).run C.P w) := by
 have hs : ∀ l : List UInt8, (ByteArray.mk l.toArray).size = l.length := fun l => by simp [ByteArray.size]
 have hb : binOp op t (.string ⟨p.toArray⟩) (.string ⟨q.toArray⟩) = Op.stringOp op ⟨p.toArray⟩ ⟨q.toArray⟩ := by cases op <;> rfl
 have heq : (p == q) = decide (p = q) := by
  by_cases e : p = q <;> simp [e]
 simp only [eqGuard_at_string, pure_bind, hb];cases op <;> simp only [X5f, Option.some.injEq] at h
 case add =>
  split at h
  ·rename_i hl;cases h;refine Gives.pure hI (u := .string (ByteArray.mk p.toArray ++ ByteArray.mk q.toArray)) ?_ ?_
   ·simp only [Op.stringOp, hs, IntKind.max_i64];rw [if_neg (by omega)];rfl
   have : ByteArray.mk p.toArray ++ ByteArray.mk q.toArray = ByteArray.mk (p ++ q).toArray := by
    apply ByteArray.ext;simp
   rw [this];exact .str _
  cases h
 case eql => subst h; exact Gives.pure hI (by simp [Op.stringOp, heq]) (.bool _)
 case neq => subst h; exact Gives.pure hI (by simp [Op.stringOp, heq]) (.bool _)
 case lss => subst h; exact Gives.pure hI (by simp [Op.stringOp]) (.bool _)
 case leq => subst h; exact Gives.pure hI (by simp [Op.stringOp, heq]) (.bool _)
 case gtr => subst h; exact Gives.pure hI (by simp [Op.stringOp, heq]) (.bool _)
 case geq => subst h; exact Gives.pure hI (by simp [Op.stringOp]) (.bool _)
 all_goals cases h
end
end Go.Ab
namespace Go.Ab
open Go Go.RowKit
section
variable {C : Cx} {B : Base} {kn : Kn} {m : Mp} {σ : Sto} {nx : Nat} {w : World}
inductive NV : TypeDesc -> Value -> Bool -> Prop where
 | s0 (e : TypeId) : NV (.slice e) (.slice none 0 0) true
 | s1 (e : TypeId) (a : Addr) (l c : Nat) : NV (.slice e) (.slice (some a) l c) false
 | p0 (e : TypeId) : NV (.pointer e) (.pointer none) true
 | p1 (e : TypeId) (a : Addr) : NV (.pointer e) (.pointer (some a)) false
 | m0 (k e : TypeId) : NV (.map k e) (.map none) true
 | m1 (k e : TypeId) (a : Nat) : NV (.map k e) (.map (some a)) false
 | f0 (x y : _) (z : _) : NV (.func x y z) .nilFunc true
 | f1 (x y : _) (z : _) (f : Fn) (a b : Array Value) : NV (.func x y z) (.func f a b) false
 | i0 (ms : _) : NV (.interface ms) .nilIface true
 | i1 (ms : _) (t : TypeId) (v : Value) : NV (.interface ms) (.iface t v) false
theorem Y98 {p n e o l : Nat} {el : TypeId} {v : Value} (h : Rel kn m (.sref p n e o l) v) (hl : l ≠ 0) : NV (.slice el) v false := by
 cases h with
 | sref => exact .s1 _ _ _ _
 | srefNil => exact absurd rfl hl
theorem Z20 {e : Nat} {rows : List (List AV)} {el : TypeId} {v : Value} (h : Rel kn m (.vec e rows) v) (hl : rows ≠ []) : NV (.slice el) v false := by
 cases h with
 | vec => exact .s1 _ _ _ _
 | vecNil => exact absurd rfl hl
 | vecNone => exact absurd rfl hl
theorem Y7A {d : TypeDesc} {a : AV} {v : Value} {r : Bool} (ha : Rel kn m a v) (ht : nilT d a = true) (hn : nilA a = some r) : NV d v r := by
 unfold nilT at ht;split at ht
 ·cases ha; simp only [nilA, Option.some.injEq] at hn; subst hn; exact .s0 _
 ·cases ha; simp only [nilA, Option.some.injEq] at hn; subst hn; exact .s1 _ _ _ _
 ·simp only [nilA] at hn; split at hn
  ·cases hn
  rename_i h; cases hn; exact Z20 ha (fun e => h (by simp [e]))
 ·simp only [nilA] at hn; split at hn
  ·cases hn
  rename_i h; cases hn; exact Y98 ha h
 ·simp [nilA] at hn
 ·simp only [nilA] at hn; split at hn
  ·cases hn
  rename_i h; cases hn; exact Z20 (X1R.1 ha) (fun e => h (by simpa using e))
 ·simp only [nilA] at hn; split at hn
  ·cases hn
  rename_i h; cases hn; cases ha; rename_i hh; exact Y98 hh h
 ·cases ha; simp only [nilA, Option.some.injEq] at hn; subst hn; exact .p0 _
 ·cases ha; simp only [nilA, Option.some.injEq] at hn; subst hn; exact .p1 _ _
 ·cases ha; simp only [nilA, Option.some.injEq] at hn; subst hn; exact .p1 _ _
 ·cases ha; simp only [nilA, Option.some.injEq] at hn; subst hn; exact .p1 _ _
 ·cases ha; simp only [nilA, Option.some.injEq] at hn; subst hn; exact .m0 _ _
 ·cases ha; simp only [nilA, Option.some.injEq] at hn; subst hn; exact .m1 _ _ _
 ·cases ha; simp only [nilA, Option.some.injEq] at hn; subst hn; exact .f0 _ _ _
 ·cases ha; simp only [nilA, Option.some.injEq] at hn; subst hn; exact .f1 _ _ _ _ _ _
 ·cases ha; simp only [nilA, Option.some.injEq] at hn; subst hn; exact .i0 _
 ·cases ha; simp only [nilA, Option.some.injEq] at hn; subst hn; exact .i1 _ _ _
 ·cases ha <;> (simp only [nilA, Option.some.injEq] at hn; subst hn)
  ·exact .i0 _
  exact .i1 _ _ _
 cases ht
theorem X4p (n : Nat) {t : Nat} {d : TypeDesc} (hd : C.P.underlying t = some d) {a b : AV} {v u : Value} (ha : Rel kn m a v) (hb : Rel kn m b u) (hta : nilT d a = true) (htb : nilT d b = true) {r : Bool} (hna : nilA a = some r) (hnb : nilA b = some true) :
  (Op.equalIn (n + 1) t v u).run C.P w = .ok r w := by
 have h1 := Y7A ha hta hna;have h2 := Y7A hb htb hnb;simp only [Op.equalIn, Sem.run_bind, run_underlying hd, Result.andThen_ok];cases h2 <;> cases h1 <;> rfl
theorem Y4R {y : Operand} (h : X27 y = true) : ∃ c, y = .const c := by
 cases y with
 | const c => exact ⟨c, rfl⟩
 | _ => simp [X27] at h
theorem Y9O (hI : Inv C B kn m σ nx w) {op : BinOp} {t : Nat} {a b x : AV} {v u : Value} {ox oy : Operand} (h : abin C op t ox oy a b = some x) (ha : Rel kn m a v) (hb : Rel kn m b u) :
  Gives C B kn m σ nx x ((do eqGuard op t ox oy v u; binOp op t v u : Sem Value).run C.P w) := by
 unfold abin at h;split at h
 ·rename_i k p k' q;cases ha; cases hb;split at h
  ·split at h
   ·rename_i hq;cases h;refine Gives.pure hI ?_ (.int _ _);simp only [eqGuard_shl, pure_bind, binOp_shl, shift_shl k k' p q hq.1 hq.2, Sem.run_pure]
   cases h
  ·split at h
   ·rename_i hq;cases h;refine Gives.pure hI ?_ (.int _ _);simp only [eqGuard_shr, pure_bind, binOp_shr, shift_shr k k' p q hq.1 hq.2, Sem.run_pure]
   cases h
  split at h
  ·rename_i hk;subst hk;exact Y3d hI h
  cases h
 ·cases ha; cases hb;exact Y3e hI h
 ·rename_i p q;cases ha; cases hb;split at h
  ·rename_i ht;have hu : C.P.underlying t = some .bool := by
    unfold Y1B at ht;split at ht
    ·assumption
    cases ht
   have heq : (Op.equal t (.bool p) (.bool q)).run C.P w = .ok (p == q) w := by
    unfold Op.equal Op.maxDepth;show (Op.equalIn (9999 + 1) t (.bool p) (.bool q)).run C.P w = _;generalize 9999 = n;simp only [Op.equalIn, Sem.run_bind, run_underlying hu, Result.andThen_ok, Sem.run_pure]
   simp only [eqGuard_at_bool, pure_bind];split at h
   ·cases h;exact Gives.pure hI (by simp [binOp, heq]) (.bool _)
   ·cases h;exact Gives.pure hI (by simp [binOp, heq]) (.bool _)
   cases h
  cases h
 rename_i hx1 hx2 hx3;split at h
 ·rename_i hn;obtain ⟨c, rfl⟩ := Y4R hn;split at h
  ·rename_i r h1 h2;cases h;unfold X5n at h1 h2;split at h1
   ·rename_i d hd;simp only [hd] at h2;split at h1
    ·rename_i hta;split at h2
     ·rename_i htb;have heq := X4p (w := w) 9999 hd ha hb hta htb h1 h2;have heq' : (Op.equal t v u).run C.P w = .ok r w := heq;have hg : eqGuard .eql t ox (.const c) v u = pure () := by
       cases Y7A hb htb h2 <;> cases v <;> first | rfl | exact eqGuard_nil_constR _ _ _ _
      have hbn : (binOp .eql t v u).run C.P w = .ok (.bool r) w := by
       have e : binOp .eql t v u = (do pure (.bool (<- Op.equal t v u))) := by
        cases Y7A hb htb h2 <;> cases v <;> rfl
       rw [e]; simp [heq']
      exact Gives.pure hI (by rw [hg]; simpa using hbn) (.bool _)
     cases h2
    cases h1
   cases h1
  ·rename_i r h1 h2;cases h;unfold X5n at h1 h2;split at h1
   ·rename_i d hd;simp only [hd] at h2;split at h1
    ·rename_i hta;split at h2
     ·rename_i htb;have heq := X4p (w := w) 9999 hd ha hb hta htb h1 h2;have heq' : (Op.equal t v u).run C.P w = .ok r w := heq;have hg : eqGuard .neq t ox (.const c) v u = pure () := by
       cases Y7A hb htb h2 <;> cases v <;> first | rfl | exact eqGuard_nil_constR _ _ _ _
      have hbn : (binOp .neq t v u).run C.P w = .ok (.bool (!r)) w := by
       have e : binOp .neq t v u = (do pure (.bool (!(<- Op.equal t v u)))) := by
        cases Y7A hb htb h2 <;> cases v <;> rfl
       rw [e]; simp [heq']
      exact Gives.pure hI (by rw [hg]; simpa using hbn) (.bool _)
     cases h2
    cases h1
   cases h1
  cases h
 cases h
theorem Z1M (hI : Inv C B kn m σ nx w) {op : UnOp} {a x : AV} {v : Value} (h : aun op a = some x) (ha : Rel kn m a v) : Gives C B kn m σ nx x ((Op.unary op v).run C.P w) := by
 unfold aun at h;split at h
 ·cases h; cases ha; exact Gives.pure hI (by simp [unary_neg, Op.intArith]) (.int _ _)
 ·cases h; cases ha; exact Gives.pure hI (by simp [unary_not]) (.bool _)
 cases h
theorem X6t {P : Program} {t : Nat} (h : bytT P t = true) : ∃ e, P.underlying t = some (.slice e) /\ P.underlying e = some (.int .u8) := by
 unfold bytT at h;split at h
 ·rename_i e he;split at h
  ·rename_i h2; exact ⟨e, he, h2⟩
  cases h
 cases h
theorem Y2Q (g o j : Nat) : (⟨g, o, none⟩ : Addr).add j = ⟨g, o + j, none⟩ := by
 unfold Addr.add
 by_cases h : j = 0
 ·subst h; simp
 simp [h]
theorem X3x : ∀ (l : List Int) (r : ByteArray), l.foldl (fun r n => r.push (UInt8.ofNat n.toNat)) r = ⟨r.data ++ (strOf l).toArray⟩
 | [], r => by simp [strOf]
 | b :: l, r => by
  simp only [List.foldl_cons];rw [X3x l];simp [ByteArray.push, strOf]
theorem Y4M (hI : Inv C B kn m σ nx w) {s d : Nat} {l : List UInt8} (hs : strT C.P s = true) (hd : bytT C.P d = true) (hl : l.length <= 4611686018427387904) : Gives C B kn m σ nx (.tvec (.int .u8) (X0f l)) ((convert s d (.string ⟨l.toArray⟩)).run C.P w) := by
 obtain ⟨e, hd1, hd2⟩ := X6t hd;have hrun := run_bytes_of_string w s d e ⟨l.toArray⟩ (X05 hs) hd1 hd2;generalize hrow : bytesRow ⟨l.toArray⟩ (grownCap w (⟨l.toArray⟩ : ByteArray).size 0 e) = row at hrun;have hsz : (⟨l.toArray⟩ : ByteArray).size = l.length := by simp [ByteArray.size]
 have hcap := grownCap_ge w l.length 0 e;rw [hsz] at hrun hrow;have hget : ∀ (i : Nat) (b : UInt8), l[i]? = some b -> row[i]? = some (Value.int .u8 b.toNat) := fun i b h => by
  rw [<- hrow];have hi := (List.getElem?_eq_some_iff.1 h).1;unfold bytesRow;rw [Array.getElem?_append_left (by simpa using hi)];simp [h]
 have hI0 := hI.drew;obtain ⟨k1, k2⟩ := hI.grow (kn' := X7j kn w.heap.size row) (w' := w.drew.alloc (.cells row e (row.size, row.size + 1))) (by simp) rfl rfl rfl (fun b hb => Below.heap_alloc w.drew _ _ hb) (fun b hb => by funext o; simp [X7j, Nat.ne_of_lt hb]) (fun b o v hb h => by
  unfold X7j at h;split at h
  ·rename_i hbb;subst hbb;have : (w.drew.alloc (.cells row e (row.size, row.size + 1))).heap[w.heap.size]? = some (.cells row e (row.size, row.size + 1)) := heap_alloc_new w.drew _;unfold World.cell?;simp only [this];simpa using h
  exact absurd (hI.kn_lt h) (by omega))
 refine ⟨_, _, _, hrun, k1, .tvec _ _ _ ?_, k2⟩;have hlen : ((X0f l).map (E.row (.int .u8))).length = l.length := by
  show (List.map (fun n : Int => [AV.int .u8 n]) (l.map fun b => (b.toNat : Int))).length = _;simp
 have hmem : ∀ (i : Nat) (r : List AV), ((X0f l).map (E.row (.int .u8)))[i]? = some r -> ∃ b, l[i]? = some b /\ r = [.int .u8 (b.toNat : Int)] := fun i r h => by
  have h : (List.map (fun n : Int => [AV.int .u8 n]) (l.map fun b => (b.toNat : Int)))[i]? = some r := h;rw [List.map_map, List.getElem?_map] at h;cases hx : l[i]? with
  | none => rw [hx] at h; cases h
  | some b => rw [hx] at h; cases h; exact ⟨b, rfl, rfl⟩
 have hv := Rel.vec (kn := X7j kn w.heap.size row) (m := m) 1 ((X0f l).map (E.row (.int .u8))) w.heap.size 0 (grownCap w l.length 0 e) (fun i _ => .int .u8 ((l.getD i 0).toNat)) (by rw [hlen]; exact hcap) (by rw [hlen]; exact hl)
  (fun i r h => by obtain ⟨b, _, rfl⟩ := hmem i r h; rfl)
  (fun i r j x h hj => by
   obtain ⟨b, hb, rfl⟩ := hmem i r h;have hj0 : j = 0 := by
    have := (List.getElem?_eq_some_iff.1 hj).1;simp at this; exact this
   subst hj0;rw [Nat.zero_add, Nat.mul_one, Nat.add_zero, Y7t, hget i b hb];simp [List.getD_eq_getElem?_getD, hb])
  (fun i r j x h hj => by
   obtain ⟨b, hb, rfl⟩ := hmem i r h;have hj0 : j = 0 := by
    have := (List.getElem?_eq_some_iff.1 hj).1;simp at this; exact this
   subst hj0;simp at hj;subst hj;simp [List.getD_eq_getElem?_getD, hb];exact .int _ _)
  (fun i r j x h hj => rfl)
 rw [hlen] at hv;exact hv
theorem Y3f (hI : Inv C B kn m σ nx w) {s d : Nat} {l : List Int} {v : Value} (hs : bytT C.P s = true) (hd : strT C.P d = true) (ha : Rel kn m (.tvec (.int .u8) l) v) : Gives C B kn m σ nx (.str (strOf l)) ((convert s d v).run C.P w) := by
 obtain ⟨e, hs1, hs2⟩ := X6t hs;have ha := X1R.1 ha;have hrow : ∀ (j : Nat) (n : Int), l[j]? = some n -> (List.map (E.row (.int .u8)) l)[j]? = some [.int .u8 n] := fun j n h => show (List.map (fun n : Int => [AV.int .u8 n]) l)[j]? = _ from by rw [List.getElem?_map, h]; rfl
 have hlen : (List.map (E.row (.int .u8)) l).length = l.length := List.length_map ..;generalize hrs : List.map (E.row (.int .u8)) l = rows at ha hrow hlen;have hesz : (E.int .u8).size = 1 := rfl;rw [hesz] at ha;have hnil : rows = [] -> l = [] := fun h => by rw [h] at hlen; exact List.eq_nil_of_length_eq_zero hlen.symm
 cases ha with
 | vecNil _ a cap =>
  have := hnil rfl;subst this;refine Gives.pure hI ?_ (.str _);rw [run_convert_bytes_string w s d e (some a) 0 cap hs1 hs2 (X05 hd)];rw [run_bytesToString w a 0 cap [] (by rfl), X3x];rfl
 | vecNone =>
  have := hnil rfl;subst this;refine Gives.pure hI ?_ (.str _);rw [run_convert_bytes_string w s d e none 0 0 hs1 hs2 (X05 hd)];rfl
 | vec _ _ b o cap vals hc hm hr hk hrel h1 =>
  refine Gives.pure hI ?_ (.str _);rw [run_convert_bytes_string w s d e _ _ cap hs1 hs2 (X05 hd)];have hcells := run_loadCells_list (P := C.P) w ⟨b, o, none⟩ (l.map (Value.int .u8)) (fun j v hj => by
   rw [List.getElem?_map] at hj;cases hlj : l[j]? with
   | none => rw [hlj] at hj; cases hj
   | some n =>
    rw [hlj] at hj;cases hj;have q1 := hk j _ 0 _ (hrow j n hlj) rfl;have q2 := hrel j _ 0 _ (hrow j n hlj) rfl;rw [Nat.mul_one, Nat.add_zero] at q1;rw [Y2Q, hI.knok _ _ _ q1];generalize vals j 0 = u at q2;cases q2; rfl)
  rw [List.length_map] at hcells;rw [hlen, run_bytesToString w _ _ cap l hcells, X3x];have he0 : ByteArray.empty.data = #[] := rfl;rw [he0];simp
theorem Y7p (hI : Inv C B kn m σ nx w) {s d : Nat} {a x : AV} {v : Value} (h : Y2P C.P s d a = some x) (ha : Rel kn m a v) : Gives C B kn m σ nx x ((convert s d v).run C.P w) := by
 unfold Y2P at h;split at h
 ·cases ha;split at h
  ·rename_i k hs hd;cases h;obtain ⟨ds, hs'⟩ := Option.isSome_iff_exists.1 hs;have hd' : C.P.underlying d = some (.int k) := by
    unfold intT at hd;split at hd
    ·cases hd; assumption
    cases hd
   refine Gives.pure hI ?_ (.int _ _);simp [convert, run_underlying hs', run_underlying hd', Conv.intToInt]
  cases h
 ·cases ha;split at h
  ·rename_i hc;cases h;refine Gives.pure hI ?_ (.str _);simp [convert, run_underlying (X05 hc.1), run_underlying (X05 hc.2)]
  split at h
  ·rename_i hc;cases h;exact Y4M hI hc.1 hc.2.1 hc.2.2
  cases h
 ·split at h
  ·rename_i hc;cases h;exact Y3f hI hc.1 hc.2 ha
  cases h
 ·split at h
  ·rename_i hc;obtain ⟨l, h1, rfl⟩ := Option.map_eq_some_iff.1 h;obtain ⟨rfl, hc1, hc2⟩ := hc;have := X67 _ _ h1;subst this;exact Y3f hI hc1 hc2 (.tvec (.int .u8) l v ha)
  cases h
 cases h
theorem Y4Q (hI : Inv C B kn m σ nx w) {s d p nm len ety : Nat} {l : List Int} {v : Value} (hs : bytT C.P s = true) (hd : strT C.P d = true) (hp : σ[p]? = some (nm, .tg (.int .u8) ety l)) (ha : Rel kn m (.gs p nm (.int .u8) len) v) : Gives C B kn m σ nx (.str (strOf l)) ((convert s d v).run C.P w) := by
 obtain ⟨e, hs1, hs2⟩ := X6t hs;have hob : GvRel kn m w nm 1 ety (List.map (E.row (.int .u8)) l) := hI.obj p nm _ hp;have hrow : ∀ (j : Nat) (n : Int), l[j]? = some n -> (List.map (E.row (.int .u8)) l)[j]? = some [.int .u8 n] := fun j n h => show (List.map (fun n : Int => [AV.int .u8 n]) l)[j]? = _ from by rw [List.getElem?_map, h]; rfl
 have hlen : (List.map (E.row (.int .u8)) l).length = l.length := List.length_map ..;generalize hrs : List.map (E.row (.int .u8)) l = rows at hob hrow hlen;obtain ⟨locx, hmx, hl0, hob⟩ := hob;cases ha with
 | gs _ _ _ _ _ loc hm hl hsl =>
  rw [hmx] at hm; cases hm;have hll : len = l.length := by rw [<- hl, hl0, hlen]
  subst hll;have hsl : Rel kn m (.sref p nm 1 0 l.length) v := hsl;generalize hn : l.length = n at hsl;cases hsl with
  | srefNil _ _ _ locz hz hznil =>
   have : l = [] := List.eq_nil_of_length_eq_zero hn;subst this;refine Gives.pure hI ?_ (.str _);rw [run_convert_bytes_string w s d e none 0 0 hs1 hs2 (X05 hd)];rfl
  | sref _ _ _ _ _ locz hz hznil hze hzl hzm =>
   subst hn;rw [hmx] at hz; cases hz;rcases hob with ⟨hnil, _⟩ | ⟨_, hesz, arr, hw, hsz, hcap, hmax, hone, hrw, hrel⟩
   ·rw [hnil] at hznil; cases hznil
   refine Gives.pure hI ?_ (.str _);rw [run_convert_bytes_string w s d e _ _ _ hs1 hs2 (X05 hd)];have hcells := run_loadCells_list (P := C.P) w ⟨locx.blk, locx.off + 0 * locx.esz, none⟩ (l.map (Value.int .u8)) (fun j v hj => by
    rw [List.getElem?_map] at hj;cases hlj : l[j]? with
    | none => rw [hlj] at hj; cases hj
    | some n =>
     rw [hlj] at hj;cases hj;have hjl := (List.getElem?_eq_some_iff.1 hlj).1;have hin : locx.off + j < arr.size := by rw [hlen] at hcap; omega
     have q2 := hrel j _ 0 _ arr[locx.off + j] (hrow j n hlj) rfl (by rw [Nat.mul_one, Nat.add_zero]; exact Array.getElem?_eq_getElem hin);rw [Nat.zero_mul, Nat.add_zero, Y2Q];simp only [World.cell?, hw];rw [Array.getElem?_eq_getElem hin];generalize arr[locx.off + j] = u at q2;cases q2; rfl)
   rw [List.length_map] at hcells;rw [run_bytesToString w _ _ _ l hcells, X3x];have he0 : ByteArray.empty.data = #[] := rfl;rw [he0];simp
theorem Y0G {P : Program} {t : Nat} (h : slcT P t = true) : ∃ e, P.underlying t = some (.slice e) := by
 unfold slcT at h;split at h
 ·rename_i e hu; exact ⟨e, hu⟩
 cases h
theorem run_len_slice {t ty e : Nat} (hu : C.P.underlying t = some (.slice e)) (ad : Option Addr) (n cap : Nat) : (Builtin.len_ #[t] ty #[.slice ad n cap]).run C.P w = .ok (.int .i64 n) w := by
 simp [Builtin.len_, run_underlying hu, goInt]
theorem Y30 {esz : Nat} {rows : List (List AV)} {v : Value} (h : Rel kn m (.vec esz rows) v) : ∃ ad cap, v = .slice ad rows.length cap := by
 cases h <;> exact ⟨_, _, rfl⟩
theorem X6I {p n e o l : Nat} {v : Value} (h : Rel kn m (.sref p n e o l) v) : ∃ ad cap, v = .slice ad l cap := by
 cases h <;> exact ⟨_, _, rfl⟩
theorem Y9R (hI : Inv C B kn m σ nx w) {t ty : Nat} {a x : AV} {v : Value} (h : lenA C.P t a = some x) (ha : Rel kn m a v) : Gives C B kn m σ nx x ((Builtin.len_ #[t] ty #[v]).run C.P w) := by
 have hs : ∀ l : List UInt8, (ByteArray.mk l.toArray).size = l.length := fun l => by simp [ByteArray.size]
 have key : slcT C.P t = true -> ∀ n : Nat, (∃ ad cap, v = .slice ad n cap) -> Gives C B kn m σ nx (.int .i64 n) ((Builtin.len_ #[t] ty #[v]).run C.P w) := fun hc n hv => by
  obtain ⟨e, hu⟩ := Y0G hc;obtain ⟨ad, cap, rfl⟩ := hv;exact Gives.pure hI (run_len_slice hu ad n cap) (.int _ _)
 unfold lenA at h;split at h
 ·cases ha;split at h
  ·rename_i l hc;cases h;have := Go.run_len_string (P := C.P) w t ty (ByteArray.mk l.toArray) (X05 hc);rw [hs] at this;exact Gives.pure hI this (.int _ _)
  cases h
 ·split at h
  ·rename_i hc; cases h; exact key hc _ (Y30 ha)
  cases h
 ·split at h
  ·rename_i hc; cases h; have := Y30 (X1R.1 ha); rw [List.length_map] at this; exact key hc _ this
  cases h
 ·split at h
  ·rename_i hc; cases h; cases ha; rename_i hh; exact key hc _ (X6I hh)
  cases h
 ·split at h
  ·rename_i hc;cases h;cases ha with
   | gvE => exact key hc 0 ⟨_, _, rfl⟩
   | gvS _ _ _ _ _ _ hh => exact key hc _ (X6I hh)
  cases h
 ·split at h
  ·rename_i hc; cases h; exact key hc _ (X6I ha)
  cases h
 ·split at h
  ·rename_i hc; cases h; exact key hc 0 (by cases ha <;> exact ⟨_, _, rfl⟩)
  cases h
 ·split at h
  ·rename_i hc; cases h; exact key hc 0 (by cases ha; exact ⟨_, _, rfl⟩)
  cases h
 cases h
theorem Y9Q (hI : Inv C B kn m σ nx w) {i : Nat} {a x : AV} {v : Value} (h : extA a i = some x) (ha : Rel kn m a v) : Gives C B kn m σ nx x ((Instr.extract v i).run C.P w) := by
 unfold extA at h;split at h
 ·cases ha with
  | tup _ vs hl hr =>
   have hlt : i < vs.size := by rw [<- hl]; exact (List.getElem?_eq_some_iff.1 h).1
   exact Gives.pure hI (u := vs[i]) (by simp [Instr.extract, hlt]) (hr i x _ h (by simp [hlt]))
 cases h
theorem X95 {P : Program} {t : Nat} (h : conT P t = true) : ∃ d, P.underlying t = some d /\ ∀ ms, d ≠ .interface ms := by
 unfold conT at h;split at h
 ·cases h
 ·cases h
 rename_i x h1 h2;cases hx : P.underlying t with
 | none => exact absurd hx h2
 | some d => exact ⟨d, rfl, fun ms e => h1 ms (by rw [hx, e])⟩
theorem X9s {t : Nat} {z : AV} (h : assertA.zeroV C.P t = some z) : ∃ u, (zeroValue t).run C.P w = .ok u w /\ Rel kn m z u := by
 unfold assertA.zeroV at h;cases hi : C.P.info? t with
 | none => simp [hi] at h
 | some i =>
  cases hz : i.zero with
  | none => simp [hi, hz] at h
  | some v =>
   simp only [hi, Option.bind_some, hz] at h;refine ⟨v, by simp [zeroValue, typeInfo, hi, hz], ?_⟩;split at h
   ·rename_i cs;simp only [Option.ite_none_right_eq_some, Option.some.injEq] at h;obtain ⟨h1, rfl⟩ := h;refine .agg _ _ (by simp) (fun j x v a b => ?_) (fun j v b => List.all_eq_true.1 h1 v (List.mem_of_getElem? (by simpa using b)));rw [List.getElem?_map] at a;have b' : cs.toList[j]? = some v := by simpa using b
    rw [b'] at a;simp at a;subst a;exact X4k kn m v
   cases h;exact X4k kn m _
theorem Y3c (hI : Inv C B kn m σ nx w) {xt t : Nat} {ok : Bool} {a x : AV} {v : Value} (h : assertA C.P a t ok = some x) (ha : Rel kn m a v) : Gives C B kn m σ nx x ((Instr.typeAssert v xt t ok).run C.P w) := by
 have tup2 : ∀ (a b : AV) (u v : Value), Rel kn m a u -> Rel kn m b v -> Rel kn m (.tup [a, b]) (.tuple #[u, v]) := fun a b u v h1 h2 =>
  .tup _ _ rfl (fun i x y p q => by
   match i with
   | 0 => simp at p q; subst p; subst q; exact h1
   | 1 => simp at p q; subst p; subst q; exact h2
   | i + 2 => simp at p)
 unfold assertA at h;split at h
 ·rename_i hc;obtain ⟨d, hd, hni⟩ := X95 hc;split at h
  ·rename_i t' y;cases ha with
   | iface _ _ v' hr =>
    split at h
    ·rename_i he;subst he;cases h;cases ok
     ·refine Gives.pure hI (u := v') ?_ hr;cases d <;> simp [Instr.typeAssert, run_underlying hd] <;> exact absurd rfl (hni _)
     refine Gives.pure hI (u := .tuple #[v', .bool true]) ?_ (tup2 _ _ _ _ hr (.bool _));cases d <;> simp [Instr.typeAssert, run_underlying hd] <;> exact absurd rfl (hni _)
    rename_i he;cases ok
    ·simp at h
    simp only [if_true] at h;split at h
    ·rename_i z hz;cases h;obtain ⟨u, hu, hzr⟩ := X9s (kn := kn) (m := m) (w := w) hz;refine Gives.pure hI (u := .tuple #[u, .bool false]) ?_ (tup2 _ _ _ _ hzr (.bool _));cases d <;> simp [Instr.typeAssert, run_underlying hd, he, hu] <;> exact absurd rfl (hni _)
    cases h
  ·cases ha;cases ok
   ·simp at h
   simp only [if_true] at h;split at h
   ·rename_i z hz;cases h;obtain ⟨u, hu, hzr⟩ := X9s (kn := kn) (m := m) (w := w) hz;refine Gives.pure hI (u := .tuple #[u, .bool false]) ?_ (tup2 _ _ _ _ hzr (.bool _));cases d <;> simp [Instr.typeAssert, run_underlying hd, hu] <;> exact absurd rfl (hni _)
   cases h
  cases h
 cases h
theorem X3E {env : Nat -> AV} {n : Nat} {act : Act} (hI : Inv C B kn m σ nx w) (hE : RelEnv kn m env n act) (l : Array Operand) :
  (l.toList.map (opv C env)).length = (l.map act.eval).size /\ ∀ (i : Nat) (x : AV) (v : Value), (l.toList.map (opv C env))[i]? = some x -> (l.map act.eval)[i]? = some v -> Rel kn m x v := by
 refine ⟨by simp, fun i x v a b => ?_⟩;rw [List.getElem?_map] at a;rw [Array.getElem?_map] at b;have hl : l.toList[i]? = l[i]? := by simp
 rw [hl] at a;cases ho : l[i]? with
 | none => simp [ho] at a
 | some o =>
  simp [ho] at a b;subst a; subst b;exact X0o hI hE o
theorem X1w {env : Nat -> AV} {n : Nat} {act : Act} (hI : Inv C B kn m σ nx w) (hE : RelEnv kn m env n act) (l : Array (Nat × Operand)) :
  (l.toList.map fun p => (p.1, opv C env p.2)).length = (l.map fun (i, x) => (i, act.eval x)).size /\
  ∀ (i : Nat) (p : Nat × AV) (p' : Nat × Value), (l.toList.map fun p => (p.1, opv C env p.2))[i]? = some p -> (l.map fun (i, x) => (i, act.eval x))[i]? = some p' -> p.1 = p'.1 /\ Rel kn m p.2 p'.2 := by
 refine ⟨by simp, fun i p p' a b => ?_⟩;rw [List.getElem?_map] at a;rw [Array.getElem?_map] at b;have hl : l.toList[i]? = l[i]? := by simp
 rw [hl] at a;cases ho : l[i]? with
 | none => simp [ho] at a
 | some o =>
  simp [ho] at a b;subst a; subst b;exact ⟨rfl, X0o hI hE o.2⟩
theorem X1n {env : Nat -> AV} {n : Nat} {act : Act} (hI : Inv C B kn m σ nx w) (hE : RelEnv kn m env n act) (o : Option Operand) :
  (∀ a, o.map (opv C env) = some a -> ∃ v, o.map act.eval = some v /\ Rel kn m a v) /\ (o.map (opv C env) = none -> o.map act.eval = none) := by
 cases o with
 | none => exact ⟨fun a h => by simp at h, fun _ => rfl⟩
 | some x => exact ⟨fun a h => by simp at h; subst h; exact ⟨_, rfl, X0o hI hE x⟩, fun h => by simp at h⟩
theorem Y9k {a : Array Value} (h : a.size = 1) : ∃ v, a = #[v] := by
 obtain ⟨l⟩ := a
 match l, h with
 | [v], _ => exact ⟨v, rfl⟩
theorem Y1s {a : Array Value} (h : a.size = 2) : ∃ v u, a = #[v, u] := by
 obtain ⟨l⟩ := a
 match l, h with
 | [v, u], _ => exact ⟨v, u, rfl⟩
def X0n : Op -> Bool
 | .alloc _ => true
 | _ => false
theorem Y9F {env : Nat -> AV} {n : Nat} {act : Act} (hI : Inv C B kn m σ nx w) (hE : RelEnv kn m env n act) {al : Nat × Nat} {o : Oper} {x : AV} (hna : X0n o.op = false) (h : fop C al o.op env σ = some x) :
  ∃ u kn' w', (execOp act.eval o).run C.P w = .ok (.value u) w' /\ KnLe kn kn' /\ Rel kn' m x u /\ Inv C B kn' m σ nx w' := by
 have lift : ∀ {s : Sem Value}, (execOp act.eval o = do pure (.value (<- s))) -> Gives C B kn m σ nx x (s.run C.P w) -> ∃ u kn' w', (execOp act.eval o).run C.P w = .ok (.value u) w' /\ KnLe kn kn' /\ Rel kn' m x u /\ Inv C B kn' m σ nx w' := by
  intro s e ⟨u, kn', w', h1, h2, h3, h4⟩;exact ⟨u, kn', w', by rw [e]; simp [h1], h2, h3, h4⟩
 obtain ⟨dst, op, type, pos, after, guard⟩ := o;simp only at h hna;unfold fop at h;split at h
 ·rename_i y; cases h; exact ⟨_, kn, w, rfl, KnLe.refl _, X0o hI hE y, hI⟩
 ·rename_i y; cases h; exact ⟨_, kn, w, rfl, KnLe.refl _, X0o hI hE y, hI⟩
 ·rename_i c a b;split at h
  ·rename_i t ht;cases h;have hc := X0o hI hE c;rw [ht] at hc;generalize hcv : act.eval c = cv at hc;cases hc;refine lift (s := do pure (if <- asBool (act.eval c) then act.eval a else act.eval b)) (by simp [execOp]) (Gives.pure hI (u := if t = true then act.eval a else act.eval b) (by simp [hcv, asBool]) ?_);cases t
   ·exact X0o hI hE b
   exact X0o hI hE a
  cases h
 ·simp [X0n] at hna
 ·rename_i T y;cases hc : X0O (opv C env y) with
  | none => simp [hc] at h
  | some cs =>
   simp [hc] at h;subst h;exact lift rfl (Y9P hI (X0o hI hE y) hc T)
 ·rename_i t parts;split at h
  ·rename_i z pl hz hb;cases hf : Y3a (pl[·]?) z (parts.toList.map fun p => (p.1, opv C env p.2)) with
   | none => simp [hf] at h
   | some cs =>
    simp [hf] at h;subst h;exact lift rfl (Y4L hI hz hb hf (X1w hI hE parts).1 (X1w hI hE parts).2)
  cases h
 ·rename_i t len parts;split at h
  ·rename_i e sz by_ he;split at h
   ·rename_i z hz;split at h
    ·rename_i hc;cases hr : X4o sz (List.replicate len z) (parts.toList.map fun p => (p.1, opv C env p.2)) with
     | none => simp [hr] at h
     | some rows =>
      simp [hr] at h;subst h;obtain ⟨arr, h1, h2, h3, h4⟩ := X2c hI he hz hc.1 hc.2.1 hc.2.2 hr (X1w hI hE parts).1 (X1w hI hE parts).2;have hlen : len <= 2 ^ 62 := by
       have : len * 1 <= len * sz := Nat.mul_le_mul_left _ hc.1;have h2 : (16777216 : Nat) <= 2 ^ 62 := by decide
       omega
      exact lift rfl (Y9S hI h2 h3 h4 hc.1 hlen h1)
    cases h
   cases h
  cases h
 ·rename_i T a;obtain ⟨u, h1, h2⟩ := Y3J hI h (X0o hI hE a);exact lift rfl (Gives.pure hI h1 h2)
 ·rename_i y;unfold Y6p at h;have hr := X0o hI hE y;generalize hv : act.eval y = v at hr;split at h
  ·rename_i hy;cases h;rw [hy] at hr;cases hr with
   | rptr cs b o vals hk hh hh1 => exact ⟨_, kn, w, by simp [execOp, hv], KnLe.refl _, .rptr _ b o vals hk hh hh1, hI⟩
  ·rename_i hy;cases h;rw [hy] at hr;cases hr with
   | ref p nm o loc hm => exact ⟨_, kn, w, by simp [execOp, hv], KnLe.refl _, .ref _ _ _ loc hm, hI⟩
  ·rename_i hy;cases h;rw [hy] at hr;cases hr with
   | eref p nm i o loc hm => exact ⟨_, kn, w, by simp [execOp, hv], KnLe.refl _, .eref _ _ _ _ loc hm, hI⟩
  ·rename_i hy;cases h;rw [hy] at hr;cases hr with
   | fn f a b a' b' h1 h2 h3 h4 => exact ⟨_, kn, w, by simp [execOp, hv], KnLe.refl _, .fn _ _ _ a' b' h1 h2 h3 h4, hI⟩
  cases h
 ·rename_i bop t a b yt;exact lift rfl (Y9O hI h (X0o hI hE a) (X0o hI hE b))
 ·rename_i uop t a;exact lift rfl (Z1M hI h (X0o hI hE a))
 ·rename_i s d a;exact lift rfl (Y7p hI h (X0o hI hE a))
 ·rename_i t a;split at h
  ·rename_i hc;cases h;obtain ⟨d, hd, hni⟩ := X95 hc;refine lift rfl (Gives.pure hI (u := .iface t (act.eval a)) ?_ (.iface t _ _ (X0o hI hE a)));cases d <;> simp [Instr.makeInterface, run_underlying hd] <;> exact absurd rfl (hni _)
  cases h
 ·rename_i f a b;cases h;refine lift rfl (Gives.pure hI (u := .func f (a.map act.eval) (b.map act.eval)) rfl ?_);exact .fn f _ _ _ _ (X3E hI hE a).1 (X3E hI hE b).1 (X3E hI hE a).2 (X3E hI hE b).2
 ·rename_i s a f;exact lift rfl (X8F hI h (X0o hI hE a))
 ·rename_i t a f;exact lift rfl (Y4N hI h (X0o hI hE a))
 ·rename_i t a i;exact lift rfl (X8G hI h (X0o hI hE a) (X0o hI hE i))
 ·rename_i t a i;exact lift rfl (Y4O hI h (X0o hI hE a) (X0o hI hE i))
 ·rename_i t a lo hi mx;exact lift rfl (Y4P hI h (X0o hI hE a) (X1n hI hE lo).1 (X1n hI hE lo).2 (X1n hI hE hi).1 (X1n hI hE hi).2 (X1n hI hE mx).1 (X1n hI hE mx).2)
 ·rename_i a i;exact lift rfl (Y9Q hI h (X0o hI hE a))
 ·rename_i a xt t ok;exact lift rfl (Y3c hI h (X0o hI hE a))
 ·rename_i c;split at h
  ·rename_i b hb;have hargs := X3E hI hE c.args
   obtain ⟨consts, hexec⟩ : ∃ consts, execOp act.eval { dst := dst, op := .call c, type := type, pos := pos, after := after, guard := guard } = builtin b c.argTypes type consts (c.args.map act.eval) :=
    ⟨_, by simp only [execOp, resolve, hb, invoke, pure_bind]; rfl⟩
   unfold bfun at h;split at h
   ·rename_i t x' ht hx;rw [hx] at hargs;have hsz : (c.args.map act.eval).size = 1 := hargs.1.symm;obtain ⟨v, hv⟩ := Y9k hsz;have hr := hargs.2 0 x' v rfl (by rw [hv]; rfl);have hts : c.argTypes = #[t] := by rw [<- Array.toArray_toList (xs := c.argTypes), ht]
    refine lift (s := Builtin.len_ #[t] type #[v]) ?_ (Y9R hI h hr);rw [hexec, hv, hts];rfl
   ·rename_i ts x' y' hx;rw [hx] at hargs;have hsz : (c.args.map act.eval).size = 2 := hargs.1.symm;obtain ⟨v, u, hv⟩ := Y1s hsz;have h1 := hargs.2 0 x' v rfl (by rw [hv]; rfl);have h2 := hargs.2 1 y' u rfl (by rw [hv]; rfl);unfold maxA at h;split at h
    ·rename_i k p k' q;cases h;cases h1; cases h2;refine lift (s := Builtin.max_ c.argTypes type #[.int k p, .int k' q]) ?_ (Gives.pure hI (u := .int k (if q > p then q else p)) ?_ (.int _ _))
     ·rw [hexec, hv]; rfl
     simp [Builtin.max_, Builtin.max2]
    cases h
   ·rename_i ts x' y' hx;rw [hx] at hargs;have hsz : (c.args.map act.eval).size = 2 := hargs.1.symm;obtain ⟨v, u, hv⟩ := Y1s hsz;have h1 := hargs.2 0 x' v rfl (by rw [hv]; rfl);have h2 := hargs.2 1 y' u rfl (by rw [hv]; rfl);unfold maxA at h;split at h
    ·rename_i k p k' q;cases h;cases h1; cases h2;refine lift (s := Builtin.min_ c.argTypes type #[.int k p, .int k' q]) ?_ (Gives.pure hI (u := .int k (if q < p then q else p)) ?_ (.int _ _))
     ·rw [hexec, hv]; rfl
     simp [Builtin.min_, Builtin.min2]
    cases h
   cases h
  cases h
 cases h
end
end Go.Ab
namespace Go.Ab
open Go Go.RowKit
structure Keep (m : Mp) (σ : Sto) (nx : Nat) (m' : Mp) (σ' : Sto) (nx' : Nat) : Prop where
 le : nx <= nx'
 ag : ∀ n, n < nx -> m' n = m n
 pend : ∀ (p nm : Nat) (ob : AObj), σ[p]? = some (nm, ob) -> m nm = none -> σ'[p]? = some (nm, ob)
theorem Keep.refl (m : Mp) (σ : Sto) (nx : Nat) : Keep m σ nx m σ nx := ⟨Nat.le_refl _, fun _ _ => rfl, fun _ _ _ h _ => h⟩
theorem Keep.mple {C : Cx} {B : Base} {kn : Kn} {m m' : Mp} {σ σ' : Sto} {nx nx' : Nat} {w : World} (hI : Inv C B kn m σ nx w) (h : Keep m σ nx m' σ' nx') : MpLe m m' := fun n l e => by
 rcases Nat.lt_or_ge n nx with hlt | hge
 ·rw [h.ag n hlt]; exact e
 rw [hI.dom n hge] at e; cases e
theorem Keep.trans {m m' m'' : Mp} {σ σ' σ'' : Sto} {nx nx' nx'' : Nat} (h : Keep m σ nx m' σ' nx') (k : Keep m' σ' nx' m'' σ'' nx'') (hlt : ∀ (p nm : Nat) (ob : AObj), σ[p]? = some (nm, ob) -> nm < nx) : Keep m σ nx m'' σ'' nx'' :=
 ⟨Nat.le_trans h.le k.le, fun n hn => (k.ag n (Nat.lt_of_lt_of_le hn h.le)).trans (h.ag n hn), fun p nm ob a b => k.pend p nm ob (h.pend p nm ob a b) (by rw [h.ag nm (hlt p nm ob a)]; exact b)⟩
section
variable {C : Cx} {B : Base} {kn : Kn} {m : Mp} {σ : Sto} {nx : Nat} {w : World}
def mput (m : Mp) (n : Nat) (l : Loc) : Mp := fun k => if k = n then some l else m k
theorem X0c (m : Mp) (n : Nat) (l : Loc) : mput m n l n = some l := by simp [mput]
theorem X0p (m : Mp) (n : Nat) (l : Loc) (k : Nat) (h : k ≠ n) : mput m n l k = m k := by simp [mput, h]
theorem Inv.replace (hI : Inv C B kn m σ nx w) {p nm : Nat} {ob ob' : AObj} {loc loc' : Loc} (hp : σ[p]? = some (nm, ob)) (hl : live ob) (hm : m nm = some loc) {w' : World}
  (hs : w.heap.size <= w'.heap.size) (ho : w'.os = w.os) (ht : w'.tape = w.tape) (hout : w'.output = w.output)
  (hb : loc'.nil = true \/ (loc.nil = false /\ loc'.blk = loc.blk) \/ w.heap.size <= loc'.blk) (hb' : loc'.nil = false -> loc'.blk < w'.heap.size) (hh : ∀ b, b < w.heap.size -> (loc'.nil = true \/ b ≠ loc'.blk) -> w'.heap[b]? = w.heap[b]?)
  (hob : ObjRel C.P B kn (mput m nx loc') w' nx ob') (hsk : X0D ob' = true -> X0D ob = true := by intro h; first | rfl | cases h) (hnh : X0K ob = false := by rfl) : Inv C B kn (mput m nx loc') (σ.set p (nx, ob')) (nx + 1) w' /\ Keep m σ nx (mput m nx loc') (σ.set p (nx, ob')) (nx + 1) := by
 have hpl : p < σ.length := (List.getElem?_eq_some_iff.1 hp).1;have hkn : ∀ b o v, kn b o = some v -> loc'.nil = true \/ b ≠ loc'.blk := fun b o v e => by
  rcases hb with h | ⟨hln, h⟩ | h
  ·exact .inl h
  ·refine .inr fun eb => ?_
   rw [eb, h, (hI.own p nm ob loc hp hl hm hln).2.2 hnh o] at e; cases e
  refine .inr fun eb => ?_
  have := hI.kn_lt e; omega
 have hmle : MpLe m (mput m nx loc') := fun n l e => by
  rw [X0p]
  ·exact e
  intro en; subst en; rw [hI.dom n (Nat.le_refl _)] at e; cases e
 have other : ∀ (p' nm' : Nat) (ob'' : AObj) (l : Loc), σ[p']? = some (nm', ob'') -> p' ≠ p -> live ob'' -> m nm' = some l -> l.nil = false -> loc'.nil = false -> l.blk ≠ loc'.blk := fun p' nm' ob'' l e hne hl'' e' hn1 hn2 => by
  rcases hb with h | ⟨hln, h⟩ | h
  ·rw [hn2] at h; cases h
  ·rw [h]; exact hI.dist p' nm' ob'' l p nm ob loc e hp hl'' hl e' hm hn1 hln hne
  have := (hI.own p' nm' ob'' l e hl'' e' hn1).1; omega
 have hset : ∀ (p' nm' : Nat) (ob'' : AObj), (σ.set p (nx, ob'))[p']? = some (nm', ob'') -> (p' = p /\ nm' = nx /\ ob'' = ob') \/ (p' ≠ p /\ σ[p']? = some (nm', ob'')) := fun p' nm' ob'' e => by
  rw [List.getElem?_set] at e;split at e
  ·rename_i hpp;cases e; exact .inl ⟨hpp.symm, rfl, rfl⟩
  rename_i hpp; exact .inr ⟨fun h => hpp h.symm, e⟩
 refine ⟨⟨fun b o v e => ?_, Nat.le_trans hI.size hs, ho.trans hI.os, ht.trans hI.tape, hout.trans hI.output, fun b hbb hob' => ?_, fun p' nm' ob'' e => ?_, fun p' nm' ob'' l e hl' hm' hn' => ?_, fun p1 n1 o1 l1 p2 n2 o2 l2 e1 e2 v1 v2 m1 m2 hn1 hn2 hne => ?_, fun n hn => ?_, fun p' nm' ob'' e => ?_, fun p1 p2 n1 o1 o2 e1 e2 => ?_, fun p1 p2 n1 n2 o1 o2 e1 e2 s1 s2 => ?_, fun g => (hI.glob g).mono (KnLe.refl _) hmle, hI.tab⟩,
  ⟨Nat.le_succ _, fun n hn => X0p _ _ _ _ (by omega), fun p' nm' ob'' e e' => ?_⟩⟩
 ·have h1 := hI.knok b o v e;have := hh b (hI.kn_lt e) (hkn b o v e);unfold World.cell? at h1 ⊢;rw [this]; exact h1
 ·have h1 := hI.old b hbb hob';refine ⟨?_, h1.2⟩;rw [<- h1.1];refine hh b (Nat.lt_of_lt_of_le hbb hI.size) ?_;rcases hb with h | ⟨hln, h⟩ | h
  ·exact .inl h
  ·refine .inr fun eb => ?_
   rw [h] at eb;subst eb;rcases (hI.own p nm ob loc hp hl hm hln).2.1 with h2 | h2
   ·omega
   exact hob' h2
  refine .inr fun eb => ?_
  have := hI.size; omega
 ·rcases hset p' nm' ob'' e with ⟨rfl, rfl, rfl⟩ | ⟨hne, e'⟩
  ·exact hob
  have hlt := hI.lt p' nm' ob'' e';have hm'' : mput m nx loc' nm' = m nm' := X0p _ _ _ _ (by omega);have h0 := hI.obj p' nm' ob'' e'
  have h1 : ObjRel C.P B kn m w' nm' ob'' := h0.mono (KnLe.refl _) (fun l hlv hml hln => hh _ (hI.own p' nm' ob'' l e' hlv hml hln).1 (by
   cases hx : loc'.nil with
   | true => exact .inl rfl
   | false => exact .inr (other p' nm' ob'' l e' hne hlv hml hln hx))) (fun b hq => by
   rcases hq with ⟨_, o, v, e⟩ | ⟨hx, l, hml, hln, rfl⟩
   ·exact ⟨hh b (hI.kn_lt e) (hkn b o v e), rfl⟩
   have hlv : live ob'' := by cases ob'' <;> first | trivial | simp_all [X0K]
   refine ⟨hh _ (hI.own p' nm' ob'' l e' hlv hml hln).1 ?_, rfl⟩;cases hy : loc'.nil with
   | true => exact .inl rfl
   | false => exact .inr (other p' nm' ob'' l e' hne hlv hml hln hy))
  exact h1.mono_m hm'' hmle
 ·rcases hset p' nm' ob'' e with ⟨rfl, rfl, rfl⟩ | ⟨hne, e'⟩
  ·rw [X0c] at hm';cases hm';refine ⟨hb' hn', ?_, fun _ o => ?_⟩
   ·rcases hb with h | ⟨hln, h⟩ | h
    ·rw [hn'] at h; cases h
    ·rw [h]; exact (hI.own _ nm ob loc hp hl hm hln).2.1
    exact .inl (Nat.le_trans hI.size h)
   rcases hb with h | ⟨hln, h⟩ | h
   ·rw [hn'] at h; cases h
   ·rw [h]; exact (hI.own _ nm ob loc hp hl hm hln).2.2 hnh o
   cases hk : kn loc'.blk o with
   | none => rfl
   | some v => have := hI.kn_lt hk; omega
  rw [X0p _ _ _ _ (by have := hI.lt p' nm' ob'' e'; omega)] at hm';obtain ⟨a, b, c⟩ := hI.own p' nm' ob'' l e' hl' hm' hn';exact ⟨Nat.lt_of_lt_of_le a hs, b, c⟩
 ·rcases hset p1 n1 o1 e1 with ⟨rfl, rfl, rfl⟩ | ⟨h1, e1'⟩
  ·rcases hset p2 n2 o2 e2 with ⟨rfl, rfl, rfl⟩ | ⟨h2, e2'⟩
   ·exact absurd rfl hne
   rw [X0c] at m1; cases m1;rw [X0p _ _ _ _ (by have := hI.lt p2 n2 o2 e2'; omega)] at m2;exact fun h => other p2 n2 o2 l2 e2' h2 v2 m2 hn2 hn1 h.symm
  rw [X0p _ _ _ _ (by have := hI.lt p1 n1 o1 e1'; omega)] at m1;rcases hset p2 n2 o2 e2 with ⟨rfl, rfl, rfl⟩ | ⟨h2, e2'⟩
  ·rw [X0c] at m2; cases m2;exact other p1 n1 o1 l1 e1' h1 v1 m1 hn1 hn2
  rw [X0p _ _ _ _ (by have := hI.lt p2 n2 o2 e2'; omega)] at m2;exact hI.dist p1 n1 o1 l1 p2 n2 o2 l2 e1' e2' v1 v2 m1 m2 hn1 hn2 hne
 ·rw [X0p _ _ _ _ (by omega)]; exact hI.dom n (by omega)
 ·rcases hset p' nm' ob'' e with ⟨_, rfl, _⟩ | ⟨hne, e'⟩
  ·omega
  have := hI.lt p' nm' ob'' e'; omega
 ·rcases hset p1 n1 o1 e1 with ⟨rfl, rfl, _⟩ | ⟨h1, e1'⟩
  ·rcases hset p2 _ o2 e2 with ⟨rfl, _, _⟩ | ⟨h2, e2'⟩
   ·rfl
   have := hI.lt _ _ _ e2'; omega
  rcases hset p2 n1 o2 e2 with ⟨rfl, rfl, _⟩ | ⟨h2, e2'⟩
  ·have := hI.lt _ _ _ e1'; omega
  exact hI.uniq p1 p2 n1 o1 o2 e1' e2'
 ·have back : ∀ (q n : Nat) (o : AObj), (σ.set p (nx, ob'))[q]? = some (n, o) -> X0D o = true -> ∃ n' o', σ[q]? = some (n', o') /\ X0D o' = true := fun q n o e s => by
   rcases hset q n o e with ⟨rfl, rfl, rfl⟩ | ⟨_, e'⟩
   ·exact ⟨_, _, hp, hsk s⟩
   exact ⟨_, _, e', s⟩
  obtain ⟨n1', o1', a1, b1⟩ := back p1 n1 o1 e1 s1;obtain ⟨n2', o2', a2, b2⟩ := back p2 n2 o2 e2 s2;exact hI.stk1 _ _ _ _ _ _ a1 a2 b1 b2
 rw [List.getElem?_set];split
 ·rename_i hpp; subst hpp; rw [hp] at e; cases e; rw [hm] at e'; cases e'
 exact e
theorem Inv.write (hI : Inv C B kn m σ nx w) {p nm : Nat} {ob ob' : AObj} {loc : Loc} (hp : σ[p]? = some (nm, ob)) (hl : live ob) (hm : m nm = some loc) (hnl : loc.nil = false) {w' : World}
  (hs : w'.heap.size = w.heap.size) (ho : w'.os = w.os) (ht : w'.tape = w.tape) (hout : w'.output = w.output) (hh : ∀ b, b ≠ loc.blk -> w'.heap[b]? = w.heap[b]?)
  (hob : ObjRel C.P B kn m w' nm ob') (hsk : X0D ob' = true -> X0D ob = true := by intro h; first | rfl | cases h) (hnh : X0K ob = false := by rfl) : Inv C B kn m (σ.set p (nm, ob')) nx w' /\ Keep m σ nx m (σ.set p (nm, ob')) nx := by
 obtain ⟨own1, own2, own3⟩ := hI.own p nm ob loc hp hl hm hnl;have hpl : p < σ.length := (List.getElem?_eq_some_iff.1 hp).1;have hset : ∀ (p' nm' : Nat) (ob'' : AObj), (σ.set p (nm, ob'))[p']? = some (nm', ob'') -> (p' = p /\ nm' = nm /\ ob'' = ob') \/ (p' ≠ p /\ σ[p']? = some (nm', ob'')) := fun p' nm' ob'' e => by
  rw [List.getElem?_set] at e;split at e
  ·rename_i hpp;cases e; exact .inl ⟨hpp.symm, rfl, rfl⟩
  rename_i hpp; exact .inr ⟨fun h => hpp h.symm, e⟩
 refine ⟨⟨fun b o v e => ?_, by rw [hs]; exact hI.size, ho.trans hI.os, ht.trans hI.tape, hout.trans hI.output, fun b hbb hob' => ?_, fun p' nm' ob'' e => ?_, fun p' nm' ob'' l e hl' hm' hn' => ?_, fun p1 n1 o1 l1 p2 n2 o2 l2 e1 e2 v1 v2 m1 m2 hn1 hn2 hne => ?_, hI.dom, fun p' nm' ob'' e => ?_, fun p1 p2 n1 o1 o2 e1 e2 => ?_, fun p1 p2 n1 n2 o1 o2 e1 e2 s1 s2 => ?_, hI.glob, hI.tab⟩,
  ⟨Nat.le_refl _, fun n hn => rfl, fun p' nm' ob'' e e' => ?_⟩⟩
 ·have h1 := hI.knok b o v e;have := hh b (fun eb => by rw [eb, own3 hnh o] at e; cases e);unfold World.cell? at h1 ⊢;rw [this]; exact h1
 ·have h1 := hI.old b hbb hob';refine ⟨?_, h1.2⟩;rw [<- h1.1];refine hh b (fun eb => ?_);subst eb;rcases own2 with h2 | h2
  ·omega
  exact hob' h2
 ·rcases hset p' nm' ob'' e with ⟨rfl, rfl, rfl⟩ | ⟨hne, e'⟩
  ·exact hob
  exact (hI.obj p' nm' ob'' e').mono (KnLe.refl _) (fun l hlv hml hln => hh _ (hI.dist p' nm' ob'' l p nm ob loc e' hp hlv hl hml hm hln hnl hne)) (fun b hq => by
   rcases hq with ⟨_, o, v, e⟩ | ⟨hx, l, hml, hln, rfl⟩
   ·exact ⟨hh b (fun eb => by rw [eb, own3 hnh o] at e; cases e), rfl⟩
   have hlv : live ob'' := by cases ob'' <;> first | trivial | simp_all [X0K]
   exact ⟨hh _ (hI.dist p' nm' ob'' l p nm ob loc e' hp hlv hl hml hm hln hnl hne), rfl⟩)
 ·rcases hset p' nm' ob'' e with ⟨rfl, rfl, rfl⟩ | ⟨hne, e'⟩
  ·rw [hm] at hm'; cases hm';exact ⟨by rw [hs]; exact own1, own2, fun _ => own3 hnh⟩
  obtain ⟨a, b, c⟩ := hI.own p' nm' ob'' l e' hl' hm' hn';exact ⟨by rw [hs]; exact a, b, c⟩
 ·have get : ∀ (p' nm' : Nat) (ob'' : AObj), (σ.set p (nm, ob'))[p']? = some (nm', ob'') -> ∀ l, live ob'' -> m nm' = some l -> ∃ ob3, σ[p']? = some (nm', ob3) /\ live ob3 := fun p' nm' ob'' e l hl' hm' => by
   rcases hset p' nm' ob'' e with ⟨rfl, rfl, rfl⟩ | ⟨hne, e'⟩
   ·exact ⟨ob, hp, hl⟩
   exact ⟨ob'', e', hl'⟩
  obtain ⟨a1, b1, c1⟩ := get p1 n1 o1 e1 l1 v1 m1;obtain ⟨a2, b2, c2⟩ := get p2 n2 o2 e2 l2 v2 m2;exact hI.dist p1 n1 a1 l1 p2 n2 a2 l2 b1 b2 c1 c2 m1 m2 hn1 hn2 hne
 ·rcases hset p' nm' ob'' e with ⟨rfl, rfl, rfl⟩ | ⟨hne, e'⟩
  ·exact hI.lt _ _ _ hp
  exact hI.lt _ _ _ e'
 ·rcases hset p1 n1 o1 e1 with ⟨rfl, rfl, _⟩ | ⟨h1, e1'⟩
  ·rcases hset p2 _ o2 e2 with ⟨rfl, _, _⟩ | ⟨h2, e2'⟩
   ·rfl
   exact hI.uniq _ _ _ _ _ hp e2'
  rcases hset p2 n1 o2 e2 with ⟨rfl, rfl, _⟩ | ⟨h2, e2'⟩
  ·exact hI.uniq _ _ _ _ _ e1' hp
  exact hI.uniq p1 p2 n1 o1 o2 e1' e2'
 ·have back : ∀ (q n : Nat) (o : AObj), (σ.set p (nm, ob'))[q]? = some (n, o) -> X0D o = true -> ∃ n' o', σ[q]? = some (n', o') /\ X0D o' = true := fun q n o e s => by
   rcases hset q n o e with ⟨rfl, rfl, rfl⟩ | ⟨_, e'⟩
   ·exact ⟨_, _, hp, hsk s⟩
   exact ⟨_, _, e', s⟩
  obtain ⟨n1', o1', a1, b1⟩ := back p1 n1 o1 e1 s1;obtain ⟨n2', o2', a2, b2⟩ := back p2 n2 o2 e2 s2;exact hI.stk1 _ _ _ _ _ _ a1 a2 b1 b2
 rw [List.getElem?_set];split
 ·rename_i hpp; subst hpp; rw [hp] at e; cases e; rw [hm] at e'; cases e'
 exact e
theorem Inv.new (hI : Inv C B kn m σ nx w) {ob' : AObj} {loc' : Loc} {w' : World}
  (hs : w.heap.size <= w'.heap.size) (ho : w'.os = w.os) (ht : w'.tape = w.tape) (hout : w'.output = w.output)
  (hb : loc'.nil = true \/ w.heap.size <= loc'.blk) (hb' : loc'.nil = false -> loc'.blk < w'.heap.size) (hh : ∀ b, b < w.heap.size -> w'.heap[b]? = w.heap[b]?)
  (hob : ObjRel C.P B kn (mput m nx loc') w' nx ob') (hsk : X0D ob' = true -> ∀ (p nm : Nat) (ob : AObj), σ[p]? = some (nm, ob) -> X0D ob = false := by intro h; cases h) : Inv C B kn (mput m nx loc') (σ ++ [(nx, ob')]) (nx + 1) w' /\ Keep m σ nx (mput m nx loc') (σ ++ [(nx, ob')]) (nx + 1) := by
 have hmle : MpLe m (mput m nx loc') := fun n l e => by
  rw [X0p]
  ·exact e
  intro en; subst en; rw [hI.dom n (Nat.le_refl _)] at e; cases e
 have hget : ∀ (p' nm' : Nat) (ob'' : AObj), (σ ++ [(nx, ob')])[p']? = some (nm', ob'') -> (p' = σ.length /\ nm' = nx /\ ob'' = ob') \/ (p' ≠ σ.length /\ σ[p']? = some (nm', ob'')) := fun p' nm' ob'' e => by
  rcases Nat.lt_trichotomy p' σ.length with h | h | h
  ·rw [List.getElem?_append_left h] at e; exact .inr ⟨by omega, e⟩
  ·subst h; rw [List.getElem?_append_right (Nat.le_refl _)] at e; simp at e; exact .inl ⟨rfl, e.1.symm, e.2.symm⟩
  rw [List.getElem?_eq_none (by simp; omega)] at e; cases e
 obtain ⟨_, hI0⟩ := hI.grow (kn' := kn) hs ho ht hout hh (fun _ _ => rfl) (fun b o v hb e => absurd (hI.kn_lt e) (by omega))
 refine ⟨⟨hI0.knok, hI0.size, hI0.os, hI0.tape, hI0.output, hI0.old, fun p' nm' ob'' e => ?_, fun p' nm' ob'' l e hl' hm' hn' => ?_, fun p1 n1 o1 l1 p2 n2 o2 l2 e1 e2 v1 v2 m1 m2 hn1 hn2 hne => ?_, fun n hn => ?_, fun p' nm' ob'' e => ?_, fun p1 p2 n1 o1 o2 e1 e2 => ?_, fun p1 p2 n1 n2 o1 o2 e1 e2 s1 s2 => ?_, fun g => (hI.glob g).mono (KnLe.refl _) hmle, hI.tab⟩,
  ⟨Nat.le_succ _, fun n hn => X0p _ _ _ _ (by omega), fun p' nm' ob'' e e' => ?_⟩⟩
 ·rcases hget p' nm' ob'' e with ⟨rfl, rfl, rfl⟩ | ⟨hne, e'⟩
  ·exact hob
  have hlt := hI.lt p' nm' ob'' e';have hm'' : mput m nx loc' nm' = m nm' := X0p _ _ _ _ (by omega);have h1 := hI0.obj p' nm' ob'' e';exact h1.mono_m hm'' hmle
 ·rcases hget p' nm' ob'' e with ⟨rfl, rfl, rfl⟩ | ⟨hne, e'⟩
  ·rw [X0c] at hm';cases hm';have hb : w.heap.size <= loc'.blk := hb.resolve_left (by rw [hn']; exact Bool.false_ne_true);refine ⟨hb' hn', .inl (Nat.le_trans hI.size hb), fun _ o => ?_⟩;cases hk : kn loc'.blk o with
   | none => rfl
   | some v => have := hI.kn_lt hk; omega
  rw [X0p _ _ _ _ (by have := hI.lt p' nm' ob'' e'; omega)] at hm';exact hI0.own p' nm' ob'' l e' hl' hm' hn'
 ·rcases hget p1 n1 o1 e1 with ⟨rfl, rfl, rfl⟩ | ⟨h1, e1'⟩
  ·rcases hget p2 n2 o2 e2 with ⟨rfl, rfl, rfl⟩ | ⟨h2, e2'⟩
   ·exact absurd rfl hne
   rw [X0c] at m1; cases m1;rw [X0p _ _ _ _ (by have := hI.lt p2 n2 o2 e2'; omega)] at m2;have := (hI.own p2 n2 o2 l2 e2' v2 m2 hn2).1;have hb : w.heap.size <= loc'.blk := hb.resolve_left (by rw [hn1]; exact Bool.false_ne_true);omega
  rw [X0p _ _ _ _ (by have := hI.lt p1 n1 o1 e1'; omega)] at m1;rcases hget p2 n2 o2 e2 with ⟨rfl, rfl, rfl⟩ | ⟨h2, e2'⟩
  ·rw [X0c] at m2; cases m2;have := (hI.own p1 n1 o1 l1 e1' v1 m1 hn1).1;have hb : w.heap.size <= loc'.blk := hb.resolve_left (by rw [hn2]; exact Bool.false_ne_true);omega
  rw [X0p _ _ _ _ (by have := hI.lt p2 n2 o2 e2'; omega)] at m2;exact hI.dist p1 n1 o1 l1 p2 n2 o2 l2 e1' e2' v1 v2 m1 m2 hn1 hn2 hne
 ·rw [X0p _ _ _ _ (by omega)]; exact hI.dom n (by omega)
 ·rcases hget p' nm' ob'' e with ⟨_, rfl, _⟩ | ⟨hne, e'⟩
  ·omega
  have := hI.lt p' nm' ob'' e'; omega
 ·rcases hget p1 n1 o1 e1 with ⟨rfl, rfl, _⟩ | ⟨h1, e1'⟩
  ·rcases hget p2 _ o2 e2 with ⟨rfl, _, _⟩ | ⟨h2, e2'⟩
   ·rfl
   have := hI.lt _ _ _ e2'; omega
  rcases hget p2 n1 o2 e2 with ⟨rfl, rfl, _⟩ | ⟨h2, e2'⟩
  ·have := hI.lt _ _ _ e1'; omega
  exact hI.uniq p1 p2 n1 o1 o2 e1' e2'
 ·rcases hget p1 n1 o1 e1 with ⟨rfl, rfl, rfl⟩ | ⟨h1, e1'⟩
  ·rcases hget p2 n2 o2 e2 with ⟨rfl, rfl, rfl⟩ | ⟨h2, e2'⟩
   ·rfl
   rw [hsk s1 _ _ _ e2'] at s2; cases s2
  rcases hget p2 n2 o2 e2 with ⟨rfl, rfl, rfl⟩ | ⟨h2, e2'⟩
  ·rw [hsk s2 _ _ _ e1'] at s1; cases s1
  exact hI.stk1 _ _ _ _ _ _ e1' e2' s1 s2
 rw [List.getElem?_append_left (List.getElem?_eq_some_iff.1 e).1]; exact e
end
end Go.Ab
