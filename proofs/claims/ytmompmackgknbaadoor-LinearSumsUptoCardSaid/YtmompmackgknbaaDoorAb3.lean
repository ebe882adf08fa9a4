/-
  WHAT AN OPERATION MAKES OF ABSTRACT VALUES, part two: the function 'fop' (operations that write nothing that was there), and that it is sound.
-/
import Derived.Test.YtmompmackgknbaaDoorAb2
set_option linter.unusedVariables false
set_option linter.unusedSimpArgs false
namespace Go.Ab
open Go Go.RowKit

/-! ### Cells of a value -/
def cellsA : AV → Option (List AV)
  | .any => none
  | .tup _ => none
  | .agg cs => some cs
  | .base v => if v.oneCell' = true then some [.base v] else none
  | x => some [x]
def oneA : AV → Bool
  | .any => false
  | .tup _ => false
  | .agg _ => false
  | .base v => v.oneCell'
  | _ => true
theorem Rel.one {kn : Kn} {m : Mp} {x : AV} {v : Value} (h : Rel kn m x v) (ho : oneA x = true) : v.oneCell' = true := by
  cases h <;> simp_all [oneA, Value.oneCell']
theorem cells_one {v : Value} (h : v.oneCell' = true) : v.cells = #[v] := by cases v <;> simp_all [Value.oneCell', Value.cells]
theorem Rel.cells {kn : Kn} {m : Mp} {x : AV} {v : Value} {cs : List AV} (h : Rel kn m x v) (hc : cellsA x = some cs) : RelC kn m cs v.cells.toList := by
  have single : oneA x = true → cs = [x] → RelC kn m cs v.cells.toList := fun ho e => by
    subst e
    rw [cells_one (h.one ho)]
    exact ⟨.cons h (.nil _ _), fun u hu => by simp at hu; subst hu; exact h.one ho⟩
  cases h with
  | any v => simp [cellsA] at hc
  | tup => simp [cellsA] at hc
  | agg cs' vs hl h h1 =>
    simp only [cellsA, Option.some.injEq] at hc
    subst hc
    refine ⟨⟨by simpa [Value.cells] using hl, fun i x v a b => h i x v a (by simpa [Value.cells] using b)⟩, fun u hu => ?_⟩
    obtain ⟨i, hi⟩ := List.mem_iff_getElem?.1 hu
    exact h1 i u (by simpa [Value.cells] using hi)
  | base v =>
    simp only [cellsA] at hc
    split at hc
    · rename_i ho; cases hc; exact single ho rfl
    · cases hc
  | _ => simp only [cellsA, Option.some.injEq] at hc; exact single rfl hc.symm

/-! ### Parts put in -/
def fillA (place : Nat → Option (Nat × Nat)) (cells : List AV) : List (Nat × AV) → Option (List AV)
  | [] => some cells
  | (i, x) :: rest => match place i, cellsA x with
    | some (off, size), some cs => if cs.length = size ∧ off + cs.length ≤ cells.length then fillA place (cells.take off ++ (cs ++ cells.drop (off + cs.length))) rest else none
    | _, _ => none
theorem put_cells (cells new : List Value) (off : Nat) (h : off + new.length ≤ cells.length) :
    (new.toArray.zipIdx.foldl (fun cs (p : Value × Nat) => cs.setIfInBounds (off + p.2) p.1) cells.toArray).toList = cells.take off ++ (new ++ cells.drop (off + new.length)) := by
  have key : ∀ (new : List Value) (k : Nat) (cells : List Value), off + k + new.length ≤ cells.length →
      ((new.zipIdx k).foldl (fun (cs : Array Value) (p : Value × Nat) => cs.setIfInBounds (off + p.2) p.1) cells.toArray).toList = cells.take (off + k) ++ (new ++ cells.drop (off + k + new.length)) := by
    intro new
    induction new with
    | nil => intro k cells h; simp
    | cons v rest ih =>
      intro k cells h
      simp only [List.zipIdx_cons, List.foldl_cons, List.length_cons] at h ⊢
      have e : (cells.toArray.setIfInBounds (off + k) v) = (cells.set (off + k) v).toArray := by simp
      rw [e, ih (k + 1) (cells.set (off + k) v) (by simp; omega)]
      have h1 : (cells.set (off + k) v).take (off + (k + 1)) = cells.take (off + k) ++ [v] := by
        rw [show off + (k + 1) = (off + k) + 1 by omega, List.take_succ_eq_append_getElem (by simp; omega)]
        congr 1
        · rw [List.take_set_of_le]; omega
        · simp
      have h2 : (cells.set (off + k) v).drop (off + (k + 1) + rest.length) = cells.drop (off + k + (rest.length + 1)) := by
        rw [List.drop_set_of_lt (by omega)]; congr 1; omega
      rw [h1, h2]
      simp
  have := key new 0 cells (by simpa using h)
  rw [← Array.foldl_toList, Array.toList_zipIdx]
  simpa only [Nat.add_zero] using this
theorem fill_sound {kn : Kn} {m : Mp} (place : Nat → Option (Nat × Nat)) : ∀ (parts : List (Nat × AV)) (parts' : List (Nat × Value)) (cells out : List AV) (cells' : List Value), fillA place cells parts = some out →
    parts.length = parts'.length → (∀ (i : Nat) (p : Nat × AV) (p' : Nat × Value), parts[i]? = some p → parts'[i]? = some p' → p.1 = p'.1 ∧ Rel kn m p.2 p'.2) → RelC kn m cells cells' →
    ∃ out', Instr.fill place cells'.toArray parts' = some out' ∧ RelC kn m out out'.toList
  | [], parts', cells, out, cells', h, hl, hp, hc => by
    have : parts' = [] := List.eq_nil_of_length_eq_zero (by simpa using hl.symm)
    subst this
    simp only [fillA, Option.some.injEq] at h
    subst h
    exact ⟨cells'.toArray, rfl, by simpa using hc⟩
  | (i, x) :: rest, [], cells, out, cells', h, hl, hp, hc => by simp at hl
  | (i, x) :: rest, (i', v) :: rest', cells, out, cells', h, hl, hp, hc => by
    obtain ⟨e, hx⟩ := hp 0 _ _ rfl rfl
    simp only at e hx
    subst e
    simp only [fillA] at h
    split at h
    · rename_i off size cs hpl hcs
      split at h
      · rename_i hok
        have hv := hx.cells hcs
        have hcv : cs.length = v.cells.size := by simpa using hv.1.1
        have hcl : cells.length = cells'.length := hc.1.1
        have hput := put_cells cells' v.cells.toList off (by rw [← hv.1.1, ← hc.1.1]; exact hok.2)
        have hrl : RelC kn m (cells.take off ++ (cs ++ cells.drop (off + cs.length))) (v.cells.zipIdx.foldl (fun cs (c, j) => cs.setIfInBounds (off + j) c) cells'.toArray).toList := by
          have : (v.cells.zipIdx.foldl (fun cs (c, j) => cs.setIfInBounds (off + j) c) cells'.toArray).toList = cells'.take off ++ (v.cells.toList ++ cells'.drop (off + v.cells.toList.length)) := by
            simpa using hput
          rw [this, ← hv.1.1]
          exact (hc.take off).append (hv.append (hc.drop _))
        obtain ⟨out', h1, h2⟩ := fill_sound place rest rest' _ out _ h (by simpa using hl) (fun j p p' a b => hp (j + 1) p p' (by simpa using a) (by simpa using b)) hrl
        refine ⟨out', ?_, h2⟩
        simp only [Instr.fill, hpl]
        rw [if_neg (by simp only [Bool.or_eq_true, decide_eq_true_eq, not_or, bne_iff_ne, ne_eq]; simp; omega)]
        simpa using h1
      · cases h
    · cases h

/-- The elements of a slice that is written out. -/
def rowsA (sz : Nat) (rows : List (List AV)) : List (Nat × AV) → Option (List (List AV))
  | [] => some rows
  | (i, x) :: rest => match cellsA x with
    | some cs => if cs.length = sz ∧ i < rows.length then rowsA sz (rows.set i cs) rest else none
    | none => none

/-! ### Two operands, one operand -/
def abinInt (op : BinOp) (k : IntKind) (x y : Int) : Option AV :=
  match op with
  | .add => some (.int k (k.wrap (x + y)))
  | .sub => some (.int k (k.wrap (x - y)))
  | .mul => some (.int k (k.wrap (x * y)))
  | .quo => if y = 0 then none else some (.int k (k.wrap (x.tdiv y)))
  | .rem => if y = 0 then none else some (.int k (x.tmod y))
  | .and => some (.int k (Go.bits .and k x y))
  | .or => some (.int k (Go.bits .or k x y))
  | .xor => some (.int k (Go.bits .xor k x y))
  | .andNot => some (.int k (Go.bits .andNot k x y))
  | .eql => some (.bool (decide (x = y)))
  | .neq => some (.bool (!decide (x = y)))
  | .lss => some (.bool (decide (x < y)))
  | .leq => some (.bool (decide (x ≤ y)))
  | .gtr => some (.bool (decide (x > y)))
  | .geq => some (.bool (decide (x ≥ y)))
  | _ => none
def abinStr (op : BinOp) (x y : List UInt8) : Option AV :=
  match op with
  | .add => if x.length + y.length ≤ 9223372036854775807 then some (.str (x ++ y)) else none
  | .eql => some (.bool (decide (x = y)))
  | .neq => some (.bool (!decide (x = y)))
  | .lss => some (.bool (Op.bytesLess x y))
  | .leq => some (.bool (Op.bytesLess x y || decide (x = y)))
  | .gtr => some (.bool (!(Op.bytesLess x y || decide (x = y))))
  | .geq => some (.bool (!Op.bytesLess x y))
  | _ => none
/-- Whether a value is nil; none: it can't be told. -/
def nilA : AV → Option Bool
  | .base (.slice none 0 0) => some true
  | .base (.pointer none) => some true
  | .base (.map none) => some true
  | .base .nilFunc => some true
  | .base .nilIface => some true
  | .vec _ _ => some false
  | .emp => some false
  | .sref _ _ _ _ _ => some false
  | .rptr _ => some false
  | .ref _ _ _ => some false
  | .eref _ _ _ _ => some false
  | .mapr _ _ => some false
  | .fn _ _ _ => some false
  | .iface _ _ => some false
  | _ => none
def nilT : TypeDesc → AV → Bool
  | .slice _, .base (.slice none 0 0) | .slice _, .vec _ _ | .slice _, .sref _ _ _ _ _ | .slice _, .emp => true
  | .pointer _, .base (.pointer none) | .pointer _, .rptr _ | .pointer _, .ref _ _ _ | .pointer _, .eref _ _ _ _ => true
  | .map _ _, .base (.map none) | .map _ _, .mapr _ _ => true
  | .func _ _ _, .base .nilFunc | .func _ _ _, .fn _ _ _ => true
  | .interface _, .base .nilIface | .interface _, .iface _ _ => true
  | _, _ => false
def isNilConst : Operand → Bool
  | .const (.slice none 0 0) | .const (.pointer none) | .const (.map none) | .const .nilFunc | .const .nilIface => true
  | _ => false
def nilTest (P : Program) (t : TypeId) (x : AV) : Option Bool :=
  match P.underlying t with
  | some d => if nilT d x then nilA x else none
  | none => none
def isBoolT (P : Program) (t : TypeId) : Bool := match P.underlying t with | some .bool => true | _ => false
def abin (C : Cx) (op : BinOp) (t : TypeId) (x y : Operand) (a b : AV) : Option AV :=
  match a, b with
  | .int k x, .int k' y => match op with
    | .shl => if 0 ≤ y ∧ y ≤ k.bits then some (.int k (k.wrap (x * 2 ^ y.toNat))) else none
    | .shr => if 0 ≤ y ∧ y ≤ k.bits then some (.int k (x / 2 ^ y.toNat)) else none
    | op => if k = k' then abinInt op k x y else none
  | .str x, .str y => abinStr op x y
  | .bool p, .bool q => if isBoolT C.P t then (match op with
    | .eql => some (.bool (p == q))
    | .neq => some (.bool (!(p == q)))
    | _ => none) else none
  | a, b => if isNilConst y then (match op, nilTest C.P t a, nilTest C.P t b with
      | .eql, some r, some true => some (.bool r)
      | .neq, some r, some true => some (.bool (!r))
      | _, _, _ => none)
    else none
def aun (op : UnOp) (a : AV) : Option AV :=
  match op, a with
  | .neg, .int k n => some (.int k (k.wrap (0 - n)))
  | .not, .bool b => some (.bool !b)
  | _, _ => none
def aconv (P : Program) (src dst : TypeId) (a : AV) : Option AV :=
  match a with
  | .int _ n => match undT P src, intT P dst with
    | true, some k => some (.int k (k.wrap n))
    | _, _ => none
  | .str l => if strT P src ∧ strT P dst then some (.str l) else none
  | _ => none
def lenA (P : Program) (t : TypeId) (a : AV) : Option AV :=
  match a with
  | .str l => if strT P t then some (.int .i64 l.length) else none
  | .vec _ rows => if slcT P t then some (.int .i64 rows.length) else none
  | .sref _ _ _ _ n => if slcT P t then some (.int .i64 n) else none
  | .emp => if slcT P t then some (.int .i64 0) else none
  | .base (.slice none 0 0) => if slcT P t then some (.int .i64 0) else none
  | _ => none
def idxA (P : Program) (t : TypeId) (a i : AV) : Option AV :=
  match i with
  | .int _ n => match elmT P t with
    | some (_, sz, _) => match a with
      | .vec esz rows => if esz = sz ∧ 0 ≤ n ∧ n < rows.length then some (.rptr (rows.getD n.toNat [])) else none
      | .sref p nm esz off len => if esz = sz ∧ 0 ≤ n ∧ n < len then some (.eref p nm (off + n.toNat) 0) else none
      | _ => none
    | none => match arrT P t with
      | some (len, _, sz) => if 0 ≤ n ∧ n < len then (match a with
        | .rptr cs => some (.rptr (cs.drop (n.toNat * sz)))
        | .ref p nm o => some (.ref p nm (o + n.toNat * sz))
        | .eref p nm i o => some (.eref p nm i (o + n.toNat * sz))
        | _ => none) else none
      | none => none
  | _ => none
def fadA (P : Program) (s f : Nat) (a : AV) : Option AV :=
  match fldT P s f with
  | some (off, sz, _) => if sz = 0 then none else match a with
    | .rptr cs => some (.rptr (cs.drop off))
    | .ref p nm o => some (.ref p nm (o + off))
    | .eref p nm i o => some (.eref p nm i (o + off))
    | _ => none
  | none => none
def fieldA (P : Program) (t f : Nat) (a : AV) : Option AV :=
  match fldT P t f, a with
  | some (off, sz, true), .agg cs => if off + sz ≤ cs.length then some (.agg ((cs.drop off).take sz)) else none
  | some (off, _, false), .agg cs => cs[off]?
  | _, _ => none
def indexA (P : Program) (t : TypeId) (a i : AV) : Option AV :=
  match a, i with
  | .str l, .int _ n => if strT P t ∧ 0 ≤ n then (match l[n.toNat]? with
    | some b => some (.int .u8 b.toNat)
    | none => none) else none
  | _, _ => none
/-- The bounds of a slice expression: low and high. -/
def bndA (len : Nat) (lo hi : Option AV) : Option (Int × Int) :=
  match lo, hi with
  | none, none => some (0, len)
  | some (.int _ l), none => some (l, len)
  | none, some (.int _ h) => some (0, h)
  | some (.int _ l), some (.int _ h) => some (l, h)
  | _, _ => none
def sliceish : AV → Bool
  | .vec _ _ => true
  | .sref _ _ _ _ _ => true
  | .base (.slice none 0 0) => true
  | _ => false
def empA : AV → AV
  | .base v => .base v
  | _ => .emp
def sliceA (P : Program) (t : TypeId) (a : AV) (lo hi mx : Option AV) : Option AV :=
  match a, mx with
  | .str s, none => if strT P t then (match bndA s.length lo hi with
    | some (l, h) => if 0 ≤ l ∧ l ≤ h ∧ h ≤ s.length then some (.str ((s.drop l.toNat).take (h.toNat - l.toNat))) else none
    | none => none) else none
  | .vec esz rows, none => (match elmT P t, bndA rows.length lo hi with
    | some (_, sz, _), some (l, h) => if esz = sz ∧ 0 ≤ l ∧ l ≤ h ∧ h ≤ rows.length then some (.vec esz ((rows.drop l.toNat).take (h.toNat - l.toNat))) else none
    | _, _ => none)
  | .sref p nm esz off len, none => (match elmT P t, bndA len lo hi with
    | some (_, sz, _), some (l, h) => if esz = sz ∧ 0 ≤ l ∧ l ≤ h ∧ h ≤ len then (if l = 0 ∨ l < h then some (.sref p nm esz (off + l.toNat) (h.toNat - l.toNat)) else some (.vec esz [])) else none
    | _, _ => none)
  | .base (.slice none 0 0), none => (match elmT P t, bndA 0 lo hi with
    | some _, some (l, h) => if l = 0 ∧ h = 0 then some (.base (.slice none 0 0)) else none
    | _, _ => none)
  | a, some (.int _ k) => (match elmT P t, bndA 0 lo hi with
    | some _, some (l, h) => if hi.isSome = true ∧ k = 0 ∧ l = 0 ∧ h = 0 ∧ sliceish a = true then some (empA a) else none
    | _, _ => none)
  | _, _ => none
def extA (a : AV) (i : Nat) : Option AV :=
  match a with
  | .tup vs => vs[i]?
  | _ => none
def nilckA : AV → Option AV
  | .rptr cs => some (.rptr cs)
  | .ref p n o => some (.ref p n o)
  | .eref p n i o => some (.eref p n i o)
  | .fn (.func g) a b => some (.fn (.func g) a b)
  | _ => none
/-- A type assertion to a type that is no interface. -/
def assertA (P : Program) (a : AV) (as_ : TypeId) (ok : Bool) : Option AV :=
  if conT P as_ then (match a with
    | .iface t x => if t = as_ then some (if ok then .tup [x, .bool true] else x)
      else if ok then (match zeroV P as_ with | some z => some (.tup [z, .bool false]) | none => none) else none
    | .base .nilIface => if ok then (match zeroV P as_ with | some z => some (.tup [z, .bool false]) | none => none) else none
    | _ => none) else none
  where
  zeroV (P : Program) (t : TypeId) : Option AV := ((P.info? t).bind (·.zero)).bind fun v => match v with
    | .agg cs => if cs.toList.all (·.oneCell') = true then some (.agg (cs.toList.map ofVal)) else none
    | v => some (ofVal v)
def maxA (mx : Bool) (a b : AV) : Option AV :=
  match a, b with
  | .int k x, .int _ y => some (.int k (if mx then (if y > x then y else x) else (if y < x then y else x)))
  | _, _ => none

def bfun (P : Program) (b : Builtin) (ts : List TypeId) (args : List AV) : Option AV :=
  match b, ts, args with
  | .len, [t], [x] => lenA P t x
  | .max, _, [x, y] => maxA true x y
  | .min, _, [x, y] => maxA false x y
  | _, _, _ => none

/-- The value of an operation that writes nothing that was there. 'al': the place and the name of the object that an 'alloc' makes. -/
def fop (C : Cx) (al : Nat × Nat) (op : Op) (env : Nat → AV) (σ : Sto) : Option AV :=
  match op with
  | .move x => some (opv C env x)
  | .assign x => some (opv C env x)
  | .pick c a b => match opv C env c with
    | .bool t => some (if t = true then opv C env a else opv C env b)
    | _ => none
  | .alloc T => match zeroCells C.P T with
    | some _ => some (.ref al.1 al.2 0)
    | none => none
  | .box _ x => (cellsA (opv C env x)).map .rptr
  | .build t parts => match zeroCells C.P t, bldT C.P t with
    | some z, some pl => (fillA (pl[·]?) z (parts.toList.map fun p => (p.1, opv C env p.2))).map .agg
    | _, _ => none
  | .buildSlice t len parts => match elmT C.P t with
    | some (e, sz, _) => match zeroCells C.P e with
      | some z => if 0 < sz ∧ z.length = sz ∧ len * sz ≤ 16777216 then (rowsA sz (List.replicate len z) (parts.toList.map fun p => (p.1, opv C env p.2))).map (.vec sz) else none
      | none => none
    | none => none
  | .load T a => readA C.P T σ (opv C env a)
  | .nilCheck x => nilckA (opv C env x)
  | .binOp op t x y _ => abin C op t x y (opv C env x) (opv C env y)
  | .unOp op _ x => aun op (opv C env x)
  | .convert s d x => aconv C.P s d (opv C env x)
  | .makeInterface t x => if conT C.P t then some (.iface t (opv C env x)) else none
  | .makeFunc f a b => some (.fn f (a.toList.map (opv C env)) (b.toList.map (opv C env)))
  | .fieldAddr s x f => fadA C.P s f (opv C env x)
  | .field t x f => fieldA C.P t f (opv C env x)
  | .indexAddr t x i => idxA C.P t (opv C env x) (opv C env i)
  | .index t x i => indexA C.P t (opv C env x) (opv C env i)
  | .slice t x lo hi mx => sliceA C.P t (opv C env x) (lo.map (opv C env)) (hi.map (opv C env)) (mx.map (opv C env))
  | .extract x i => extA (opv C env x) i
  | .typeAssert x _ t ok => assertA C.P (opv C env x) t ok
  | .call c => match c.callee with
    | .builtin b => bfun C.P b c.argTypes.toList (c.args.toList.map (opv C env))
    | _ => none
  | _ => none
end Go.Ab
