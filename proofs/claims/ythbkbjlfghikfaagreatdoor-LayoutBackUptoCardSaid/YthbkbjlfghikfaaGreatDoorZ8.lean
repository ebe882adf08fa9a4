/-
  SHAPES: abstract values told by plain data; states told by plain data, with their objects in fixed places.
-/
import Derived.Test.YthbkbjlfghikfaaGreatDoorZ7
import Derived.Recover
import Derived.Test.YthbkbjlfghikfaaGreatDoorProg
set_option linter.unusedVariables false
set_option linter.unusedSimpArgs false
namespace Go.Ab
open Go Go.RowKit
attribute [go_sem] celP fadA fieldA indexA bndA empA sliceish bfun maxA storeA spliceA extA nilckA assertA abinInt abinStr aun aconv isNilConst fillA bslF bslE bslA makeA rowsA rangeA nextA
section
variable {P : Program} {T t : TypeId} {σ : Sto} {k : IntKind} {n : Int}
@[go_sem] theorem sget_zero (n m : Nat) (o : AObj) (r : Sto) : sget ((n, o) :: r) 0 m = if n = m then some o else none := rfl
@[go_sem] theorem sget_succ (p m : Nat) (a : Nat × AObj) (r : Sto) : sget (a :: r) (p + 1) m = sget r p m := by simp [sget]
@[go_sem] theorem readA_rptr (cs : List AV) : readA P T σ (.rptr cs) = loadC P T cs := by simp only [readA]
@[go_sem] theorem readA_ref (p m off : Nat) : readA P T σ (.ref p m off) = match sget σ p m with
  | some (.cells _ cs) => loadC P T (cs.drop off)
  | _ => none := by
  simp only [readA]
  cases sget σ p m with
  | none => rfl
  | some o => cases o <;> first | rfl | (rename_i k; cases k <;> rfl)
@[go_sem] theorem readA_eref (p m i off : Nat) : readA P T σ (.eref p m i off) = match sget σ p m with
  | some (.gvec _ _ rows) => match rows[i]? with
   | some row => loadC P T (row.drop off)
   | none => none
  | some (.tg e _ l) => if i < l.length then loadC P T ((e.cells (l.getD i e.dflt)).drop off) else none
  | some (.stk e _ l .no) => if i < l.length then loadC P T ([AV.tvec e (l.getD i [])].drop off) else none
  | _ => none := by
  simp only [readA]
  cases sget σ p m with
  | none => rfl
  | some o => cases o <;> first | rfl | (rename_i k; cases k <;> rfl)
@[go_sem low] theorem loadC_eq (cs : List AV) : loadC P T cs = match aggT P T, szT P T with
  | some true, some n => if n ≤ cs.length then some (.agg (cs.take n)) else none
  | some false, _ => cs.head?
  | _, _ => none := rfl
@[go_sem] theorem lenA_str (l : List UInt8) : lenA P t (.str l) = if strT P t = true then some (.int .i64 l.length) else none := rfl
@[go_sem] theorem lenA_vec (e : Nat) (rows : List (List AV)) : lenA P t (.vec e rows) = if slcT P t = true then some (.int .i64 rows.length) else none := rfl
@[go_sem] theorem lenA_sref (p m e o l : Nat) : lenA P t (.sref p m e o l) = if slcT P t = true then some (.int .i64 l) else none := rfl
@[go_sem] theorem lenA_emp : lenA P t .emp = if slcT P t = true then some (.int .i64 0) else none := rfl
@[go_sem] theorem lenA_nil : lenA P t (.base (.slice none 0 0)) = if slcT P t = true then some (.int .i64 0) else none := rfl
@[go_sem] theorem idxA_vec (e : Nat) (rows : List (List AV)) : idxA P t (.vec e rows) (.int k n) = match elmT P t with
  | some (_, sz, _) => if e = sz ∧ 0 ≤ n ∧ n < rows.length then some (.rptr (rows.getD n.toNat [])) else none
  | none => none := by
  unfold idxA
  cases elmT P t with
  | some q => rfl
  | none => simp only; cases arrT P t with
   | none => rfl
   | some q => simp only; split <;> rfl
@[go_sem] theorem idxA_sref (p m e o l : Nat) : idxA P t (.sref p m e o l) (.int k n) = match elmT P t with
  | some (_, sz, _) => if e = sz ∧ 0 ≤ n ∧ n < l then some (.eref p m (o + n.toNat) 0) else none
  | none => none := by
  unfold idxA
  cases elmT P t with
  | some q => rfl
  | none => simp only; cases arrT P t with
   | none => rfl
   | some q => simp only; split <;> rfl
@[go_sem] theorem idxA_rptr (cs : List AV) : idxA P t (.rptr cs) (.int k n) = match elmT P t, arrT P t with
  | none, some (len, _, sz) => if 0 ≤ n ∧ n < len then some (.rptr (cs.drop (n.toNat * sz))) else none
  | _, _ => none := by
  unfold idxA
  cases elmT P t <;> cases arrT P t <;> rfl
@[go_sem] theorem idxA_ref (p m o : Nat) : idxA P t (.ref p m o) (.int k n) = match elmT P t, arrT P t with
  | none, some (len, _, sz) => if 0 ≤ n ∧ n < len then some (.ref p m (o + n.toNat * sz)) else none
  | _, _ => none := by
  unfold idxA
  cases elmT P t <;> cases arrT P t <;> rfl
@[go_sem] theorem cellsA_int : cellsA (.int k n) = some [.int k n] := rfl
@[go_sem] theorem cellsA_bool (b : Bool) : cellsA (.bool b) = some [.bool b] := rfl
@[go_sem] theorem cellsA_str (l : List UInt8) : cellsA (.str l) = some [.str l] := rfl
@[go_sem] theorem cellsA_agg (l : List AV) : cellsA (.agg l) = some l := rfl
@[go_sem] theorem cellsA_vec (e : Nat) (l : List (List AV)) : cellsA (.vec e l) = some [.vec e l] := rfl
@[go_sem] theorem cellsA_emp : cellsA .emp = some [.emp] := rfl
@[go_sem] theorem cellsA_rptr (l : List AV) : cellsA (.rptr l) = some [.rptr l] := rfl
@[go_sem] theorem cellsA_ref (p m o : Nat) : cellsA (.ref p m o) = some [.ref p m o] := rfl
@[go_sem] theorem cellsA_eref (p m i o : Nat) : cellsA (.eref p m i o) = some [.eref p m i o] := rfl
@[go_sem] theorem cellsA_sref (p m e o l : Nat) : cellsA (.sref p m e o l) = some [.sref p m e o l] := rfl
@[go_sem] theorem cellsA_fn (f : Fn) (a b : List AV) : cellsA (.fn f a b) = some [.fn f a b] := rfl
@[go_sem] theorem cellsA_iface (u : TypeId) (v : AV) : cellsA (.iface u v) = some [.iface u v] := rfl
@[go_sem] theorem cellsA_slice (a : Option Addr) (l c : Nat) : cellsA (.base (.slice a l c)) = some [.base (.slice a l c)] := rfl
@[go_sem] theorem cellsA_pointer (a : Option Addr) : cellsA (.base (.pointer a)) = some [.base (.pointer a)] := rfl
@[go_sem] theorem cellsA_nilIface : cellsA (.base .nilIface) = some [.base .nilIface] := rfl
@[go_sem] theorem cellsA_nilFunc : cellsA (.base .nilFunc) = some [.base .nilFunc] := rfl
@[go_sem] theorem cellsA_mapv (a : Option Nat) : cellsA (.base (.map a)) = some [.base (.map a)] := rfl
@[go_sem] theorem cellsA_baseAgg (a : Array Value) : cellsA (.base (.agg a)) = if a.toList.all (·.oneCell') = true then some (a.toList.map ofVal) else none := rfl
def nilU (o : Option TypeDesc) (x : AV) : Option Bool := match o with
 | some d => if nilT d x then nilA x else none
 | none => none
@[go_sem low] theorem nilTest_eq (x : AV) : nilTest P t x = nilU (P.underlying t) x := rfl
attribute [go_sem] nilU nilT nilA
@[go_sem] theorem sliceA_str (l : List UInt8) (lo hi : Option AV) : sliceA P t (.str l) lo hi none = if strT P t then (match bndA l.length lo hi with
  | some (a, h) => if 0 ≤ a ∧ a ≤ h ∧ h ≤ l.length then some (.str ((l.drop a.toNat).take (h.toNat - a.toNat))) else none
  | none => none) else none := rfl
@[go_sem] theorem sliceA_vec (e : Nat) (rows : List (List AV)) (lo hi : Option AV) : sliceA P t (.vec e rows) lo hi none = match elmT P t, bndA rows.length lo hi with
  | some (_, sz, _), some (l, h) => if e = sz ∧ 0 ≤ l ∧ l ≤ h ∧ h ≤ rows.length then some (.vec e ((rows.drop l.toNat).take (h.toNat - l.toNat))) else none
  | _, _ => none := rfl
@[go_sem] theorem sliceA_sref (p m e o n : Nat) (lo hi : Option AV) : sliceA P t (.sref p m e o n) lo hi none = match elmT P t, bndA n lo hi with
  | some (_, sz, _), some (l, h) => if e = sz ∧ 0 ≤ l ∧ l ≤ h ∧ h ≤ n then (if l = 0 ∨ l < h then some (.sref p m e (o + l.toNat) (h.toNat - l.toNat)) else some (.vec e [])) else none
  | _, _ => none := rfl
@[go_sem] theorem sliceA_nil (lo hi : Option AV) : sliceA P t (.base (.slice none 0 0)) lo hi none = match elmT P t, bndA 0 lo hi with
  | some _, some (l, h) => if l = 0 ∧ h = 0 then some (.base (.slice none 0 0)) else none
  | _, _ => none := rfl
@[go_sem] theorem sliceA_three (a : AV) (lo hi : Option AV) : sliceA P t a lo hi (some (.int k n)) = match elmT P t, bndA 0 lo hi with
  | some _, some (l, h) => if hi.isSome = true ∧ n = 0 ∧ l = 0 ∧ h = 0 ∧ sliceish a = true then some (empA a) else none
  | _, _ => none := by
  cases a with
  | base v =>
   unfold sliceA
   split
   all_goals first
    | rfl
    | (rename_i h; cases h; done)
    | (rename_i h; cases h; rfl)
    | (rename_i h _; cases h; rfl)
    | (rename_i h; exact absurd rfl (h _))
    | (exfalso; simp_all; done)
    | simp_all
  | _ => rfl
@[go_sem] theorem elemsA_vec (sz e : Nat) (rows : List (List AV)) : elemsA sz σ (.vec e rows) = if e = sz ∨ rows = [] then some rows else none := rfl
@[go_sem] theorem elemsA_nil (sz : Nat) : elemsA sz σ (.base (.slice none 0 0)) = some [] := rfl
@[go_sem] theorem elemsA_emp (sz : Nat) : elemsA sz σ .emp = some [] := rfl
@[go_sem] theorem elemsA_sref (sz p m e o l : Nat) : elemsA sz σ (.sref p m e o l) = match sget σ p m with
  | some (.gvec esz' _ rows) => if e = sz ∧ esz' = sz ∧ o + l ≤ rows.length then some ((rows.drop o).take l) else none
  | _ => none := rfl
end
def appYs (P : Program) (t' sz : Nat) (σ : Sto) (y : AV) : Option (List (List AV)) :=
 match y with
 | .str l => if strT P t' ∧ sz = 1 then some (strElems l) else none
 | y => if slcT P t' then elemsA sz σ y else none
def appX (e sz bytes : Nat) (σ : Sto) (nx : Nat) (x : AV) (ys : Option (List (List AV))) : Option (AV × Sto × Nat) :=
 match ys with
 | some ys => (match x with
   | .base (.slice none 0 0) => if ys.length * bytes ≤ limB ∧ ys.length ≤ 4611686018427387904 then (if ys.length = 0 then some (.base (.slice none 0 0), σ, nx) else some (.sref σ.length nx sz 0 ys.length, σ ++ [(nx, .gvec sz e ys)], nx + 1)) else none
   | .emp => if ys.length * bytes ≤ limB ∧ ys.length ≤ 4611686018427387904 then (if ys.length = 0 then some (.emp, σ, nx) else some (.sref σ.length nx sz 0 ys.length, σ ++ [(nx, .gvec sz e ys)], nx + 1)) else none
   | .sref p nm esz off len => match sget σ p nm with
    | some (.gvec esz' e' rows) => if esz = sz ∧ esz' = sz ∧ e' = e ∧ off + len ≤ rows.length ∧ (len + ys.length) * bytes ≤ limB ∧ len + ys.length ≤ 4611686018427387904 then
      some (.sref p nx sz 0 (len + ys.length), σ.set p (nx, .gvec sz e ((rows.drop off).take len ++ ys)), nx + 1) else none
    | _ => none
   | _ => none)
 | none => none
@[go_sem] theorem appendA_eq (P : Program) (t t' : Nat) (σ : Sto) (nx : Nat) (x y : AV) : appendA P t t' σ nx x y = match elmT P t with
  | some (e, sz, bytes) => if 0 < sz ∧ ((zeroCells P e).map (·.length)) = some sz then appX e sz bytes σ nx x (appYs P t' sz σ y) else none
  | none => none := rfl
section
variable {P : Program} {t' sz e bytes : Nat} {σ : Sto} {nx : Nat}
@[go_sem] theorem appYs_str (l : List UInt8) : appYs P t' sz σ (.str l) = if strT P t' ∧ sz = 1 then some (strElems l) else none := rfl
@[go_sem] theorem appYs_vec (n : Nat) (r : List (List AV)) : appYs P t' sz σ (.vec n r) = if slcT P t' then elemsA sz σ (.vec n r) else none := rfl
@[go_sem] theorem appYs_nil : appYs P t' sz σ (.base (.slice none 0 0)) = if slcT P t' then some [] else none := rfl
@[go_sem] theorem appYs_emp : appYs P t' sz σ .emp = if slcT P t' then some [] else none := rfl
@[go_sem] theorem appYs_sref (p m n o l : Nat) : appYs P t' sz σ (.sref p m n o l) = if slcT P t' then elemsA sz σ (.sref p m n o l) else none := rfl
@[go_sem] theorem appX_nil (ys : List (List AV)) : appX e sz bytes σ nx (.base (.slice none 0 0)) (some ys) = if ys.length * bytes ≤ limB ∧ ys.length ≤ 4611686018427387904 then (if ys.length = 0 then some (.base (.slice none 0 0), σ, nx) else some (.sref σ.length nx sz 0 ys.length, σ ++ [(nx, .gvec sz e ys)], nx + 1)) else none := rfl
@[go_sem] theorem appX_sref (ys : List (List AV)) (p nm esz off len : Nat) : appX e sz bytes σ nx (.sref p nm esz off len) (some ys) = match sget σ p nm with
    | some (.gvec esz' e' rows) => if esz = sz ∧ esz' = sz ∧ e' = e ∧ off + len ≤ rows.length ∧ (len + ys.length) * bytes ≤ limB ∧ len + ys.length ≤ 4611686018427387904 then
      some (.sref p nx sz 0 (len + ys.length), σ.set p (nx, .gvec sz e ((rows.drop off).take len ++ ys)), nx + 1) else none
    | _ => none := rfl
end
attribute [go_sem] decide_true decide_false beq_true beq_false Bool.not_eq_true Bool.and_true Bool.true_and Bool.and_false Bool.false_and Bool.or_true Bool.true_or Bool.or_false Bool.false_or Int.natCast_nonneg Int.ofNat_lt Int.ofNat_le Int.toNat_natCast List.length_map Bool.decide_eq_true
attribute [go_sem] List.append_nil List.nil_append List.cons_append List.length_nil List.length_cons List.length_append List.drop_zero List.drop_succ_cons List.take_zero List.take_succ_cons List.take_nil List.drop_nil List.head?_cons List.map_cons List.map_nil List.getElem?_cons_zero List.getElem?_cons_succ
 Option.map_some Option.map_none Option.bind_some Option.bind_none Nat.add_zero Nat.zero_add Bool.false_eq_true Bool.true_eq_false if_true if_false true_and and_true false_and and_false ite_true ite_false List.set_cons_zero List.set_cons_succ
 eq_self not_true_eq_false not_false_eq_true Bool.not_true Bool.not_false List.toList_toArray true_or or_true false_or or_false
@[go_sem] theorem decide_false_eq (b : Bool) : decide (b = false) = !b := by cases b <;> rfl
@[go_sem] theorem dstIn_nil (d : Option Nat) : dstIn [] d = false := by cases d <;> rfl
@[go_sem] theorem dstIn_none (l : List Nat) : dstIn l none = false := rfl
@[go_sem] theorem dstIn_cons (a d : Nat) (l : List Nat) : dstIn (a :: l) (some d) = if d = a then true else dstIn l (some d) := by
  unfold dstIn
  by_cases h : d = a <;> simp [h]
section
variable {C : Cx} {t : TypeId} {x y : Operand} {k : IntKind} {a b : Int}
@[go_sem] theorem abin_add : abin C .add t x y (.int k a) (.int k b) = some (.int k (k.wrap (a + b))) := by simp [abin, abinInt]
@[go_sem] theorem abin_sub : abin C .sub t x y (.int k a) (.int k b) = some (.int k (k.wrap (a - b))) := by simp [abin, abinInt]
@[go_sem] theorem abin_mul : abin C .mul t x y (.int k a) (.int k b) = some (.int k (k.wrap (a * b))) := by simp [abin, abinInt]
@[go_sem] theorem abin_quo : abin C .quo t x y (.int k a) (.int k b) = if b = 0 then none else some (.int k (k.wrap (a.tdiv b))) := by simp [abin, abinInt]
@[go_sem] theorem abin_rem : abin C .rem t x y (.int k a) (.int k b) = if b = 0 then none else some (.int k (a.tmod b)) := by simp [abin, abinInt]
@[go_sem] theorem abin_eql : abin C .eql t x y (.int k a) (.int k b) = some (.bool (decide (a = b))) := by simp [abin, abinInt]
@[go_sem] theorem abin_neq : abin C .neq t x y (.int k a) (.int k b) = some (.bool (!decide (a = b))) := by simp [abin, abinInt]
@[go_sem] theorem abin_lss : abin C .lss t x y (.int k a) (.int k b) = some (.bool (decide (a < b))) := by simp [abin, abinInt]
@[go_sem] theorem abin_leq : abin C .leq t x y (.int k a) (.int k b) = some (.bool (decide (a ≤ b))) := by simp [abin, abinInt]
@[go_sem] theorem abin_gtr : abin C .gtr t x y (.int k a) (.int k b) = some (.bool (decide (b < a))) := by simp [abin, abinInt]
@[go_sem] theorem abin_geq : abin C .geq t x y (.int k a) (.int k b) = some (.bool (decide (b ≤ a))) := by simp [abin, abinInt]
@[go_sem] theorem abin_and : abin C .and t x y (.int k a) (.int k b) = some (.int k (Go.bits .and k a b)) := by simp [abin, abinInt]
@[go_sem] theorem abin_shr : abin C .shr t x y (.int k a) (.int k b) = if 0 ≤ b ∧ b ≤ k.bits then some (.int k (a / 2 ^ b.toNat)) else none := by simp [abin]
@[go_sem] theorem abin_shl : abin C .shl t x y (.int k a) (.int k b) = if 0 ≤ b ∧ b ≤ k.bits then some (.int k (k.wrap (a * 2 ^ b.toNat))) else none := by simp [abin]
@[go_sem] theorem abin_str {op : BinOp} {p q : List UInt8} : abin C op t x y (.str p) (.str q) = abinStr op p q := by simp [abin]
@[go_sem] theorem abin_beq {p q : Bool} : abin C .eql t x y (.bool p) (.bool q) = if isBoolT C.P t = true then some (.bool (p == q)) else none := by simp [abin]
@[go_sem] theorem abin_bne {p q : Bool} : abin C .neq t x y (.bool p) (.bool q) = if isBoolT C.P t = true then some (.bool (!(p == q))) else none := by simp [abin]
def nilR (neg : Bool) : Option Bool → Option Bool → Option AV
 | some r, some true => some (.bool (if neg = true then !r else r))
 | _, _ => none
@[go_sem] theorem nilR_some (neg r : Bool) : nilR neg (some r) (some true) = some (.bool (if neg = true then !r else r)) := rfl
@[go_sem] theorem abin_slice_eql {p : AV} : abin C .eql t x (.const (.slice none 0 0)) p (.base (.slice none 0 0)) = nilR false (nilTest C.P t p) (nilTest C.P t (.base (.slice none 0 0))) := by
  have : ∀ o : Option Bool, ∀ o' : Option Bool, (match BinOp.eql, o, o' with
    | .eql, some r, some true => some (AV.bool r)
    | .neq, some r, some true => some (.bool (!r))
    | _, _, _ => none) = nilR false o o' := by
   intro o o'
   cases o <;> cases o' <;> try rfl
   rename_i r' ; cases r' <;> rfl
  cases p <;> exact this _ _
@[go_sem] theorem abin_slice_neq {p : AV} : abin C .neq t x (.const (.slice none 0 0)) p (.base (.slice none 0 0)) = nilR true (nilTest C.P t p) (nilTest C.P t (.base (.slice none 0 0))) := by
  have : ∀ o : Option Bool, ∀ o' : Option Bool, (match BinOp.neq, o, o' with
    | .eql, some r, some true => some (AV.bool r)
    | .neq, some r, some true => some (.bool (!r))
    | _, _, _ => none) = nilR true o o' := by
   intro o o'
   cases o <;> cases o' <;> try rfl
   rename_i r' ; cases r' <;> rfl
  cases p <;> exact this _ _
@[go_sem] theorem abin_pointer_eql {p : AV} : abin C .eql t x (.const (.pointer none)) p (.base (.pointer none)) = nilR false (nilTest C.P t p) (nilTest C.P t (.base (.pointer none))) := by
  have : ∀ o : Option Bool, ∀ o' : Option Bool, (match BinOp.eql, o, o' with
    | .eql, some r, some true => some (AV.bool r)
    | .neq, some r, some true => some (.bool (!r))
    | _, _, _ => none) = nilR false o o' := by
   intro o o'
   cases o <;> cases o' <;> try rfl
   rename_i r' ; cases r' <;> rfl
  cases p <;> exact this _ _
@[go_sem] theorem abin_pointer_neq {p : AV} : abin C .neq t x (.const (.pointer none)) p (.base (.pointer none)) = nilR true (nilTest C.P t p) (nilTest C.P t (.base (.pointer none))) := by
  have : ∀ o : Option Bool, ∀ o' : Option Bool, (match BinOp.neq, o, o' with
    | .eql, some r, some true => some (AV.bool r)
    | .neq, some r, some true => some (.bool (!r))
    | _, _, _ => none) = nilR true o o' := by
   intro o o'
   cases o <;> cases o' <;> try rfl
   rename_i r' ; cases r' <;> rfl
  cases p <;> exact this _ _
@[go_sem] theorem abin_map_eql {p : AV} : abin C .eql t x (.const (.map none)) p (.base (.map none)) = nilR false (nilTest C.P t p) (nilTest C.P t (.base (.map none))) := by
  have : ∀ o : Option Bool, ∀ o' : Option Bool, (match BinOp.eql, o, o' with
    | .eql, some r, some true => some (AV.bool r)
    | .neq, some r, some true => some (.bool (!r))
    | _, _, _ => none) = nilR false o o' := by
   intro o o'
   cases o <;> cases o' <;> try rfl
   rename_i r' ; cases r' <;> rfl
  cases p <;> exact this _ _
@[go_sem] theorem abin_map_neq {p : AV} : abin C .neq t x (.const (.map none)) p (.base (.map none)) = nilR true (nilTest C.P t p) (nilTest C.P t (.base (.map none))) := by
  have : ∀ o : Option Bool, ∀ o' : Option Bool, (match BinOp.neq, o, o' with
    | .eql, some r, some true => some (AV.bool r)
    | .neq, some r, some true => some (.bool (!r))
    | _, _, _ => none) = nilR true o o' := by
   intro o o'
   cases o <;> cases o' <;> try rfl
   rename_i r' ; cases r' <;> rfl
  cases p <;> exact this _ _
@[go_sem] theorem abin_func_eql {p : AV} : abin C .eql t x (.const .nilFunc) p (.base .nilFunc) = nilR false (nilTest C.P t p) (nilTest C.P t (.base .nilFunc)) := by
  have : ∀ o : Option Bool, ∀ o' : Option Bool, (match BinOp.eql, o, o' with
    | .eql, some r, some true => some (AV.bool r)
    | .neq, some r, some true => some (.bool (!r))
    | _, _, _ => none) = nilR false o o' := by
   intro o o'
   cases o <;> cases o' <;> try rfl
   rename_i r' ; cases r' <;> rfl
  cases p <;> exact this _ _
@[go_sem] theorem abin_func_neq {p : AV} : abin C .neq t x (.const .nilFunc) p (.base .nilFunc) = nilR true (nilTest C.P t p) (nilTest C.P t (.base .nilFunc)) := by
  have : ∀ o : Option Bool, ∀ o' : Option Bool, (match BinOp.neq, o, o' with
    | .eql, some r, some true => some (AV.bool r)
    | .neq, some r, some true => some (.bool (!r))
    | _, _, _ => none) = nilR true o o' := by
   intro o o'
   cases o <;> cases o' <;> try rfl
   rename_i r' ; cases r' <;> rfl
  cases p <;> exact this _ _
@[go_sem] theorem abin_iface_eql {p : AV} : abin C .eql t x (.const .nilIface) p (.base .nilIface) = nilR false (nilTest C.P t p) (nilTest C.P t (.base .nilIface)) := by
  have : ∀ o : Option Bool, ∀ o' : Option Bool, (match BinOp.eql, o, o' with
    | .eql, some r, some true => some (AV.bool r)
    | .neq, some r, some true => some (.bool (!r))
    | _, _, _ => none) = nilR false o o' := by
   intro o o'
   cases o <;> cases o' <;> try rfl
   rename_i r' ; cases r' <;> rfl
  cases p <;> exact this _ _
@[go_sem] theorem abin_iface_neq {p : AV} : abin C .neq t x (.const .nilIface) p (.base .nilIface) = nilR true (nilTest C.P t p) (nilTest C.P t (.base .nilIface)) := by
  have : ∀ o : Option Bool, ∀ o' : Option Bool, (match BinOp.neq, o, o' with
    | .eql, some r, some true => some (AV.bool r)
    | .neq, some r, some true => some (.bool (!r))
    | _, _, _ => none) = nilR true o o' := by
   intro o o'
   cases o <;> cases o' <;> try rfl
   rename_i r' ; cases r' <;> rfl
  cases p <;> exact this _ _
theorem wrap64 {z : Int} (h : -9223372036854775808 ≤ z) (h' : z ≤ 9223372036854775807) : IntKind.wrap .i64 z = z := by
 simp [IntKind.wrap, IntKind.bits, IntKind.signed] <;> omega
end
section
variable {K : St → Prop} {Q : AExit → St → Prop} {s : St}
@[go_sem] theorem athen_normal : athen K Q .normal s ↔ K s := Iff.rfl
@[go_sem] theorem athen_exit {i : Nat} : athen K Q (.exit i) s ↔ Q (.exit i) s := Iff.rfl
@[go_sem] theorem athen_ret : athen K Q .ret s ↔ Q .ret s := Iff.rfl
@[go_sem] theorem athen_pan {v : AV} : athen K Q (.pan v) s ↔ Q (.pan v) s := Iff.rfl
@[go_sem] theorem athen_goto {l : Nat} : athen K Q (.goto l) s ↔ Q (.goto l) s := Iff.rfl
@[go_sem] theorem ablock_normal {id : Nat} : ablock id Q .normal s ↔ Q .normal s := Iff.rfl
@[go_sem] theorem ablock_exit {id i : Nat} : ablock id Q (.exit i) s ↔ if i = id then Q .normal s else Q (.exit i) s := Iff.rfl
@[go_sem] theorem ablock_ret {id : Nat} : ablock id Q .ret s ↔ Q .ret s := Iff.rfl
@[go_sem] theorem ablock_pan {id : Nat} {v : AV} : ablock id Q (.pan v) s ↔ Q (.pan v) s := Iff.rfl
@[go_sem] theorem ablock_goto {id : Nat} {l : Nat} : ablock id Q (.goto l) s ↔ Q (.goto l) s := Iff.rfl
end
@[go_sem ↓] theorem resA_tmp (P : Program) (t : Nat) (env : Nat → AV) (σ : Sto) (nx : Nat) : resA P [.tmp t] ⟨env, σ, nx⟩ = some (env t) := rfl
@[go_sem ↓] theorem resA_cell (P : Program) (a T : Nat) (env : Nat → AV) (σ : Sto) (nx : Nat) : resA P [.cell a T] ⟨env, σ, nx⟩ = readA P T σ (env a) := rfl
def two : Option AV → Option AV → Option AV
 | some a, some b => some (.tup [a, b])
 | _, _ => none
def three : Option AV → Option AV → Option AV → Option AV
 | some a, some b, some c => some (.tup [a, b, c])
 | _, _, _ => none
@[go_sem] theorem two_some (a b : AV) : two (some a) (some b) = some (.tup [a, b]) := rfl
@[go_sem] theorem three_some (a b c : AV) : three (some a) (some b) (some c) = some (.tup [a, b, c]) := rfl
@[go_sem ↓] theorem resA_two (P : Program) (r q : ResultVar) (s : St) : resA P [r, q] s = two (res1 P s r) (res1 P s q) := by
  unfold resA two
  simp only [List.mapM_cons, List.mapM_nil]
  cases res1 P s r <;> cases res1 P s q <;> rfl
@[go_sem ↓] theorem resA_three (P : Program) (r q p : ResultVar) (s : St) : resA P [r, q, p] s = three (res1 P s r) (res1 P s q) (res1 P s p) := by
  unfold resA three
  simp only [List.mapM_cons, List.mapM_nil]
  cases res1 P s r <;> cases res1 P s q <;> cases res1 P s p <;> rfl
@[go_sem] theorem res1_tmp (P : Program) (t : Nat) (env : Nat → AV) (σ : Sto) (nx : Nat) : res1 P ⟨env, σ, nx⟩ (.tmp t) = some (env t) := rfl
@[go_sem] theorem res1_cell (P : Program) (a T : Nat) (env : Nat → AV) (σ : Sto) (nx : Nat) : res1 P ⟨env, σ, nx⟩ (.cell a T) = readA P T σ (env a) := rfl
def pfin (F : Nat) (σ : Sto) (Q : AOut → Prop) : Option AV → Prop
 | some r => RF (frzF σ F r) ∧ Q (.ret (frzF σ F r))
 | none => False
@[go_sem] theorem pfin_some (F : Nat) (σ : Sto) (Q : AOut → Prop) (r : AV) : pfin F σ Q (some r) ↔ RF (frzF σ F r) ∧ Q (.ret (frzF σ F r)) := Iff.rfl
theorem pfin_iff (F : Nat) (σ : Sto) (Q : AOut → Prop) (o : Option AV) : pfin F σ Q o ↔ ∃ r, o = some r ∧ RF (frzF σ F r) ∧ Q (.ret (frzF σ F r)) := by
 cases o <;> simp [pfin]
@[go_sem] theorem PPost_ret (C : Cx) (F : Nat) (rs : List ResultVar) (Q : AOut → Prop) (env : Nat → AV) (σ : Sto) (nx : Nat) : PPost C F rs Q .ret ⟨env, σ, nx⟩ ↔ pfin F σ Q (resA C.P rs ⟨env, σ, nx⟩) := (pfin_iff _ _ _ _).symm
@[go_sem] theorem PPost_normal (C : Cx) (F : Nat) (rs : List ResultVar) (Q : AOut → Prop) (env : Nat → AV) (σ : Sto) (nx : Nat) : PPost C F rs Q .normal ⟨env, σ, nx⟩ ↔ pfin F σ Q (resA C.P rs ⟨env, σ, nx⟩) := (pfin_iff _ _ _ _).symm
@[go_sem] theorem PPost_pan (C : Cx) (F : Nat) (rs : List ResultVar) (Q : AOut → Prop) (v : AV) (s : St) : PPost C F rs Q (.pan v) s ↔ RF (frzF s.σ F v) ∧ Q (.pan (frzF s.σ F v)) := Iff.rfl
@[go_sem] theorem frzF_zero (σ : Sto) (v : AV) : frzF σ 0 v = v := rfl
@[go_sem] theorem RF_int (k : IntKind) (n : Int) : RF (.int k n) ↔ True := Iff.rfl
@[go_sem] theorem RF_bool (b : Bool) : RF (.bool b) ↔ True := Iff.rfl
@[go_sem] theorem RF_str (l : List UInt8) : RF (.str l) ↔ True := Iff.rfl
@[go_sem] theorem RF_base (v : Value) : RF (.base v) ↔ True := Iff.rfl
@[go_sem] theorem RF_emp : RF .emp ↔ True := Iff.rfl
@[go_sem] theorem RF_any : RF .any ↔ True := Iff.rfl
@[go_sem] theorem RF_agg (l : List AV) : RF (.agg l) ↔ RFL l := by simp only [RF]
@[go_sem] theorem RF_tup (l : List AV) : RF (.tup l) ↔ RFL l := by simp only [RF]
@[go_sem] theorem RF_vec (n : Nat) (l : List (List AV)) : RF (.vec n l) ↔ RFLL l := by simp only [RF]
@[go_sem] theorem RF_rptr (l : List AV) : RF (.rptr l) ↔ RFL l := by simp only [RF]
@[go_sem] theorem RF_iface (t : TypeId) (v : AV) : RF (.iface t v) ↔ RF v := by simp only [RF]
@[go_sem] theorem RF_fn (f : Fn) (a b : List AV) : RF (.fn f a b) ↔ RFL a ∧ RFL b := by simp only [RF]
@[go_sem] theorem RFL_nil : RFL [] ↔ True := by simp only [RFL]
@[go_sem] theorem RFL_cons (a : AV) (l : List AV) : RFL (a :: l) ↔ RF a ∧ RFL l := by simp only [RFL]
@[go_sem] theorem RFLL_nil : RFLL [] ↔ True := by simp only [RFLL]
@[go_sem] theorem RFLL_cons (a : List AV) (l : List (List AV)) : RFLL (a :: l) ↔ RFL a ∧ RFLL l := by simp only [RFLL]
def afin (σ : Sto) (nx : Nat) (Q : AOut → Sto → Nat → Prop) : Option AV → Prop
 | some r => Q (.ret r) σ nx
 | none => False
@[go_sem] theorem afin_some (σ : Sto) (nx : Nat) (Q : AOut → Sto → Nat → Prop) (r : AV) : afin σ nx Q (some r) ↔ Q (.ret r) σ nx := Iff.rfl
theorem afin_iff (σ : Sto) (nx : Nat) (Q : AOut → Sto → Nat → Prop) (o : Option AV) : afin σ nx Q o ↔ ∃ r, o = some r ∧ Q (.ret r) σ nx := by
 cases o <;> simp [afin]
@[go_sem] theorem APost_ret (C : Cx) (rs : List ResultVar) (Q : AOut → Sto → Nat → Prop) (env : Nat → AV) (σ : Sto) (nx : Nat) : APost C rs Q .ret ⟨env, σ, nx⟩ ↔ afin σ nx Q (resA C.P rs ⟨env, σ, nx⟩) := (afin_iff _ _ _ _).symm
@[go_sem] theorem APost_normal (C : Cx) (rs : List ResultVar) (Q : AOut → Sto → Nat → Prop) (env : Nat → AV) (σ : Sto) (nx : Nat) : APost C rs Q .normal ⟨env, σ, nx⟩ ↔ afin σ nx Q (resA C.P rs ⟨env, σ, nx⟩) := (afin_iff _ _ _ _).symm
@[go_sem] theorem APost_pan (C : Cx) (rs : List ResultVar) (Q : AOut → Sto → Nat → Prop) (v : AV) (env : Nat → AV) (σ : Sto) (nx : Nat) : APost C rs Q (.pan v) ⟨env, σ, nx⟩ ↔ Q (.pan v) σ nx := Iff.rfl
abbrev Gets (r : AV) (σ : Sto) (nx : Nat) : AOut → Sto → Nat → Prop := fun o σ' nx' => o = .ret r ∧ σ' = σ ∧ nx' = nx
@[go_sem] theorem Gets_iff (r : AV) (σ σ' : Sto) (nx nx' : Nat) (o : AOut) : Gets r σ nx o σ' nx' ↔ o = .ret r ∧ σ' = σ ∧ nx' = nx := Iff.rfl
theorem CallP.acall {C : Cx} {tot : Bool} {g : FuncId} {args : List AV} {σ σ1 : Sto} {nx nx1 : Nat} {K KP : AV → Sto → Nat → Prop} {r : AV} (h : ACall C g args σ nx (Gets r σ1 nx1)) (hk : K r σ1 nx1) : CallP C true tot g args σ nx K KP :=
 ⟨_, h, (by rintro v σ' nx' ⟨hq, rfl, rfl⟩; cases hq; exact hk), (by rintro v σ' nx' ⟨hq, _, _⟩; cases hq), .inr ⟨r, σ1, nx1, rfl, rfl, rfl⟩, .inl rfl⟩
abbrev GetsN (r : AV) (σ : Sto) : AOut → Sto → Nat → Prop := fun o σ' _ => o = .ret r ∧ σ' = σ
@[go_sem] theorem GetsN_iff (r : AV) (σ σ' : Sto) (nx' : Nat) (o : AOut) : GetsN r σ o σ' nx' ↔ o = .ret r ∧ σ' = σ := Iff.rfl
theorem CallP.rel {C : Cx} {own tot : Bool} {g : FuncId} {args : List AV} {σ : Sto} {nx : Nat} {K KP : AV → Sto → Nat → Prop} {Q : AOut → Prop} (h : PCall C g args Q) (hf : RFL args) (hk : ∀ v, Q (.ret v) → K v σ nx) (hp : ∀ v, Q (.pan v) → KP v σ nx) (ht : tot = true ∨ ∃ v, Q (.ret v)) : CallP C own tot g args σ nx K KP :=
 ⟨_, h.acall hf σ nx, (by rintro v σ' nx' ⟨hq, rfl, rfl⟩; exact hk v hq), (by rintro v σ' nx' ⟨hq, rfl, rfl⟩; exact hp v hq), (ht.elim .inl fun ⟨v, hv⟩ => .inr ⟨v, σ, nx, hv, rfl, rfl⟩), .inr ⟨hf, _, h, fun _ _ _ => Iff.rfl⟩⟩
attribute [go_sem] Nat.lt_irrefl Nat.zero_lt_succ decide_not List.take_length List.length_replicate List.drop_replicate List.take_replicate List.replicate_zero Nat.sub_self Nat.le_refl Nat.add_sub_cancel Int.natCast_pos Int.natCast_eq_zero Int.natCast_inj Int.le_refl Int.toNat_zero Nat.sub_zero
@[go_sem] theorem frzF_int (σ : Sto) (F : Nat) (k : IntKind) (n : Int) : frzF σ F (.int k n) = .int k n := by cases F <;> rfl
@[go_sem] theorem frzF_bool (σ : Sto) (F : Nat) (b : Bool) : frzF σ F (.bool b) = .bool b := by cases F <;> rfl
@[go_sem] theorem frzF_str (σ : Sto) (F : Nat) (l : List UInt8) : frzF σ F (.str l) = .str l := by cases F <;> rfl
@[go_sem] theorem frzF_base (σ : Sto) (F : Nat) (v : Value) : frzF σ F (.base v) = .base v := by cases F <;> rfl
@[go_sem] theorem frzF_emp (σ : Sto) (F : Nat) : frzF σ F .emp = .emp := by cases F <;> rfl
@[go_sem] theorem frzF_vec (σ : Sto) (F : Nat) (e : Nat) (r : List (List AV)) : frzF σ F (.vec e r) = .vec e r := by cases F <;> rfl
@[go_sem] theorem frzF_rptr (σ : Sto) (F : Nat) (r : List AV) : frzF σ F (.rptr r) = .rptr r := by cases F <;> rfl
@[go_sem] theorem frzF_agg (σ : Sto) (F : Nat) (r : List AV) : frzF σ (F + 1) (.agg r) = .agg (r.map (frzF σ F)) := by simp only [frzF]
@[go_sem] theorem frzF_tup (σ : Sto) (F : Nat) (r : List AV) : frzF σ (F + 1) (.tup r) = .tup (r.map (frzF σ F)) := by simp only [frzF]
@[go_sem] theorem frzF_sref (σ : Sto) (F p nm e o l : Nat) : frzF σ (F + 1) (.sref p nm e o l) = match sget σ p nm with
  | some (.gvec esz' _ rows) => if esz' = e ∧ o + l ≤ rows.length then .vec e (((rows.drop o).take l).map fun r => r.map (frzF σ F)) else .sref p nm e o l
  | _ => .sref p nm e o l := by
  simp only [frzF]
  cases sget σ p nm with
  | none => rfl
  | some ob => cases ob <;> rfl
@[go_sem] theorem frz_rows (σ : Sto) (r : List (List AV)) : (r.map fun x => x.map (frzF σ 0)) = r := by
  have : (fun x : List AV => x.map (frzF σ 0)) = id := by
   funext x
   have : frzF σ 0 = id := rfl
   rw [this, List.map_id]; rfl
  rw [this, List.map_id]
theorem pcall_mk {C : Cx} {g : FuncId} {fn : Func} {c : Code} {args : List AV} (F n : Nat) (rs : List ResultVar) (hf : C.P.funcs[g]? = some fn) (hb : fn.body = some c) (hname : (fn.name == "runtime.NumGoroutine") = false) (hn : fn.ntmps = n) (hr : fn.results.toList = rs) (hl : Nat.ble args.length n = true) {Q : AOut → Prop}
  (h : aw C n [] c (PPost C F rs Q) ⟨argEnv args, [], 0⟩) : PCall C g args Q := by
 subst hn; subst hr
 exact pcall_intro F hf hb hname (Nat.le_of_ble_eq_true hl) h
theorem acall_mk {C : Cx} {g : FuncId} {fn : Func} {c : Code} {args : List AV} {σ : Sto} {nx : Nat} (n : Nat) (rs : List ResultVar) (hf : C.P.funcs[g]? = some fn) (hb : fn.body = some c) (hname : (fn.name == "runtime.NumGoroutine") = false) (hn : fn.ntmps = n) (hr : fn.results.toList = rs) (hl : Nat.ble args.length n = true) {Q : AOut → Sto → Nat → Prop}
  (h : aw C n [] c (APost C rs Q) ⟨argEnv args, σ, nx⟩) : ACall C g args σ nx Q := by
 subst hn; subst hr
 exact acall_intro hf hb hname (Nat.le_of_ble_eq_true hl) h
theorem aw_if {C : Cx} {n : Nat} {ds : List Deferred} {Q : AExit → St → Prop} {s : St} {c : Operand} {x y : Code} (p : Prop) [Decidable p] (hc : opv C s.env c = .bool (decide p)) (ht : p → aw C n ds x Q s) (hf : ¬p → aw C n ds y Q s) : aw C n ds (.cond c x y) Q s :=
 aw_cond hc (fun h => ht (of_decide_eq_true h)) (fun h => hf (of_decide_eq_false h))
section
variable {C : Cx} {n : Nat} {ds : List Deferred} {K : St → Prop} {Q : AExit → St → Prop} {s : St} {e : AExit}
theorem ablock_here {id : Nat} (h : Q .normal s) : ablock id Q (.exit id) s := by simp only [ablock, if_true]; exact h
theorem ablock_pass {id i : Nat} (hne : Nat.beq i id = false) (h : Q (.exit i) s) : ablock id Q (.exit i) s := by
 have : i ≠ id := fun e => by subst e; simp at hne
 simp only [ablock, if_neg this]; exact h
def afor (k : Nat) (Q : AExit → St → Prop) : AExit → St → Prop := fun e s => Q e ⟨s.env, s.σ.take k, s.nx⟩
theorem aw_forget' {c : Code} (k : Nat) (hk : s.σ.length = k) (h : aw C n ds c (afor k Q) s) : aw C n ds c Q s :=
 aw_forget (aw_mono h fun e s' hq => ⟨k, by omega, hq⟩)
theorem afor_one {env : Nat → AV} {a : Nat × AObj} {σ : Sto} {nx : Nat} (h : Q e ⟨env, [a], nx⟩) : afor 1 Q e ⟨env, a :: σ, nx⟩ := by simpa [afor] using h
theorem aw_loop' {c : Code} (J : Nat → St → Prop) (round : ∀ d s, J d s → aw C n ds c (athen (fun s' => ∃ d', d' < d ∧ J d' s') Q) s) (h₀ : ∃ d, J d s) : aw C n ds (.loop c) Q s :=
 h₀.elim fun _ h => aw_loop J round h
end
theorem sget_end (σ l : Sto) (n : Nat) (o : AObj) : sget (σ ++ (n, o) :: l) σ.length n = some o := by simp [sget]
theorem set_end (σ l : Sto) (a b : Nat × AObj) : (σ ++ a :: l).set σ.length b = σ ++ b :: l := by simp
theorem take_end (σ l : Sto) : (σ ++ l).take σ.length = σ := by simp
attribute [go_sem] sget_end set_end take_end
end Go.Ab

namespace Go.Ab
open Go Go.RowKit
def DRel (kn : Kn) (m : Mp) (x : FuncId × List AV) (d : Deferred) : Prop :=
 ∃ cap, d.target = .fn (.func x.1) cap ∧ RelL kn m x.2 (d.args ++ cap).toList
def DRelL (kn : Kn) (m : Mp) : List (FuncId × List AV) → List Deferred → Prop
 | [], ds => ds = []
 | x :: l, ds => ∃ d ds', ds = d :: ds' ∧ DRel kn m x d ∧ DRelL kn m l ds'
theorem DRelL.mono {kn kn' : Kn} {m m' : Mp} (hk : KnLe kn kn') (hm : MpLe m m') : ∀ {l : List (FuncId × List AV)} {ds : List Deferred}, DRelL kn m l ds → DRelL kn' m' l ds
 | [], ds, h => h
 | x :: l, ds, ⟨d, ds', h1, ⟨cap, h2, h3⟩, h4⟩ => ⟨d, ds', h1, ⟨cap, h2, h3.mono hk hm⟩, DRelL.mono hk hm h4⟩
def RelMode (kn : Kn) (m : Mp) : Option AV → FrameMode → Prop
 | none, u => u = .returning
 | some x, u => ∃ v, u = .panicking [{ v := v, recovered := false }] ∧ Rel kn m x v
theorem RelMode.run {kn : Kn} {m : Mp} {x : Option AV} {u : FrameMode} (h : RelMode kn m x u) : u ≠ .run := by
 cases x with
 | none => simp only [RelMode] at h; subst h; simp
 | some x => obtain ⟨v, rfl, _⟩ := h; simp
def DCall (C : Cx) (g : FuncId) (args : List AV) (σ : Sto) (nx : Nat) (u : Option AV) (R : Option AV → Sto → Nat → Prop) : Prop :=
 bodyOK C.P g = true ∧ ∀ (B : Base) (kn : Kn) (m : Mp) (w : World) (vs : List Value) (um : FrameMode), Inv C B kn m σ nx w → RelL kn m args vs → RelMode kn m u um →
  CallsD C.P g vs.toArray um w fun e u' w' => (∃ v, e = .returned v) ∧ ∃ x kn' m' σ' nx', R x σ' nx' ∧ RelMode kn' m' x (settle u') ∧ KnLe kn kn' ∧ Inv C B kn' m' σ' nx' w' ∧ Keep m σ nx m' σ' nx'
def LeavesA (C : Cx) (rs : List ResultVar) (Q : AOut → Sto → Nat → Prop) : List (FuncId × List AV) → Option AV → St → Prop
 | [], none, s => ∃ r, resA C.P rs s = some r ∧ Q (.ret r) s.σ s.nx
 | [], some v, s => Q (.pan v) s.σ s.nx
 | x :: l, u, s => ∃ R, DCall C x.1 x.2 s.σ s.nx u R ∧ ∀ u' σ' nx', R u' σ' nx' → LeavesA C rs Q l u' ⟨s.env, σ', nx'⟩
section
variable {C : Cx} {n : Nat} {dl : List (FuncId × List AV)} {Q : AExit → List (FuncId × List AV) → St → Prop} {s : St} {x y : Code}
end
section
variable {C : Cx} {n : Nat} {dl : List (FuncId × List AV)} {Q : AExit → List (FuncId × List AV) → St → Prop} {s : St}
end
def DPost (C : Cx) (rs : List ResultVar) (Q : AOut → Sto → Nat → Prop) : AExit → List (FuncId × List AV) → St → Prop
 | .normal, dl, s => LeavesA C rs Q dl none s
 | .ret, dl, s => LeavesA C rs Q dl none s
 | .pan v, dl, s => LeavesA C rs Q dl (some v) s
 | _, _, _ => False
section
variable {C : Cx} {B : Base} {n : Nat} {ds : List Deferred} {kn₀ : Kn} {m₀ : Mp} {σ₀ : Sto} {nx₀ : Nat} {ops : Array Oper} {p₀ n₀ : Nat}
end
def CPost (C : Cx) (rs : List ResultVar) (R : Option AV → Sto → Nat → Prop) : AExit → St → Prop
 | .normal, s => (∃ r, resA C.P rs s = some r) ∧ R none s.σ s.nx
 | .ret, s => (∃ r, resA C.P rs s = some r) ∧ R none s.σ s.nx
 | _, _ => False
end Go.Ab

namespace Go.Ab
open Go Go.RowKit
section
variable {C : Cx} {n : Nat} {ds : List Deferred} {Q : AExit → St → Prop} {s : St} {id : Nat} {ops : Array Oper} {y : Code} {objs : Sto}
end
@[go_sem] theorem CPost_nil_ret (C : Cx) (R : Option AV → Sto → Nat → Prop) (env : Nat → AV) (σ : Sto) (nx : Nat) : CPost C [] R .ret ⟨env, σ, nx⟩ ↔ R none σ nx := ⟨fun h => h.2, fun h => ⟨⟨.tup [], rfl⟩, h⟩⟩
@[go_sem] theorem CPost_nil_normal (C : Cx) (R : Option AV → Sto → Nat → Prop) (env : Nat → AV) (σ : Sto) (nx : Nat) : CPost C [] R .normal ⟨env, σ, nx⟩ ↔ R none σ nx := ⟨fun h => h.2, fun h => ⟨⟨.tup [], rfl⟩, h⟩⟩
@[go_sem] theorem DPost_ret (C : Cx) (rs : List ResultVar) (Q : AOut → Sto → Nat → Prop) (dl : List (FuncId × List AV)) (s : St) : DPost C rs Q .ret dl s ↔ LeavesA C rs Q dl none s := Iff.rfl
@[go_sem] theorem DPost_normal (C : Cx) (rs : List ResultVar) (Q : AOut → Sto → Nat → Prop) (dl : List (FuncId × List AV)) (s : St) : DPost C rs Q .normal dl s ↔ LeavesA C rs Q dl none s := Iff.rfl
@[go_sem] theorem DPost_pan (C : Cx) (rs : List ResultVar) (Q : AOut → Sto → Nat → Prop) (dl : List (FuncId × List AV)) (s : St) (v : AV) : DPost C rs Q (.pan v) dl s ↔ LeavesA C rs Q dl (some v) s := Iff.rfl
def isIfcT (P : Program) (t : TypeId) : Bool := match P.underlying t with | some (.interface _) => true | _ => false
def isFncT (P : Program) (t : TypeId) : Bool := match P.underlying t with | some (.func _ _ _) => true | _ => false
@[go_sem high] theorem nilTest_iface {P : Program} {t : TypeId} (h : isIfcT P t = true) (a : TypeId) (v : AV) : nilTest P t (.iface a v) = some false := by
  unfold isIfcT at h
  unfold nilTest
  split at h
  ·rename_i m e; rw [e]; rfl
  ·cases h
@[go_sem high] theorem nilTest_nilIface {P : Program} {t : TypeId} (h : isIfcT P t = true) : nilTest P t (.base .nilIface) = some true := by
  unfold isIfcT at h
  unfold nilTest
  split at h
  ·rename_i m e; rw [e]; rfl
  ·cases h
@[go_sem high] theorem nilTest_fn {P : Program} {t : TypeId} (h : isFncT P t = true) (f : Fn) (a c : List AV) : nilTest P t (.fn f a c) = some false := by
  unfold isFncT at h
  unfold nilTest
  split at h
  ·rename_i m e; rw [e]; rfl
  ·cases h
@[go_sem high] theorem nilTest_nilFunc {P : Program} {t : TypeId} (h : isFncT P t = true) : nilTest P t (.base .nilFunc) = some true := by
  unfold isFncT at h
  unfold nilTest
  split at h
  ·rename_i m e; rw [e]; rfl
  ·cases h
@[go_sem] theorem sto_assoc (a b c : Sto) : a ++ b ++ c = a ++ (b ++ c) := List.append_assoc a b c
theorem sget_appk (σ l : Sto) (k n : Nat) : sget (σ ++ l) (σ.length + k) n = sget l k n := by unfold sget; rw [List.getElem?_append_right (by omega), Nat.add_sub_cancel_left]
@[go_sem] theorem sget_app0 (σ l : Sto) (n : Nat) : sget (σ ++ l) (σ.length) n = sget l 0 n := sget_appk σ l 0 n
@[go_sem] theorem sget_app1 (σ l : Sto) (n : Nat) : sget (σ ++ l) (σ.length + 1) n = sget l 1 n := sget_appk σ l 1 n
@[go_sem] theorem sget_app2 (σ l : Sto) (n : Nat) : sget (σ ++ l) (σ.length + 1 + 1) n = sget l 2 n := sget_appk σ l 2 n
@[go_sem] theorem sget_app3 (σ l : Sto) (n : Nat) : sget (σ ++ l) (σ.length + 1 + 1 + 1) n = sget l 3 n := sget_appk σ l 3 n
@[go_sem] theorem sget_app4 (σ l : Sto) (n : Nat) : sget (σ ++ l) (σ.length + 1 + 1 + 1 + 1) n = sget l 4 n := sget_appk σ l 4 n
@[go_sem] theorem set_app1 (σ l : Sto) (x : Nat × AObj) : (σ ++ l).set (σ.length + 1) x = σ ++ l.set 1 x := by rw [List.set_append_right _ _ (by omega)]; congr 2; omega
@[go_sem] theorem set_app2 (σ l : Sto) (x : Nat × AObj) : (σ ++ l).set (σ.length + 1 + 1) x = σ ++ l.set 2 x := by rw [List.set_append_right _ _ (by omega)]; congr 2; omega
@[go_sem] theorem set_app3 (σ l : Sto) (x : Nat × AObj) : (σ ++ l).set (σ.length + 1 + 1 + 1) x = σ ++ l.set 3 x := by rw [List.set_append_right _ _ (by omega)]; congr 2; omega
@[go_sem] theorem set_app4 (σ l : Sto) (x : Nat × AObj) : (σ ++ l).set (σ.length + 1 + 1 + 1 + 1) x = σ ++ l.set 4 x := by rw [List.set_append_right _ _ (by omega)]; congr 2; omega
end Go.Ab

namespace Go.Ab
open Go Go.RowKit
def Agr (D : List Nat) (a a' : Act) : Prop := ∀ t, t ∉ D → a'.tmps.getD t undef = a.tmps.getD t undef
theorem Agr.put {D : List Nat} {a a' : Act} (h : Agr D a a') {dst : Option Tmp} (hd : ∀ d, dst = some d → d ∈ D) (v : Value) : Agr D a (a'.put dst v) := by
 intro t ht
 rw [← h t ht]
 cases dst with
 | none => rfl
 | some d =>
  have hne : d ≠ t := fun e => ht (e ▸ hd d rfl)
  simp only [Act.put, Array.getD_eq_getD_getElem?]
  rw [Array.getElem?_setIfInBounds_ne hne]
section
variable {P : Program} {ops : Array Oper} {Q : Exit → Act → World → Prop} {D : List Nat} {a₀ : Act}
end
@[go_sem] theorem leavesA_nil (C : Cx) (rs : List ResultVar) (Q : AOut → Sto → Nat → Prop) (env : Nat → AV) (σ : Sto) (nx : Nat) : LeavesA C rs Q [] none ⟨env, σ, nx⟩ ↔ afin σ nx Q (resA C.P rs ⟨env, σ, nx⟩) := (afin_iff _ _ _ _).symm
@[go_sem] theorem leavesA_pan (C : Cx) (rs : List ResultVar) (Q : AOut → Sto → Nat → Prop) (v : AV) (env : Nat → AV) (σ : Sto) (nx : Nat) : LeavesA C rs Q [] (some v) ⟨env, σ, nx⟩ ↔ Q (.pan v) σ nx := Iff.rfl
attribute [go_sem] Int.cast_ofNat_Int Int.reduceNeg
section
variable {C : Cx} {n : Nat} {ds : List Deferred} {Q : AExit → St → Prop} {s : St} {id : Nat} {ops : Array Oper} {y : Code} {objs : Sto} {H : Hints}
end
end Go.Ab

namespace Go.Ab
open Go Go.RowKit
def mask (lo hi : Nat) (env junk : Nat → AV) : Nat → AV := fun t => if lo ≤ t ∧ t ≤ hi then junk t else env t
@[go_sem] theorem mask_eq (lo hi : Nat) (env junk : Nat → AV) (t : Nat) : mask lo hi env junk t = if lo ≤ t ∧ t ≤ hi then junk t else env t := rfl
attribute [go_sem] true_and and_true and_self false_and and_false
@[go_sem] theorem ite_avbool (p : Prop) [Decidable p] (x y : Bool) : (if p then AV.bool x else AV.bool y) = AV.bool (if p then x else y) := by split <;> rfl
section
variable {C : Cx} {n : Nat} {ds : List Deferred} {Q : AExit → St → Prop} {s : St} {id : Nat} {ops : Array Oper} {y : Code} {H : Hints}
end
attribute [go_sem] Nat.reduceEqDiff Nat.reduceLT Nat.reduceAdd Nat.reduceMul Nat.reduceLeDiff Int.reduceLE Int.reduceLT Int.reduceToNat Int.reduceEq
end Go.Ab

set_option maxRecDepth 100000
namespace Go.Ab
open Go Go.Proofs
@[go_sem] theorem aggT_112 : aggT Tryz.prog 112 = some true := by kernel_rfl
@[go_sem] theorem aggT_131 : aggT Tryz.prog 131 = some true := by kernel_rfl
@[go_sem] theorem aggT_158 : aggT Tryz.prog 158 = some false := by kernel_rfl
@[go_sem] theorem aggT_169 : aggT Tryz.prog 169 = some true := by kernel_rfl
@[go_sem] theorem aggT_212 : aggT Tryz.prog 212 = some false := by kernel_rfl
@[go_sem] theorem aggT_216 : aggT Tryz.prog 216 = some false := by kernel_rfl
@[go_sem] theorem aggT_217 : aggT Tryz.prog 217 = some false := by kernel_rfl
@[go_sem] theorem aggT_22 : aggT Tryz.prog 22 = some false := by kernel_rfl
@[go_sem] theorem aggT_24 : aggT Tryz.prog 24 = some true := by kernel_rfl
@[go_sem] theorem aggT_25 : aggT Tryz.prog 25 = some false := by kernel_rfl
@[go_sem] theorem aggT_260 : aggT Tryz.prog 260 = some false := by kernel_rfl
@[go_sem] theorem aggT_263 : aggT Tryz.prog 263 = some false := by kernel_rfl
@[go_sem] theorem aggT_3 : aggT Tryz.prog 3 = some false := by kernel_rfl
@[go_sem] theorem aggT_38 : aggT Tryz.prog 38 = some false := by kernel_rfl
@[go_sem] theorem aggT_4 : aggT Tryz.prog 4 = some false := by kernel_rfl
@[go_sem] theorem aggT_45 : aggT Tryz.prog 45 = some false := by kernel_rfl
@[go_sem] theorem aggT_46 : aggT Tryz.prog 46 = some false := by kernel_rfl
@[go_sem] theorem aggT_5 : aggT Tryz.prog 5 = some false := by kernel_rfl
@[go_sem] theorem aggT_58 : aggT Tryz.prog 58 = some true := by kernel_rfl
@[go_sem] theorem aggT_83 : aggT Tryz.prog 83 = some false := by kernel_rfl
@[go_sem] theorem aggT_89 : aggT Tryz.prog 89 = some false := by kernel_rfl
@[go_sem] theorem aggT_9 : aggT Tryz.prog 9 = some false := by kernel_rfl
@[go_sem] theorem arrT_131 : arrT Tryz.prog 131 = some (256, 4, 1) := by kernel_rfl
@[go_sem] theorem arrT_169 : arrT Tryz.prog 169 = some (256, 5, 1) := by kernel_rfl
@[go_sem] theorem arrT_193 : arrT Tryz.prog 193 = some (256, 5, 1) := by kernel_rfl
@[go_sem] theorem arrT_195 : arrT Tryz.prog 195 = some (256, 46, 1) := by kernel_rfl
@[go_sem] theorem arrT_235 : arrT Tryz.prog 235 = some (256, 3, 1) := by kernel_rfl
@[go_sem] theorem arrT_242 : arrT Tryz.prog 242 = some (32, 5, 1) := by kernel_rfl
@[go_sem] theorem arrT_243 : arrT Tryz.prog 243 = some (64, 5, 1) := by kernel_rfl
@[go_sem] theorem bldT_110 : bldT Tryz.prog 110 = some [(0, 1), (1, 1)] := by kernel_rfl
@[go_sem] theorem bldT_112 : bldT Tryz.prog 112 = some [(0, 1), (1, 4)] := by kernel_rfl
@[go_sem] theorem bldT_160 : bldT Tryz.prog 160 = some [(0, 3), (3, 1), (4, 1)] := by kernel_rfl
@[go_sem] theorem bldT_197 : bldT Tryz.prog 197 = some [(0, 256), (256, 1)] := by kernel_rfl
@[go_sem] theorem bldT_215 : bldT Tryz.prog 215 = some [(0, 1), (1, 1)] := by kernel_rfl
@[go_sem] theorem bldT_219 : bldT Tryz.prog 219 = some [(0, 1), (1, 1), (2, 1), (3, 1), (4, 1)] := by kernel_rfl
@[go_sem] theorem bldT_237 : bldT Tryz.prog 237 = some [(0, 1), (1, 256), (257, 1)] := by kernel_rfl
@[go_sem] theorem bldT_24 : bldT Tryz.prog 24 = some [(0, 1), (1, 1), (2, 1), (3, 1)] := by kernel_rfl
@[go_sem] theorem bldT_271 : bldT Tryz.prog 271 = some [(0, 1)] := by kernel_rfl
@[go_sem] theorem bldT_50 : bldT Tryz.prog 50 = some [(0, 2), (2, 1)] := by kernel_rfl
@[go_sem] theorem bldT_58 : bldT Tryz.prog 58 = some [(0, 1), (1, 4)] := by kernel_rfl
@[go_sem] theorem bldT_69 : bldT Tryz.prog 69 = some [(0, 1), (1, 4)] := by kernel_rfl
@[go_sem] theorem bldT_91 : bldT Tryz.prog 91 = some [(0, 1), (1, 1), (2, 1), (3, 1), (4, 1)] := by kernel_rfl
@[go_sem] theorem conT_189 : conT Tryz.prog 189 = true := by kernel_rfl
@[go_sem] theorem conT_191 : conT Tryz.prog 191 = true := by kernel_rfl
@[go_sem] theorem conT_194 : conT Tryz.prog 194 = true := by kernel_rfl
@[go_sem] theorem conT_198 : conT Tryz.prog 198 = true := by kernel_rfl
@[go_sem] theorem conT_261 : conT Tryz.prog 261 = true := by kernel_rfl
@[go_sem] theorem conT_265 : conT Tryz.prog 265 = false := by kernel_rfl
@[go_sem] theorem conT_271 : conT Tryz.prog 271 = true := by kernel_rfl
@[go_sem] theorem conT_9 : conT Tryz.prog 9 = true := by kernel_rfl
@[go_sem] theorem elmT_131 : elmT Tryz.prog 131 = none := by kernel_rfl
@[go_sem] theorem elmT_169 : elmT Tryz.prog 169 = none := by kernel_rfl
@[go_sem] theorem elmT_193 : elmT Tryz.prog 193 = none := by kernel_rfl
@[go_sem] theorem elmT_195 : elmT Tryz.prog 195 = none := by kernel_rfl
@[go_sem] theorem elmT_217 : elmT Tryz.prog 217 = some (216, 1, 8) := by kernel_rfl
@[go_sem] theorem elmT_22 : elmT Tryz.prog 22 = some (24, 4, 56) := by kernel_rfl
@[go_sem] theorem elmT_235 : elmT Tryz.prog 235 = none := by kernel_rfl
@[go_sem] theorem elmT_242 : elmT Tryz.prog 242 = none := by kernel_rfl
@[go_sem] theorem elmT_243 : elmT Tryz.prog 243 = none := by kernel_rfl
@[go_sem] theorem elmT_260 : elmT Tryz.prog 260 = some (5, 1, 1) := by kernel_rfl
@[go_sem] theorem elmT_38 : elmT Tryz.prog 38 = some (9, 1, 16) := by kernel_rfl
@[go_sem] theorem elmT_46 : elmT Tryz.prog 46 = some (5, 1, 1) := by kernel_rfl
@[go_sem] theorem elmT_54 : elmT Tryz.prog 54 = some (58, 5, 72) := by kernel_rfl
@[go_sem] theorem elmT_66 : elmT Tryz.prog 66 = some (69, 5, 72) := by kernel_rfl
@[go_sem] theorem elmT_83 : elmT Tryz.prog 83 = some (3, 1, 8) := by kernel_rfl
@[go_sem] theorem elmT_89 : elmT Tryz.prog 89 = some (22, 1, 24) := by kernel_rfl
@[go_sem] theorem elmT_9 : elmT Tryz.prog 9 = none := by kernel_rfl
@[go_sem] theorem fldT_110_0 : fldT Tryz.prog 110 0 = some (0, 1, false) := by kernel_rfl
@[go_sem] theorem fldT_110_1 : fldT Tryz.prog 110 1 = some (1, 1, false) := by kernel_rfl
@[go_sem] theorem fldT_112_0 : fldT Tryz.prog 112 0 = some (0, 1, false) := by kernel_rfl
@[go_sem] theorem fldT_112_1 : fldT Tryz.prog 112 1 = some (1, 4, true) := by kernel_rfl
@[go_sem] theorem fldT_160_0 : fldT Tryz.prog 160 0 = some (0, 3, true) := by kernel_rfl
@[go_sem] theorem fldT_160_1 : fldT Tryz.prog 160 1 = some (3, 1, false) := by kernel_rfl
@[go_sem] theorem fldT_160_2 : fldT Tryz.prog 160 2 = some (4, 1, false) := by kernel_rfl
@[go_sem] theorem fldT_197_0 : fldT Tryz.prog 197 0 = some (0, 256, true) := by kernel_rfl
@[go_sem] theorem fldT_197_1 : fldT Tryz.prog 197 1 = some (256, 1, false) := by kernel_rfl
@[go_sem] theorem fldT_215_0 : fldT Tryz.prog 215 0 = some (0, 1, false) := by kernel_rfl
@[go_sem] theorem fldT_215_1 : fldT Tryz.prog 215 1 = some (1, 1, false) := by kernel_rfl
@[go_sem] theorem fldT_219_0 : fldT Tryz.prog 219 0 = some (0, 1, false) := by kernel_rfl
@[go_sem] theorem fldT_219_1 : fldT Tryz.prog 219 1 = some (1, 1, false) := by kernel_rfl
@[go_sem] theorem fldT_219_2 : fldT Tryz.prog 219 2 = some (2, 1, false) := by kernel_rfl
@[go_sem] theorem fldT_219_3 : fldT Tryz.prog 219 3 = some (3, 1, false) := by kernel_rfl
@[go_sem] theorem fldT_219_4 : fldT Tryz.prog 219 4 = some (4, 1, false) := by kernel_rfl
@[go_sem] theorem fldT_221_0 : fldT Tryz.prog 221 0 = some (0, 5, true) := by kernel_rfl
@[go_sem] theorem fldT_221_1 : fldT Tryz.prog 221 1 = some (5, 1, false) := by kernel_rfl
@[go_sem] theorem fldT_221_2 : fldT Tryz.prog 221 2 = some (6, 256, true) := by kernel_rfl
@[go_sem] theorem fldT_237_0 : fldT Tryz.prog 237 0 = some (0, 1, false) := by kernel_rfl
@[go_sem] theorem fldT_237_1 : fldT Tryz.prog 237 1 = some (1, 256, true) := by kernel_rfl
@[go_sem] theorem fldT_237_2 : fldT Tryz.prog 237 2 = some (257, 1, false) := by kernel_rfl
@[go_sem] theorem fldT_24_0 : fldT Tryz.prog 24 0 = some (0, 1, false) := by kernel_rfl
@[go_sem] theorem fldT_24_1 : fldT Tryz.prog 24 1 = some (1, 1, false) := by kernel_rfl
@[go_sem] theorem fldT_24_2 : fldT Tryz.prog 24 2 = some (2, 1, false) := by kernel_rfl
@[go_sem] theorem fldT_24_3 : fldT Tryz.prog 24 3 = some (3, 1, false) := by kernel_rfl
@[go_sem] theorem fldT_271_0 : fldT Tryz.prog 271 0 = some (0, 1, false) := by kernel_rfl
@[go_sem] theorem fldT_48_0 : fldT Tryz.prog 48 0 = some (0, 1, false) := by kernel_rfl
@[go_sem] theorem fldT_48_1 : fldT Tryz.prog 48 1 = some (1, 1, false) := by kernel_rfl
@[go_sem] theorem fldT_50_0 : fldT Tryz.prog 50 0 = some (0, 2, true) := by kernel_rfl
@[go_sem] theorem fldT_50_1 : fldT Tryz.prog 50 1 = some (2, 1, false) := by kernel_rfl
@[go_sem] theorem fldT_58_0 : fldT Tryz.prog 58 0 = some (0, 1, false) := by kernel_rfl
@[go_sem] theorem fldT_58_1 : fldT Tryz.prog 58 1 = some (1, 4, true) := by kernel_rfl
@[go_sem] theorem fldT_69_0 : fldT Tryz.prog 69 0 = some (0, 1, false) := by kernel_rfl
@[go_sem] theorem fldT_69_1 : fldT Tryz.prog 69 1 = some (1, 4, true) := by kernel_rfl
@[go_sem] theorem fldT_91_0 : fldT Tryz.prog 91 0 = some (0, 1, false) := by kernel_rfl
@[go_sem] theorem fldT_91_1 : fldT Tryz.prog 91 1 = some (1, 1, false) := by kernel_rfl
@[go_sem] theorem fldT_91_2 : fldT Tryz.prog 91 2 = some (2, 1, false) := by kernel_rfl
@[go_sem] theorem fldT_91_3 : fldT Tryz.prog 91 3 = some (3, 1, false) := by kernel_rfl
@[go_sem] theorem fldT_91_4 : fldT Tryz.prog 91 4 = some (4, 1, false) := by kernel_rfl
@[go_sem] theorem intT_104 : intT Tryz.prog 104 = none := by kernel_rfl
@[go_sem] theorem intT_125 : intT Tryz.prog 125 = some .u64 := by kernel_rfl
@[go_sem] theorem intT_148 : intT Tryz.prog 148 = some .u32 := by kernel_rfl
@[go_sem] theorem intT_164 : intT Tryz.prog 164 = some .u64 := by kernel_rfl
@[go_sem] theorem intT_21 : intT Tryz.prog 21 = some .i32 := by kernel_rfl
@[go_sem] theorem intT_3 : intT Tryz.prog 3 = some .i64 := by kernel_rfl
@[go_sem] theorem intT_45 : intT Tryz.prog 45 = none := by kernel_rfl
@[go_sem] theorem intT_46 : intT Tryz.prog 46 = none := by kernel_rfl
@[go_sem] theorem intT_5 : intT Tryz.prog 5 = some .u8 := by kernel_rfl
@[go_sem] theorem intT_9 : intT Tryz.prog 9 = none := by kernel_rfl
@[go_sem] theorem isBoolT_125 : isBoolT Tryz.prog 125 = false := by kernel_rfl
@[go_sem] theorem isBoolT_148 : isBoolT Tryz.prog 148 = false := by kernel_rfl
@[go_sem] theorem isBoolT_164 : isBoolT Tryz.prog 164 = false := by kernel_rfl
@[go_sem] theorem isBoolT_21 : isBoolT Tryz.prog 21 = false := by kernel_rfl
@[go_sem] theorem isBoolT_216 : isBoolT Tryz.prog 216 = false := by kernel_rfl
@[go_sem] theorem isBoolT_217 : isBoolT Tryz.prog 217 = false := by kernel_rfl
@[go_sem] theorem isBoolT_25 : isBoolT Tryz.prog 25 = false := by kernel_rfl
@[go_sem] theorem isBoolT_3 : isBoolT Tryz.prog 3 = false := by kernel_rfl
@[go_sem] theorem isBoolT_4 : isBoolT Tryz.prog 4 = true := by kernel_rfl
@[go_sem] theorem isBoolT_45 : isBoolT Tryz.prog 45 = false := by kernel_rfl
@[go_sem] theorem isBoolT_46 : isBoolT Tryz.prog 46 = false := by kernel_rfl
@[go_sem] theorem isBoolT_5 : isBoolT Tryz.prog 5 = false := by kernel_rfl
@[go_sem] theorem isBoolT_60 : isBoolT Tryz.prog 60 = false := by kernel_rfl
@[go_sem] theorem isBoolT_9 : isBoolT Tryz.prog 9 = false := by kernel_rfl
@[go_sem] theorem isIfcT_60 : isIfcT Tryz.prog 60 = true := by kernel_rfl
@[go_sem] theorem slcT_104 : slcT Tryz.prog 104 = false := by kernel_rfl
@[go_sem] theorem slcT_125 : slcT Tryz.prog 125 = false := by kernel_rfl
@[go_sem] theorem slcT_148 : slcT Tryz.prog 148 = false := by kernel_rfl
@[go_sem] theorem slcT_164 : slcT Tryz.prog 164 = false := by kernel_rfl
@[go_sem] theorem slcT_169 : slcT Tryz.prog 169 = false := by kernel_rfl
@[go_sem] theorem slcT_193 : slcT Tryz.prog 193 = false := by kernel_rfl
@[go_sem] theorem slcT_21 : slcT Tryz.prog 21 = false := by kernel_rfl
@[go_sem] theorem slcT_22 : slcT Tryz.prog 22 = true := by kernel_rfl
@[go_sem] theorem slcT_260 : slcT Tryz.prog 260 = true := by kernel_rfl
@[go_sem] theorem slcT_3 : slcT Tryz.prog 3 = false := by kernel_rfl
@[go_sem] theorem slcT_38 : slcT Tryz.prog 38 = true := by kernel_rfl
@[go_sem] theorem slcT_45 : slcT Tryz.prog 45 = false := by kernel_rfl
@[go_sem] theorem slcT_46 : slcT Tryz.prog 46 = true := by kernel_rfl
@[go_sem] theorem slcT_5 : slcT Tryz.prog 5 = false := by kernel_rfl
@[go_sem] theorem slcT_54 : slcT Tryz.prog 54 = true := by kernel_rfl
@[go_sem] theorem slcT_66 : slcT Tryz.prog 66 = true := by kernel_rfl
@[go_sem] theorem slcT_83 : slcT Tryz.prog 83 = true := by kernel_rfl
@[go_sem] theorem slcT_89 : slcT Tryz.prog 89 = true := by kernel_rfl
@[go_sem] theorem slcT_9 : slcT Tryz.prog 9 = false := by kernel_rfl
@[go_sem] theorem strT_104 : strT Tryz.prog 104 = false := by kernel_rfl
@[go_sem] theorem strT_125 : strT Tryz.prog 125 = false := by kernel_rfl
@[go_sem] theorem strT_148 : strT Tryz.prog 148 = false := by kernel_rfl
@[go_sem] theorem strT_164 : strT Tryz.prog 164 = false := by kernel_rfl
@[go_sem] theorem strT_169 : strT Tryz.prog 169 = false := by kernel_rfl
@[go_sem] theorem strT_193 : strT Tryz.prog 193 = false := by kernel_rfl
@[go_sem] theorem strT_21 : strT Tryz.prog 21 = false := by kernel_rfl
@[go_sem] theorem strT_22 : strT Tryz.prog 22 = false := by kernel_rfl
@[go_sem] theorem strT_260 : strT Tryz.prog 260 = false := by kernel_rfl
@[go_sem] theorem strT_3 : strT Tryz.prog 3 = false := by kernel_rfl
@[go_sem] theorem strT_38 : strT Tryz.prog 38 = false := by kernel_rfl
@[go_sem] theorem strT_45 : strT Tryz.prog 45 = false := by kernel_rfl
@[go_sem] theorem strT_46 : strT Tryz.prog 46 = false := by kernel_rfl
@[go_sem] theorem strT_5 : strT Tryz.prog 5 = false := by kernel_rfl
@[go_sem] theorem strT_54 : strT Tryz.prog 54 = false := by kernel_rfl
@[go_sem] theorem strT_66 : strT Tryz.prog 66 = false := by kernel_rfl
@[go_sem] theorem strT_83 : strT Tryz.prog 83 = false := by kernel_rfl
@[go_sem] theorem strT_89 : strT Tryz.prog 89 = false := by kernel_rfl
@[go_sem] theorem strT_9 : strT Tryz.prog 9 = true := by kernel_rfl
@[go_sem] theorem szT_112 : szT Tryz.prog 112 = some 5 := by kernel_rfl
@[go_sem] theorem szT_131 : szT Tryz.prog 131 = some 256 := by kernel_rfl
@[go_sem] theorem szT_158 : szT Tryz.prog 158 = some 1 := by kernel_rfl
@[go_sem] theorem szT_169 : szT Tryz.prog 169 = some 256 := by kernel_rfl
@[go_sem] theorem szT_193 : szT Tryz.prog 193 = some 256 := by kernel_rfl
@[go_sem] theorem szT_197 : szT Tryz.prog 197 = some 257 := by kernel_rfl
@[go_sem] theorem szT_212 : szT Tryz.prog 212 = some 1 := by kernel_rfl
@[go_sem] theorem szT_216 : szT Tryz.prog 216 = some 1 := by kernel_rfl
@[go_sem] theorem szT_217 : szT Tryz.prog 217 = some 1 := by kernel_rfl
@[go_sem] theorem szT_22 : szT Tryz.prog 22 = some 1 := by kernel_rfl
@[go_sem] theorem szT_24 : szT Tryz.prog 24 = some 4 := by kernel_rfl
@[go_sem] theorem szT_25 : szT Tryz.prog 25 = some 1 := by kernel_rfl
@[go_sem] theorem szT_260 : szT Tryz.prog 260 = some 1 := by kernel_rfl
@[go_sem] theorem szT_263 : szT Tryz.prog 263 = some 1 := by kernel_rfl
@[go_sem] theorem szT_3 : szT Tryz.prog 3 = some 1 := by kernel_rfl
@[go_sem] theorem szT_38 : szT Tryz.prog 38 = some 1 := by kernel_rfl
@[go_sem] theorem szT_4 : szT Tryz.prog 4 = some 1 := by kernel_rfl
@[go_sem] theorem szT_45 : szT Tryz.prog 45 = some 1 := by kernel_rfl
@[go_sem] theorem szT_46 : szT Tryz.prog 46 = some 1 := by kernel_rfl
@[go_sem] theorem szT_5 : szT Tryz.prog 5 = some 1 := by kernel_rfl
@[go_sem] theorem szT_58 : szT Tryz.prog 58 = some 5 := by kernel_rfl
@[go_sem] theorem szT_83 : szT Tryz.prog 83 = some 1 := by kernel_rfl
@[go_sem] theorem szT_89 : szT Tryz.prog 89 = some 1 := by kernel_rfl
@[go_sem] theorem szT_9 : szT Tryz.prog 9 = some 1 := by kernel_rfl
@[go_sem] theorem undT_104 : undT Tryz.prog 104 = true := by kernel_rfl
@[go_sem] theorem undT_125 : undT Tryz.prog 125 = true := by kernel_rfl
@[go_sem] theorem undT_148 : undT Tryz.prog 148 = true := by kernel_rfl
@[go_sem] theorem undT_164 : undT Tryz.prog 164 = true := by kernel_rfl
@[go_sem] theorem undT_21 : undT Tryz.prog 21 = true := by kernel_rfl
@[go_sem] theorem undT_260 : undT Tryz.prog 260 = true := by kernel_rfl
@[go_sem] theorem undT_3 : undT Tryz.prog 3 = true := by kernel_rfl
@[go_sem] theorem undT_45 : undT Tryz.prog 45 = true := by kernel_rfl
@[go_sem] theorem undT_46 : undT Tryz.prog 46 = true := by kernel_rfl
@[go_sem] theorem undT_5 : undT Tryz.prog 5 = true := by kernel_rfl
@[go_sem] theorem undT_9 : undT Tryz.prog 9 = true := by kernel_rfl
@[go_sem] theorem und_216 : Tryz.prog.underlying 216 = some (.pointer 219) := by kernel_rfl
@[go_sem] theorem und_217 : Tryz.prog.underlying 217 = some (.slice 216) := by kernel_rfl
@[go_sem] theorem und_45 : Tryz.prog.underlying 45 = some (.pointer 48) := by kernel_rfl
@[go_sem] theorem und_46 : Tryz.prog.underlying 46 = some (.slice 5) := by kernel_rfl
@[go_sem] theorem zeroV_265 : assertA.zeroV Tryz.prog 265 = some (.base (.nilIface)) := by kernel_rfl
@[go_sem] theorem zero_110 : zeroCells Tryz.prog 110 = some [.str [], .int .i64 0] := by kernel_rfl
@[go_sem] theorem zero_112 : zeroCells Tryz.prog 112 = some [.int .u8 0, .int .i64 0, .int .i64 0, .str [], .base (.slice none 0 0)] := by kernel_rfl
@[go_sem] theorem zero_131 : zeroCells Tryz.prog 131 = some (List.replicate 256 (.bool false)) := by kernel_rfl
@[go_sem] theorem zero_160 : zeroCells Tryz.prog 160 = some [.int .u32 0, .int .i32 0, .int .u32 0, .base (.nilIface), .base (.slice none 0 0)] := by kernel_rfl
@[go_sem] theorem zero_193 : zeroCells Tryz.prog 193 = some (List.replicate 256 (.int .u8 0)) := by kernel_rfl
@[go_sem] theorem zero_197 : zeroCells Tryz.prog 197 = some (List.replicate 257 (.base (.slice none 0 0))) := by kernel_rfl
@[go_sem] theorem zero_215 : zeroCells Tryz.prog 215 = some [.base (.pointer none), .str []] := by kernel_rfl
@[go_sem] theorem zero_216 : zeroCells Tryz.prog 216 = some [.base (.pointer none)] := by kernel_rfl
@[go_sem] theorem zero_219 : zeroCells Tryz.prog 219 = some [.str [], .int .i64 0, .str [], .base (.pointer none), .base (.slice none 0 0)] := by kernel_rfl
@[go_sem] theorem zero_22 : zeroCells Tryz.prog 22 = some [.base (.slice none 0 0)] := by kernel_rfl
@[go_sem] theorem zero_221 : zeroCells Tryz.prog 221 = some [.str [], .int .i64 0, .str [], .base (.pointer none), .base (.slice none 0 0), .int .i64 0, .int .u8 0, .int .u8 0, .int .u8 0, .int .u8 0, .int .u8 0, .int .u8 0, .int .u8 0, .int .u8 0, .int .u8 0, .int .u8 0, .int .u8 0, .int .u8 0, .int .u8 0, .int .u8 0, .int .u8 0, .int .u8 0, .int .u8 0, .int .u8 0, .int .u8 0, .int .u8 0, .int .u8 0, .int .u8 0, .int .u8 0, .int .u8 0, .int .u8 0, .int .u8 0, .int .u8 0, .int .u8 0, .int .u8 0, .int .u8 0, .int .u8 0, .int .u8 0, .int .u8 0, .int .u8 0, .int .u8 0, .int .u8 0, .int .u8 0, .int .u8 0, .int .u8 0, .int .u8 0, .int .u8 0, .int .u8 0, .int .u8 0, .int .u8 0, .int .u8 0, .int .u8 0, .int .u8 0, .int .u8 0, .int .u8 0, .int .u8 0, .int .u8 0, .int .u8 0, .int .u8 0, .int .u8 0, .int .u8 0, .int .u8 0, .int .u8 0, .int .u8 0, .int .u8 0, .int .u8 0, .int .u8 0, .int .u8 0, .int .u8 0, .int .u8 0, .int .u8 0, .int .u8 0, .int .u8 0, .int .u8 0, .int .u8 0, .int .u8 0, .int .u8 0, .int .u8 0, .int .u8 0, .int .u8 0, .int .u8 0, .int .u8 0, .int .u8 0, .int .u8 0, .int .u8 0, .int .u8 0, .int .u8 0, .int .u8 0, .int .u8 0, .int .u8 0, .int .u8 0, .int .u8 0, .int .u8 0, .int .u8 0, .int .u8 0, .int .u8 0, .int .u8 0, .int .u8 0, .int .u8 0, .int .u8 0, .int .u8 0, .int .u8 0, .int .u8 0, .int .u8 0, .int .u8 0, .int .u8 0, .int .u8 0, .int .u8 0, .int .u8 0, .int .u8 0, .int .u8 0, .int .u8 0, .int .u8 0, .int .u8 0, .int .u8 0, .int .u8 0, .int .u8 0, .int .u8 0, .int .u8 0, .int .u8 0, .int .u8 0, .int .u8 0, .int .u8 0, .int .u8 0, .int .u8 0, .int .u8 0, .int .u8 0, .int .u8 0, .int .u8 0, .int .u8 0, .int .u8 0, .int .u8 0, .int .u8 0, .int .u8 0, .int .u8 0, .int .u8 0, .int .u8 0, .int .u8 0, .int .u8 0, .int .u8 0, .int .u8 0, .int .u8 0, .int .u8 0, .int .u8 0, .int .u8 0, .int .u8 0, .int .u8 0, .int .u8 0, .int .u8 0, .int .u8 0, .int .u8 0, .int .u8 0, .int .u8 0, .int .u8 0, .int .u8 0, .int .u8 0, .int .u8 0, .int .u8 0, .int .u8 0, .int .u8 0, .int .u8 0, .int .u8 0, .int .u8 0, .int .u8 0, .int .u8 0, .int .u8 0, .int .u8 0, .int .u8 0, .int .u8 0, .int .u8 0, .int .u8 0, .int .u8 0, .int .u8 0, .int .u8 0, .int .u8 0, .int .u8 0, .int .u8 0, .int .u8 0, .int .u8 0, .int .u8 0, .int .u8 0, .int .u8 0, .int .u8 0, .int .u8 0, .int .u8 0, .int .u8 0, .int .u8 0, .int .u8 0, .int .u8 0, .int .u8 0, .int .u8 0, .int .u8 0, .int .u8 0, .int .u8 0, .int .u8 0, .int .u8 0, .int .u8 0, .int .u8 0, .int .u8 0, .int .u8 0, .int .u8 0, .int .u8 0, .int .u8 0, .int .u8 0, .int .u8 0, .int .u8 0, .int .u8 0, .int .u8 0, .int .u8 0, .int .u8 0, .int .u8 0, .int .u8 0, .int .u8 0, .int .u8 0, .int .u8 0, .int .u8 0, .int .u8 0, .int .u8 0, .int .u8 0, .int .u8 0, .int .u8 0, .int .u8 0, .int .u8 0, .int .u8 0, .int .u8 0, .int .u8 0, .int .u8 0, .int .u8 0, .int .u8 0, .int .u8 0, .int .u8 0, .int .u8 0, .int .u8 0, .int .u8 0, .int .u8 0, .int .u8 0, .int .u8 0, .int .u8 0, .int .u8 0, .int .u8 0, .int .u8 0, .int .u8 0, .int .u8 0, .int .u8 0, .int .u8 0, .int .u8 0, .int .u8 0, .int .u8 0, .int .u8 0, .int .u8 0, .int .u8 0, .int .u8 0, .int .u8 0, .int .u8 0, .int .u8 0, .int .u8 0, .int .u8 0, .int .u8 0, .int .u8 0, .int .u8 0, .int .u8 0, .int .u8 0] := by kernel_rfl
@[go_sem] theorem zero_237 : zeroCells Tryz.prog 237 = some [.str [], .int .i64 0, .int .i64 0, .int .i64 0, .int .i64 0, .int .i64 0, .int .i64 0, .int .i64 0, .int .i64 0, .int .i64 0, .int .i64 0, .int .i64 0, .int .i64 0, .int .i64 0, .int .i64 0, .int .i64 0, .int .i64 0, .int .i64 0, .int .i64 0, .int .i64 0, .int .i64 0, .int .i64 0, .int .i64 0, .int .i64 0, .int .i64 0, .int .i64 0, .int .i64 0, .int .i64 0, .int .i64 0, .int .i64 0, .int .i64 0, .int .i64 0, .int .i64 0, .int .i64 0, .int .i64 0, .int .i64 0, .int .i64 0, .int .i64 0, .int .i64 0, .int .i64 0, .int .i64 0, .int .i64 0, .int .i64 0, .int .i64 0, .int .i64 0, .int .i64 0, .int .i64 0, .int .i64 0, .int .i64 0, .int .i64 0, .int .i64 0, .int .i64 0, .int .i64 0, .int .i64 0, .int .i64 0, .int .i64 0, .int .i64 0, .int .i64 0, .int .i64 0, .int .i64 0, .int .i64 0, .int .i64 0, .int .i64 0, .int .i64 0, .int .i64 0, .int .i64 0, .int .i64 0, .int .i64 0, .int .i64 0, .int .i64 0, .int .i64 0, .int .i64 0, .int .i64 0, .int .i64 0, .int .i64 0, .int .i64 0, .int .i64 0, .int .i64 0, .int .i64 0, .int .i64 0, .int .i64 0, .int .i64 0, .int .i64 0, .int .i64 0, .int .i64 0, .int .i64 0, .int .i64 0, .int .i64 0, .int .i64 0, .int .i64 0, .int .i64 0, .int .i64 0, .int .i64 0, .int .i64 0, .int .i64 0, .int .i64 0, .int .i64 0, .int .i64 0, .int .i64 0, .int .i64 0, .int .i64 0, .int .i64 0, .int .i64 0, .int .i64 0, .int .i64 0, .int .i64 0, .int .i64 0, .int .i64 0, .int .i64 0, .int .i64 0, .int .i64 0, .int .i64 0, .int .i64 0, .int .i64 0, .int .i64 0, .int .i64 0, .int .i64 0, .int .i64 0, .int .i64 0, .int .i64 0, .int .i64 0, .int .i64 0, .int .i64 0, .int .i64 0, .int .i64 0, .int .i64 0, .int .i64 0, .int .i64 0, .int .i64 0, .int .i64 0, .int .i64 0, .int .i64 0, .int .i64 0, .int .i64 0, .int .i64 0, .int .i64 0, .int .i64 0, .int .i64 0, .int .i64 0, .int .i64 0, .int .i64 0, .int .i64 0, .int .i64 0, .int .i64 0, .int .i64 0, .int .i64 0, .int .i64 0, .int .i64 0, .int .i64 0, .int .i64 0, .int .i64 0, .int .i64 0, .int .i64 0, .int .i64 0, .int .i64 0, .int .i64 0, .int .i64 0, .int .i64 0, .int .i64 0, .int .i64 0, .int .i64 0, .int .i64 0, .int .i64 0, .int .i64 0, .int .i64 0, .int .i64 0, .int .i64 0, .int .i64 0, .int .i64 0, .int .i64 0, .int .i64 0, .int .i64 0, .int .i64 0, .int .i64 0, .int .i64 0, .int .i64 0, .int .i64 0, .int .i64 0, .int .i64 0, .int .i64 0, .int .i64 0, .int .i64 0, .int .i64 0, .int .i64 0, .int .i64 0, .int .i64 0, .int .i64 0, .int .i64 0, .int .i64 0, .int .i64 0, .int .i64 0, .int .i64 0, .int .i64 0, .int .i64 0, .int .i64 0, .int .i64 0, .int .i64 0, .int .i64 0, .int .i64 0, .int .i64 0, .int .i64 0, .int .i64 0, .int .i64 0, .int .i64 0, .int .i64 0, .int .i64 0, .int .i64 0, .int .i64 0, .int .i64 0, .int .i64 0, .int .i64 0, .int .i64 0, .int .i64 0, .int .i64 0, .int .i64 0, .int .i64 0, .int .i64 0, .int .i64 0, .int .i64 0, .int .i64 0, .int .i64 0, .int .i64 0, .int .i64 0, .int .i64 0, .int .i64 0, .int .i64 0, .int .i64 0, .int .i64 0, .int .i64 0, .int .i64 0, .int .i64 0, .int .i64 0, .int .i64 0, .int .i64 0, .int .i64 0, .int .i64 0, .int .i64 0, .int .i64 0, .int .i64 0, .int .i64 0, .int .i64 0, .int .i64 0, .int .i64 0, .int .i64 0, .int .i64 0, .int .i64 0, .int .i64 0, .int .i64 0, .int .i64 0, .int .i64 0, .int .i64 0, .int .i64 0, .int .i64 0, .int .i64 0, .int .i64 0, .int .i64 0, .int .i64 0, .base (.slice none 0 0)] := by kernel_rfl
@[go_sem] theorem zero_24 : zeroCells Tryz.prog 24 = some [.int .i64 0, .int .i64 0, .str [], .base (.slice none 0 0)] := by kernel_rfl
@[go_sem] theorem zero_260 : zeroCells Tryz.prog 260 = some [.base (.slice none 0 0)] := by kernel_rfl
@[go_sem] theorem zero_271 : zeroCells Tryz.prog 271 = some [.base (.nilIface)] := by kernel_rfl
@[go_sem] theorem zero_3 : zeroCells Tryz.prog 3 = some [.int .i64 0] := by kernel_rfl
@[go_sem] theorem zero_4 : zeroCells Tryz.prog 4 = some [.bool false] := by kernel_rfl
@[go_sem] theorem zero_48 : zeroCells Tryz.prog 48 = some [.base (.pointer none), .base (.slice none 0 0)] := by kernel_rfl
@[go_sem] theorem zero_5 : zeroCells Tryz.prog 5 = some [.int .u8 0] := by kernel_rfl
@[go_sem] theorem zero_50 : zeroCells Tryz.prog 50 = some [.base (.pointer none), .base (.slice none 0 0), .int .i64 0] := by kernel_rfl
@[go_sem] theorem zero_58 : zeroCells Tryz.prog 58 = some [.str [], .int .i64 0, .int .i64 0, .str [], .base (.slice none 0 0)] := by kernel_rfl
@[go_sem] theorem zero_69 : zeroCells Tryz.prog 69 = some [.str [], .int .i64 0, .int .i64 0, .str [], .base (.slice none 0 0)] := by kernel_rfl
@[go_sem] theorem zero_9 : zeroCells Tryz.prog 9 = some [.str []] := by kernel_rfl
@[go_sem] theorem zero_91 : zeroCells Tryz.prog 91 = some [.str [], .int .i64 0, .base (.slice none 0 0), .bool false, .int .i64 0] := by kernel_rfl
theorem mixed : Tryz.prog.follows .mixedOrders = true := by kernel_rfl
end Go.Ab

namespace Go.Ab
open Go Go.RowKit
structure XS where
 env : List AV
 σ : Sto
 nx : Nat
def xenv (l : List AV) : Nat → AV := fun t => l.getD t .undef
def XS.st (x : XS) : St := ⟨xenv x.env, x.σ, x.nx⟩
def E.av : (e : E) → e.den → AV
 | .int k, n => .int k n
 | .bool, b => .bool b
 | .str, l => .str l
 | .erri, b => .erri b
 | .form, f => .agg (E.cells .form f)
 | .un, x => .agg (E.cells .un x)
 | .pr a b, x => .agg (E.cells (.pr a b) x)
 | .slice e, l => .tvec e l
def aggE : E → Bool
 | .form => true
 | .un => true
 | .pr _ _ => true
 | _ => false
def cellsV (e : E) (v : AV) : Option (List AV) :=
 match aggE e with
 | true => match v with
  | .agg cs => some cs
  | _ => none
 | false => match v with
  | .agg _ => none
  | v => some [v]
def absE (e : E) (v : AV) : Option e.den := (cellsV e v).bind (absC absF e)
theorem E.av_rf : ∀ (e : E) (x : e.den), RF (e.av x)
 | .int _, _ => trivial
 | .bool, _ => trivial
 | .str, _ => trivial
 | .erri, _ => trivial
 | .form, f => E.cells_rf .form f
 | .un, x => E.cells_rf .un x
 | .pr a b, x => E.cells_rf (.pr a b) x
 | .slice _, _ => trivial
theorem E.av_agg (e : E) (x : e.den) (h : aggE e = true) : e.av x = .agg (e.cells x) := by cases e <;> first | rfl | (simp [aggE] at h)
theorem E.av_one (e : E) (x : e.den) (h : aggE e = false) : e.cells x = [e.av x] := by cases e <;> first | rfl | (simp [aggE] at h)
theorem rel_agg {kn : Kn} {m : Mp} {cs ds : List AV} {v : Value} (h : Rel kn m (.agg cs) v) (hc : ∀ us, RelL kn m cs us → RelL kn m ds us) : Rel kn m (.agg ds) v := by
 cases h with
 | agg _ vs hl hr h1 =>
  have := hc vs.toList ⟨by simpa using hl, fun i x v a b => hr i x v a (by simpa using b)⟩
  exact .agg ds vs (by simpa using this.1) (fun i x v a b => this.2 i x v a (by simpa using b)) h1
theorem absE_rel {kn : Kn} {m : Mp} {e : E} {v : AV} {x : e.den} (h : absE e v = some x) {u : Value} (hr : Rel kn m v u) : Rel kn m (e.av x) u := by
 unfold absE cellsV at h
 obtain ⟨cs, h1, h2⟩ := Option.bind_eq_some_iff.1 h
 have hcells : ∀ us, RelL kn m cs us → RelL kn m (e.cells x) us := fun us hh => (E.rel_cells e x us).2 (absC_sound absF e cs x h2 us hh)
 split at h1
 ·rename_i he
  split at h1
  ·cases h1
   rw [E.av_agg e x he]
   exact rel_agg hr hcells
  ·cases h1
 ·rename_i he
  split at h1
  ·cases h1
  ·cases h1
   have := hcells [u] (relL_one.2 ⟨u, rfl, hr⟩)
   rw [E.av_one e x he] at this
   obtain ⟨u', e', h'⟩ := relL_one.1 this
   cases e'; exact h'
def eqA : AV → AV → Bool
 | .base .nilIface, .base .nilIface => true
 | .base (.slice none 0 0), .base (.slice none 0 0) => true
 | .base (.pointer none), .base (.pointer none) => true
 | .base (.map none), .base (.map none) => true
 | .base .nilFunc, .base .nilFunc => true
 | .fn (.func f) [] [], .fn (.func g) [] [] => Nat.beq f g
 | .tup [], .tup [] => true
 | .base (.tuple ⟨[]⟩), .base (.tuple ⟨[]⟩) => true
 | _, _ => false
theorem eqA_sound {a b : AV} (h : eqA a b = true) : a = b ∧ RF a := by
 unfold eqA at h
 split at h <;> first | exact ⟨rfl, by simp [RF, RFL]⟩ | (cases h; done) | skip
 have := Nat.eq_of_beq_eq_true h
 subst this
 exact ⟨rfl, by simp [RF, RFL]⟩
inductive Sh where
 | d (e : E)
 | c (v : AV)
 | ref (slot off : Nat)
 | gs (slot : Nat) (e : E)
 | mref (slot off : Nat)
 | gv (slot : Nat) (e : E)
 | agg (l : List Sh)
 | tup (l : List Sh)
 | rptr (l : List Sh)
 | fn (f : Fn) (first caps : List Sh)
 | iface (t : TypeId) (s : Sh)
mutual
def Sh.den : Sh → Type
 | .d e => e.den
 | .c _ => Unit
 | .ref _ _ => Unit
 | .gs _ _ => Unit
 | .mref _ _ => Bool
 | .gv _ _ => Nat × Nat
 | .agg l => Sh.denL l
 | .tup l => Sh.denL l
 | .rptr l => Sh.denL l
 | .fn _ a b => Sh.denL a × Sh.denL b
 | .iface _ s => s.den
def Sh.denL : List Sh → Type
 | [] => Unit
 | s :: l => s.den × Sh.denL l
end
abbrev Pl := Nat → Nat × Nat × Nat
mutual
def patV (ρ : Pl) : (s : Sh) → s.den → AV
 | .d e, x => e.av x
 | .c v, _ => v
 | .ref j off, _ => .ref (ρ j).1 (ρ j).2.1 off
 | .gs j e, _ => .gs (ρ j).1 (ρ j).2.1 e (ρ j).2.2
 | .mref j off, (b : Bool) => .mref (ρ j).1 (ρ j).2.1 off b
 | .gv j e, (x : Nat × Nat) => .gv (ρ j).1 (ρ j).2.1 e x.1 x.2
 | .agg l, x => .agg (patL ρ l x)
 | .tup l, x => .tup (patL ρ l x)
 | .rptr l, x => .rptr (patL ρ l x)
 | .fn f a b, x => .fn f (patL ρ a x.1) (patL ρ b x.2)
 | .iface t s, x => .iface t (patV ρ s x)
def patL (ρ : Pl) : (l : List Sh) → Sh.denL l → List AV
 | [], _ => []
 | s :: l, x => patV ρ s x.1 :: patL ρ l x.2
end
inductive OSh where
 | cells (T : TypeId) (l : List Sh)
 | tg (e : E) (ety : TypeId)
 | stk (e : E) (ety : TypeId)
def isSk : OSh → Bool
 | .stk _ _ => true
 | _ => false
def anySk : List (Bool × OSh) → Bool
 | [] => false
 | (_, o) :: l => isSk o || anySk l
def OSh.den : OSh → Type
 | .cells _ l => Sh.denL l
 | .tg e _ => List e.den
 | .stk e _ => List (List e.den)
abbrev Slots := List (Bool × OSh)
inductive Bnd where
 | nil
 | at (p nm : Nat)
 deriving DecidableEq
abbrev Binds := List (Nat × Bnd)
def bget : Binds → Nat → Option Bnd
 | [], _ => none
 | (j', b) :: l, j => if j' = j then some b else bget l j
def bfree (p : Nat) : Binds → Bool
 | [] => true
 | (_, .nil) :: l => bfree p l
 | (_, .at p' _) :: l => !(Nat.beq p' p) && bfree p l
def bput (j : Nat) (b : Bnd) (β : Binds) : Option Binds :=
 match bget β j with
 | some b' => if b' = b then some β else none
 | none => match b with
  | .nil => some ((j, .nil) :: β)
  | .at p nm => if bfree p β = true then some ((j, .at p nm) :: β) else none
def oTg (o : OSh) (e : E) : Bool :=
 match o with
 | .tg e' _ => decide (e' = e)
 | .stk e' _ => decide (.slice e' = e)
 | _ => false
def slotTg (os : Slots) (j : Nat) (e : E) : Bool :=
 match os[j]? with
 | some (_, o) => oTg o e
 | none => false
def pairO {α β : Type} (b : β) : Option α → Option (α × β)
 | some a => some (a, b)
 | none => none
def unitO {β : Type} : Option β → Option (Unit × β)
 | some b => some ((), b)
 | none => none
mutual
def absV (os : Slots) (β : Binds) : (s : Sh) → AV → Option (s.den × Binds)
 | .d e, v => pairO β (absE e v)
 | .c a, v => if eqA a v = true then some ((), β) else none
 | .ref j off, v => match v with
  | .ref p nm off' => if off' = off ∧ (os[j]?).isSome = true then unitO (bput j (.at p nm) β) else none
  | _ => none
 | .gs j e, v => match v with
  | .gs p nm e' _ => if e' = e ∧ slotTg os j e = true then unitO (bput j (.at p nm) β) else none
  | .base (.slice none 0 0) => if slotTg os j e = true then unitO (bput j .nil β) else none
  | _ => none
 | .mref j off, v => match v with
  | .ref p nm off' => if off' = off ∧ (os[j]?).isSome = true then (match bput j (.at p nm) β with
   | some β' => some (true, β')
   | none => none) else none
  | .mref p nm off' b => if off' = off ∧ bget β j = some (.at p nm) then some (b, β) else none
  | .base (.pointer none) => some (false, β)
  | _ => none
 | .gv j e, v => match v with
  | .gv p nm e' off len => if e' = e ∧ bget β j = some (.at p nm) then some ((off, len), β) else none
  | _ => none
 | .agg l, v => match v with
  | .agg cs => absL os β l cs
  | _ => none
 | .tup l, v => match v with
  | .tup cs => absL os β l cs
  | _ => none
 | .rptr l, v => match v with
  | .rptr cs => absL os β l cs
  | _ => none
 | .fn f a b, v => match v with
  | .fn f' x y => if f' = f then (match absL os β a x with
   | some (a', β1) => match absL os β1 b y with
    | some (b', β2) => some ((a', b'), β2)
    | none => none
   | none => none) else none
  | _ => none
 | .iface t s, v => match v with
  | .iface t' x => if t' = t then absV os β s x else none
  | _ => none
def absL (os : Slots) (β : Binds) : (l : List Sh) → List AV → Option (Sh.denL l × Binds)
 | [], vs => match vs with
  | [] => some ((), β)
  | _ :: _ => none
 | s :: l, vs => match vs with
  | v :: vs => match absV os β s v with
   | some (x, β1) => match absL os β1 l vs with
    | some (y, β2) => some ((x, y), β2)
    | none => none
   | none => none
  | [] => none
end
structure SS where
 env : List (Nat × Sh)
 objs : Slots
def denE : List (Nat × Sh) → Type
 | [] => Unit
 | (_, s) :: l => s.den × denE l
def denO : Slots → Type
 | [] => Unit
 | (_, o) :: l => o.den × denO l
def SS.den (ss : SS) : Type := denE ss.env × denO ss.objs
def absEnv (os : Slots) (β : Binds) : (l : List (Nat × Sh)) → List AV → Option (denE l × Binds)
 | [], _ => some ((), β)
 | (t, s) :: l, env => match absV os β s (env.getD t .undef) with
  | some (x, β1) => match absEnv os β1 l env with
   | some (y, β2) => some ((x, y), β2)
   | none => none
  | none => none
def absCellsO (os : Slots) (β : Binds) (σ : Sto) (T : TypeId) (l : List Sh) (b : Option Bnd) : Option (Sh.denL l × Binds) :=
 match b with
 | some (.at p nm) => match sget σ p nm with
  | some (.cells T' cs) => if T' = T then absL os β l cs else none
  | _ => none
 | _ => none
def absTgO (β : Binds) (σ : Sto) (e : E) (ety : TypeId) (b : Option Bnd) : Option (List e.den × Binds) :=
 match b with
 | some (.at p nm) => match sget σ p nm with
  | some (.tg e' ety' l) => if h : e' = e then (if ety' = ety then some (castL h l, β) else none) else none
  | _ => none
 | some .nil => some ([], β)
 | none => none
def absSkO (β : Binds) (σ : Sto) (e : E) (ety : TypeId) (b : Option Bnd) : Option (List (List e.den) × Binds) :=
 match b with
 | some (.at p nm) => match sget σ p nm with
  | some (.stk e' ety' l .no) => if h : E.slice e' = .slice e then (if ety' = ety then some (castL h l, β) else none) else none
  | _ => none
 | _ => none
def absO (os : Slots) (β : Binds) (σ : Sto) (b : Option Bnd) : (o : OSh) → Option (o.den × Binds)
 | .cells T l => absCellsO os β σ T l b
 | .tg e ety => absTgO β σ e ety b
 | .stk e ety => absSkO β σ e ety b
def absOs (os : Slots) (σ : Sto) (β : Binds) (j : Nat) : (l : Slots) → Option (denO l × Binds)
 | [] => some ((), β)
 | (_, o) :: l => match absO os β σ (bget β j) o with
  | some (x, β1) => match absOs os σ β1 (j + 1) l with
   | some (y, β2) => some ((x, y), β2)
   | none => none
  | none => none
def binds0 (j : Nat) : Slots → Binds
 | [] => []
 | (true, _) :: l => (j, .at j j) :: binds0 (j + 1) l
 | (false, _) :: l => binds0 (j + 1) l
def absS (ss : SS) (x : XS) : Option ss.den :=
 match absEnv ss.objs (binds0 0 ss.objs) ss.env x.env with
 | some (a, β1) => match absOs ss.objs x.σ β1 0 ss.objs with
  | some (o, _) => some (a, o)
  | none => none
 | none => none
def lenO (o : OSh) (x : o.den) : Nat := match o, x with
 | .cells _ _, _ => 0
 | .tg _ _, (l : List _) => l.length
 | .stk _ _, (l : List (List _)) => l.length
def lensO : (l : Slots) → denO l → Nat → Nat
 | [], _, _ => 0
 | (_, o) :: _, x, 0 => lenO o x.1
 | _ :: l, x, j + 1 => lensO l x.2 j
def nameOf (k j : Nat) (os : Slots) : Nat := match os[j]? with
 | some (true, _) => j
 | _ => k + j
def plO (k : Nat) (os : Slots) (x : denO os) : Pl := fun j => (j, nameOf k j os, lensO os x j)
def patE (ρ : Pl) : (l : List (Nat × Sh)) → denE l → Nat → AV
 | [], _, _ => .any
 | (t', s) :: l, x, t => if t' = t then patV ρ s x.1 else patE ρ l x.2 t
def patO (ρ : Pl) (o : OSh) (x : o.den) : AObj := match o, x with
 | .cells T l, x => .cells T (patL ρ l x)
 | .tg e ety, x => .tg e ety x
 | .stk e ety, x => .stk e ety x .no
def patOs (ρ : Pl) (nm : Nat → Nat) (j : Nat) : (l : Slots) → denO l → Sto
 | [], _ => []
 | (_, o) :: l, x => (nm j, patO ρ o x.1) :: patOs ρ nm (j + 1) l x.2
def listTo (f : Nat → AV) : Nat → Nat → List AV
 | 0, _ => []
 | n + 1, t => f t :: listTo f n (t + 1)
def patS (k n : Nat) (ss : SS) (d : ss.den) : XS :=
 ⟨listTo (patE (plO k ss.objs d.2) ss.env d.1) n 0, patOs (plO k ss.objs d.2) (fun j => nameOf k j ss.objs) 0 ss.objs d.2, k + ss.objs.length⟩
end Go.Ab
