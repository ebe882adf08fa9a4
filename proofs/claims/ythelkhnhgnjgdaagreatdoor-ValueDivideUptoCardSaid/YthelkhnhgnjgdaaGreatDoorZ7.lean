/-
  REGIONS THAT PANIC: what the operations of the region do not write is as it was.
-/
import Derived.Test.YthelkhnhgnjgdaaGreatDoorZ6
import Derived.Recover
/-
  WHAT SIMP UNFOLDS IN A WALK.
-/
set_option linter.unusedVariables false
set_option linter.unusedSimpArgs false
namespace Go.Ab
open Go Go.RowKit

attribute [go_sem] fadA fieldA indexA bndA empA sliceish bfun maxA storeA spliceA extA nilckA assertA abinInt abinStr aun aconv isNilConst fillA bslF bslE bslA makeA rowsA rangeA nextA
section
variable {P : Program} {T t : TypeId} {σ : Sto} {k : IntKind} {n : Int}
@[go_sem] theorem sget_zero (n m : Nat) (o : AObj) (r : Sto) : sget ((n, o) :: r) 0 m = if n = m then some o else none := rfl
@[go_sem] theorem sget_succ (p m : Nat) (a : Nat × AObj) (r : Sto) : sget (a :: r) (p + 1) m = sget r p m := by simp [sget]
@[go_sem] theorem readA_rptr (cs : List AV) : readA P T σ (.rptr cs) = loadC P T cs := rfl
@[go_sem] theorem readA_ref (p m off : Nat) : readA P T σ (.ref p m off) = match sget σ p m with
    | some (.cells _ cs) => loadC P T (cs.drop off)
    | _ => none := rfl
@[go_sem] theorem readA_eref (p m i off : Nat) : readA P T σ (.eref p m i off) = match sget σ p m with
    | some (.gvec _ _ rows) => match rows[i]? with
      | some row => loadC P T (row.drop off)
      | none => none
    | some (.tg e _ l) => if i < l.length then loadC P T ((e.cells (l.getD i e.dflt)).drop off) else none
    | _ => none := rfl
@[go_sem low] theorem loadC_eq (cs : List AV) : loadC P T cs = match aggT P T, szT P T with
  | some true, some n => if n ≤ cs.length then some (.agg (cs.take n)) else none
  | some false, _ => cs.head?
  | _, _ => none := rfl
@[go_sem] theorem lenA_str (l : List UInt8) : lenA P t (.str l) = if strT P t = true then some (.int .i64 l.length) else none := rfl
@[go_sem] theorem lenA_vec (e : Nat) (rows : List (List AV)) : lenA P t (.vec e rows) = if slcT P t = true then some (.int .i64 rows.length) else none := rfl
@[go_sem] theorem lenA_sref (p m e o l : Nat) : lenA P t (.sref p m e o l) = if slcT P t = true then some (.int .i64 l) else none := rfl
@[go_sem] theorem lenA_emp : lenA P t .emp = if slcT P t = true then some (.int .i64 0) else none := rfl
@[go_sem] theorem lenA_nil : lenA P t (.base (.slice none 0 0)) = if slcT P t = true then some (.int .i64 0) else none := rfl
@[go_sem] theorem idxA_vec (e : Nat) (rows : List (List AV)) : idxA P t (.vec e rows) (.int k n) = match elmT P t with
    | some (_, sz, _) => if e = sz ∧ 0 ≤ n ∧ n < rows.length then some (.rptr (rows.getD n.toNat [])) else none
    | none => none := by
  unfold idxA
  cases elmT P t with
  | some q => rfl
  | none => simp only; cases arrT P t with
    | none => rfl
    | some q => simp only; split <;> rfl
@[go_sem] theorem idxA_sref (p m e o l : Nat) : idxA P t (.sref p m e o l) (.int k n) = match elmT P t with
    | some (_, sz, _) => if e = sz ∧ 0 ≤ n ∧ n < l then some (.eref p m (o + n.toNat) 0) else none
    | none => none := by
  unfold idxA
  cases elmT P t with
  | some q => rfl
  | none => simp only; cases arrT P t with
    | none => rfl
    | some q => simp only; split <;> rfl
@[go_sem] theorem idxA_rptr (cs : List AV) : idxA P t (.rptr cs) (.int k n) = match elmT P t, arrT P t with
    | none, some (len, _, sz) => if 0 ≤ n ∧ n < len then some (.rptr (cs.drop (n.toNat * sz))) else none
    | _, _ => none := by
  unfold idxA
  cases elmT P t <;> cases arrT P t <;> rfl
@[go_sem] theorem idxA_ref (p m o : Nat) : idxA P t (.ref p m o) (.int k n) = match elmT P t, arrT P t with
    | none, some (len, _, sz) => if 0 ≤ n ∧ n < len then some (.ref p m (o + n.toNat * sz)) else none
    | _, _ => none := by
  unfold idxA
  cases elmT P t <;> cases arrT P t <;> rfl
@[go_sem] theorem cellsA_int : cellsA (.int k n) = some [.int k n] := rfl
@[go_sem] theorem cellsA_bool (b : Bool) : cellsA (.bool b) = some [.bool b] := rfl
@[go_sem] theorem cellsA_str (l : List UInt8) : cellsA (.str l) = some [.str l] := rfl
@[go_sem] theorem cellsA_agg (l : List AV) : cellsA (.agg l) = some l := rfl
@[go_sem] theorem cellsA_vec (e : Nat) (l : List (List AV)) : cellsA (.vec e l) = some [.vec e l] := rfl
@[go_sem] theorem cellsA_emp : cellsA .emp = some [.emp] := rfl
@[go_sem] theorem cellsA_rptr (l : List AV) : cellsA (.rptr l) = some [.rptr l] := rfl
@[go_sem] theorem cellsA_ref (p m o : Nat) : cellsA (.ref p m o) = some [.ref p m o] := rfl
@[go_sem] theorem cellsA_eref (p m i o : Nat) : cellsA (.eref p m i o) = some [.eref p m i o] := rfl
@[go_sem] theorem cellsA_sref (p m e o l : Nat) : cellsA (.sref p m e o l) = some [.sref p m e o l] := rfl
@[go_sem] theorem cellsA_fn (f : Fn) (a b : List AV) : cellsA (.fn f a b) = some [.fn f a b] := rfl
@[go_sem] theorem cellsA_iface (u : TypeId) (v : AV) : cellsA (.iface u v) = some [.iface u v] := rfl
@[go_sem] theorem cellsA_slice (a : Option Addr) (l c : Nat) : cellsA (.base (.slice a l c)) = some [.base (.slice a l c)] := rfl
@[go_sem] theorem cellsA_pointer (a : Option Addr) : cellsA (.base (.pointer a)) = some [.base (.pointer a)] := rfl
@[go_sem] theorem cellsA_nilIface : cellsA (.base .nilIface) = some [.base .nilIface] := rfl
@[go_sem] theorem cellsA_nilFunc : cellsA (.base .nilFunc) = some [.base .nilFunc] := rfl
@[go_sem] theorem cellsA_mapv (a : Option Nat) : cellsA (.base (.map a)) = some [.base (.map a)] := rfl
@[go_sem] theorem cellsA_baseAgg (a : Array Value) : cellsA (.base (.agg a)) = if a.toList.all (·.oneCell') = true then some (a.toList.map ofVal) else none := rfl
def nilU (o : Option TypeDesc) (x : AV) : Option Bool := match o with
  | some d => if nilT d x then nilA x else none
  | none => none
@[go_sem low] theorem nilTest_eq (x : AV) : nilTest P t x = nilU (P.underlying t) x := rfl
attribute [go_sem] nilU nilT nilA
@[go_sem] theorem sliceA_str (l : List UInt8) (lo hi : Option AV) : sliceA P t (.str l) lo hi none = if strT P t then (match bndA l.length lo hi with
    | some (a, h) => if 0 ≤ a ∧ a ≤ h ∧ h ≤ l.length then some (.str ((l.drop a.toNat).take (h.toNat - a.toNat))) else none
    | none => none) else none := rfl
@[go_sem] theorem sliceA_vec (e : Nat) (rows : List (List AV)) (lo hi : Option AV) : sliceA P t (.vec e rows) lo hi none = match elmT P t, bndA rows.length lo hi with
    | some (_, sz, _), some (l, h) => if e = sz ∧ 0 ≤ l ∧ l ≤ h ∧ h ≤ rows.length then some (.vec e ((rows.drop l.toNat).take (h.toNat - l.toNat))) else none
    | _, _ => none := rfl
@[go_sem] theorem sliceA_sref (p m e o n : Nat) (lo hi : Option AV) : sliceA P t (.sref p m e o n) lo hi none = match elmT P t, bndA n lo hi with
    | some (_, sz, _), some (l, h) => if e = sz ∧ 0 ≤ l ∧ l ≤ h ∧ h ≤ n then (if l = 0 ∨ l < h then some (.sref p m e (o + l.toNat) (h.toNat - l.toNat)) else some (.vec e [])) else none
    | _, _ => none := rfl
@[go_sem] theorem sliceA_nil (lo hi : Option AV) : sliceA P t (.base (.slice none 0 0)) lo hi none = match elmT P t, bndA 0 lo hi with
    | some _, some (l, h) => if l = 0 ∧ h = 0 then some (.base (.slice none 0 0)) else none
    | _, _ => none := rfl
@[go_sem] theorem sliceA_three (a : AV) (lo hi : Option AV) : sliceA P t a lo hi (some (.int k n)) = match elmT P t, bndA 0 lo hi with
    | some _, some (l, h) => if hi.isSome = true ∧ n = 0 ∧ l = 0 ∧ h = 0 ∧ sliceish a = true then some (empA a) else none
    | _, _ => none := by
  cases a with
  | base v =>
    unfold sliceA
    split
    all_goals first
      | rfl
      | (rename_i h; cases h; done)
      | (rename_i h; cases h; rfl)
      | (rename_i h _; cases h; rfl)
      | (rename_i h; exact absurd rfl (h _))
      | (exfalso; simp_all; done)
      | simp_all
  | _ => rfl
@[go_sem] theorem elemsA_vec (sz e : Nat) (rows : List (List AV)) : elemsA sz σ (.vec e rows) = if e = sz ∨ rows = [] then some rows else none := rfl
@[go_sem] theorem elemsA_nil (sz : Nat) : elemsA sz σ (.base (.slice none 0 0)) = some [] := rfl
@[go_sem] theorem elemsA_emp (sz : Nat) : elemsA sz σ .emp = some [] := rfl
@[go_sem] theorem elemsA_sref (sz p m e o l : Nat) : elemsA sz σ (.sref p m e o l) = match sget σ p m with
    | some (.gvec esz' _ rows) => if e = sz ∧ esz' = sz ∧ o + l ≤ rows.length then some ((rows.drop o).take l) else none
    | _ => none := rfl
end
def appYs (P : Program) (t' sz : Nat) (σ : Sto) (y : AV) : Option (List (List AV)) :=
  match y with
  | .str l => if strT P t' ∧ sz = 1 then some (strElems l) else none
  | y => if slcT P t' then elemsA sz σ y else none
def appX (e sz bytes : Nat) (σ : Sto) (nx : Nat) (x : AV) (ys : Option (List (List AV))) : Option (AV × Sto × Nat) :=
  match ys with
  | some ys => (match x with
      | .base (.slice none 0 0) => if ys.length * bytes ≤ limB ∧ ys.length ≤ 4611686018427387904 then (if ys.length = 0 then some (.base (.slice none 0 0), σ, nx) else some (.sref σ.length nx sz 0 ys.length, σ ++ [(nx, .gvec sz e ys)], nx + 1)) else none
      | .emp => if ys.length * bytes ≤ limB ∧ ys.length ≤ 4611686018427387904 then (if ys.length = 0 then some (.emp, σ, nx) else some (.sref σ.length nx sz 0 ys.length, σ ++ [(nx, .gvec sz e ys)], nx + 1)) else none
      | .sref p nm esz off len => match sget σ p nm with
        | some (.gvec esz' e' rows) => if esz = sz ∧ esz' = sz ∧ e' = e ∧ off + len ≤ rows.length ∧ (len + ys.length) * bytes ≤ limB ∧ len + ys.length ≤ 4611686018427387904 then
            some (.sref p nx sz 0 (len + ys.length), σ.set p (nx, .gvec sz e ((rows.drop off).take len ++ ys)), nx + 1) else none
        | _ => none
      | _ => none)
  | none => none
@[go_sem] theorem appendA_eq (P : Program) (t t' : Nat) (σ : Sto) (nx : Nat) (x y : AV) : appendA P t t' σ nx x y = match elmT P t with
  | some (e, sz, bytes) => if 0 < sz ∧ ((zeroCells P e).map (·.length)) = some sz then appX e sz bytes σ nx x (appYs P t' sz σ y) else none
  | none => none := rfl
section
variable {P : Program} {t' sz e bytes : Nat} {σ : Sto} {nx : Nat}
@[go_sem] theorem appYs_str (l : List UInt8) : appYs P t' sz σ (.str l) = if strT P t' ∧ sz = 1 then some (strElems l) else none := rfl
@[go_sem] theorem appYs_vec (n : Nat) (r : List (List AV)) : appYs P t' sz σ (.vec n r) = if slcT P t' then elemsA sz σ (.vec n r) else none := rfl
@[go_sem] theorem appYs_nil : appYs P t' sz σ (.base (.slice none 0 0)) = if slcT P t' then some [] else none := rfl
@[go_sem] theorem appYs_emp : appYs P t' sz σ .emp = if slcT P t' then some [] else none := rfl
@[go_sem] theorem appYs_sref (p m n o l : Nat) : appYs P t' sz σ (.sref p m n o l) = if slcT P t' then elemsA sz σ (.sref p m n o l) else none := rfl
@[go_sem] theorem appX_nil (ys : List (List AV)) : appX e sz bytes σ nx (.base (.slice none 0 0)) (some ys) = if ys.length * bytes ≤ limB ∧ ys.length ≤ 4611686018427387904 then (if ys.length = 0 then some (.base (.slice none 0 0), σ, nx) else some (.sref σ.length nx sz 0 ys.length, σ ++ [(nx, .gvec sz e ys)], nx + 1)) else none := rfl
@[go_sem] theorem appX_sref (ys : List (List AV)) (p nm esz off len : Nat) : appX e sz bytes σ nx (.sref p nm esz off len) (some ys) = match sget σ p nm with
        | some (.gvec esz' e' rows) => if esz = sz ∧ esz' = sz ∧ e' = e ∧ off + len ≤ rows.length ∧ (len + ys.length) * bytes ≤ limB ∧ len + ys.length ≤ 4611686018427387904 then
            some (.sref p nx sz 0 (len + ys.length), σ.set p (nx, .gvec sz e ((rows.drop off).take len ++ ys)), nx + 1) else none
        | _ => none := rfl
end
attribute [go_sem] decide_true decide_false beq_true beq_false Bool.not_eq_true Bool.and_true Bool.true_and Bool.and_false Bool.false_and Bool.or_true Bool.true_or Bool.or_false Bool.false_or Int.natCast_nonneg Int.ofNat_lt Int.ofNat_le Int.toNat_natCast List.length_map Bool.decide_eq_true
attribute [go_sem] List.append_nil List.nil_append List.cons_append List.length_nil List.length_cons List.length_append List.drop_zero List.drop_succ_cons List.take_zero List.take_succ_cons List.take_nil List.drop_nil List.head?_cons List.map_cons List.map_nil List.getElem?_cons_zero List.getElem?_cons_succ
  Option.map_some Option.map_none Option.bind_some Option.bind_none Nat.add_zero Nat.zero_add Bool.false_eq_true Bool.true_eq_false if_true if_false true_and and_true false_and and_false ite_true ite_false List.set_cons_zero List.set_cons_succ
  eq_self not_true_eq_false not_false_eq_true Bool.not_true Bool.not_false List.toList_toArray true_or or_true false_or or_false
@[go_sem] theorem decide_false_eq (b : Bool) : decide (b = false) = !b := by cases b <;> rfl
@[go_sem] theorem dstIn_nil (d : Option Nat) : dstIn [] d = false := by cases d <;> rfl
@[go_sem] theorem dstIn_none (l : List Nat) : dstIn l none = false := rfl
@[go_sem] theorem dstIn_cons (a d : Nat) (l : List Nat) : dstIn (a :: l) (some d) = if d = a then true else dstIn l (some d) := by
  unfold dstIn
  by_cases h : d = a <;> simp [h]
section
variable {C : Cx} {t : TypeId} {x y : Operand} {k : IntKind} {a b : Int}
@[go_sem] theorem abin_add : abin C .add t x y (.int k a) (.int k b) = some (.int k (k.wrap (a + b))) := by simp [abin, abinInt]
@[go_sem] theorem abin_sub : abin C .sub t x y (.int k a) (.int k b) = some (.int k (k.wrap (a - b))) := by simp [abin, abinInt]
@[go_sem] theorem abin_mul : abin C .mul t x y (.int k a) (.int k b) = some (.int k (k.wrap (a * b))) := by simp [abin, abinInt]
@[go_sem] theorem abin_quo : abin C .quo t x y (.int k a) (.int k b) = if b = 0 then none else some (.int k (k.wrap (a.tdiv b))) := by simp [abin, abinInt]
@[go_sem] theorem abin_rem : abin C .rem t x y (.int k a) (.int k b) = if b = 0 then none else some (.int k (a.tmod b)) := by simp [abin, abinInt]
@[go_sem] theorem abin_eql : abin C .eql t x y (.int k a) (.int k b) = some (.bool (decide (a = b))) := by simp [abin, abinInt]
@[go_sem] theorem abin_neq : abin C .neq t x y (.int k a) (.int k b) = some (.bool (!decide (a = b))) := by simp [abin, abinInt]
@[go_sem] theorem abin_lss : abin C .lss t x y (.int k a) (.int k b) = some (.bool (decide (a < b))) := by simp [abin, abinInt]
@[go_sem] theorem abin_leq : abin C .leq t x y (.int k a) (.int k b) = some (.bool (decide (a ≤ b))) := by simp [abin, abinInt]
@[go_sem] theorem abin_gtr : abin C .gtr t x y (.int k a) (.int k b) = some (.bool (decide (b < a))) := by simp [abin, abinInt]
@[go_sem] theorem abin_geq : abin C .geq t x y (.int k a) (.int k b) = some (.bool (decide (b ≤ a))) := by simp [abin, abinInt]
@[go_sem] theorem abin_and : abin C .and t x y (.int k a) (.int k b) = some (.int k (Go.bits .and k a b)) := by simp [abin, abinInt]
@[go_sem] theorem abin_shr : abin C .shr t x y (.int k a) (.int k b) = if 0 ≤ b ∧ b ≤ k.bits then some (.int k (a / 2 ^ b.toNat)) else none := by simp [abin]
@[go_sem] theorem abin_shl : abin C .shl t x y (.int k a) (.int k b) = if 0 ≤ b ∧ b ≤ k.bits then some (.int k (k.wrap (a * 2 ^ b.toNat))) else none := by simp [abin]
@[go_sem] theorem abin_str {op : BinOp} {p q : List UInt8} : abin C op t x y (.str p) (.str q) = abinStr op p q := by simp [abin]
@[go_sem] theorem abin_beq {p q : Bool} : abin C .eql t x y (.bool p) (.bool q) = if isBoolT C.P t = true then some (.bool (p == q)) else none := by simp [abin]
@[go_sem] theorem abin_bne {p q : Bool} : abin C .neq t x y (.bool p) (.bool q) = if isBoolT C.P t = true then some (.bool (!(p == q))) else none := by simp [abin]
def nilR (neg : Bool) : Option Bool → Option Bool → Option AV
  | some r, some true => some (.bool (if neg = true then !r else r))
  | _, _ => none
@[go_sem] theorem nilR_some (neg r : Bool) : nilR neg (some r) (some true) = some (.bool (if neg = true then !r else r)) := rfl
@[go_sem] theorem abin_slice_eql {p : AV} : abin C .eql t x (.const (.slice none 0 0)) p (.base (.slice none 0 0)) = nilR false (nilTest C.P t p) (nilTest C.P t (.base (.slice none 0 0))) := by
  have : ∀ o : Option Bool, ∀ o' : Option Bool, (match BinOp.eql, o, o' with
      | .eql, some r, some true => some (AV.bool r)
      | .neq, some r, some true => some (.bool (!r))
      | _, _, _ => none) = nilR false o o' := by
    intro o o'
    cases o <;> cases o' <;> try rfl
    rename_i r' ; cases r' <;> rfl
  cases p <;> exact this _ _
@[go_sem] theorem abin_slice_neq {p : AV} : abin C .neq t x (.const (.slice none 0 0)) p (.base (.slice none 0 0)) = nilR true (nilTest C.P t p) (nilTest C.P t (.base (.slice none 0 0))) := by
  have : ∀ o : Option Bool, ∀ o' : Option Bool, (match BinOp.neq, o, o' with
      | .eql, some r, some true => some (AV.bool r)
      | .neq, some r, some true => some (.bool (!r))
      | _, _, _ => none) = nilR true o o' := by
    intro o o'
    cases o <;> cases o' <;> try rfl
    rename_i r' ; cases r' <;> rfl
  cases p <;> exact this _ _
@[go_sem] theorem abin_pointer_eql {p : AV} : abin C .eql t x (.const (.pointer none)) p (.base (.pointer none)) = nilR false (nilTest C.P t p) (nilTest C.P t (.base (.pointer none))) := by
  have : ∀ o : Option Bool, ∀ o' : Option Bool, (match BinOp.eql, o, o' with
      | .eql, some r, some true => some (AV.bool r)
      | .neq, some r, some true => some (.bool (!r))
      | _, _, _ => none) = nilR false o o' := by
    intro o o'
    cases o <;> cases o' <;> try rfl
    rename_i r' ; cases r' <;> rfl
  cases p <;> exact this _ _
@[go_sem] theorem abin_pointer_neq {p : AV} : abin C .neq t x (.const (.pointer none)) p (.base (.pointer none)) = nilR true (nilTest C.P t p) (nilTest C.P t (.base (.pointer none))) := by
  have : ∀ o : Option Bool, ∀ o' : Option Bool, (match BinOp.neq, o, o' with
      | .eql, some r, some true => some (AV.bool r)
      | .neq, some r, some true => some (.bool (!r))
      | _, _, _ => none) = nilR true o o' := by
    intro o o'
    cases o <;> cases o' <;> try rfl
    rename_i r' ; cases r' <;> rfl
  cases p <;> exact this _ _
@[go_sem] theorem abin_map_eql {p : AV} : abin C .eql t x (.const (.map none)) p (.base (.map none)) = nilR false (nilTest C.P t p) (nilTest C.P t (.base (.map none))) := by
  have : ∀ o : Option Bool, ∀ o' : Option Bool, (match BinOp.eql, o, o' with
      | .eql, some r, some true => some (AV.bool r)
      | .neq, some r, some true => some (.bool (!r))
      | _, _, _ => none) = nilR false o o' := by
    intro o o'
    cases o <;> cases o' <;> try rfl
    rename_i r' ; cases r' <;> rfl
  cases p <;> exact this _ _
@[go_sem] theorem abin_map_neq {p : AV} : abin C .neq t x (.const (.map none)) p (.base (.map none)) = nilR true (nilTest C.P t p) (nilTest C.P t (.base (.map none))) := by
  have : ∀ o : Option Bool, ∀ o' : Option Bool, (match BinOp.neq, o, o' with
      | .eql, some r, some true => some (AV.bool r)
      | .neq, some r, some true => some (.bool (!r))
      | _, _, _ => none) = nilR true o o' := by
    intro o o'
    cases o <;> cases o' <;> try rfl
    rename_i r' ; cases r' <;> rfl
  cases p <;> exact this _ _
@[go_sem] theorem abin_func_eql {p : AV} : abin C .eql t x (.const .nilFunc) p (.base .nilFunc) = nilR false (nilTest C.P t p) (nilTest C.P t (.base .nilFunc)) := by
  have : ∀ o : Option Bool, ∀ o' : Option Bool, (match BinOp.eql, o, o' with
      | .eql, some r, some true => some (AV.bool r)
      | .neq, some r, some true => some (.bool (!r))
      | _, _, _ => none) = nilR false o o' := by
    intro o o'
    cases o <;> cases o' <;> try rfl
    rename_i r' ; cases r' <;> rfl
  cases p <;> exact this _ _
@[go_sem] theorem abin_func_neq {p : AV} : abin C .neq t x (.const .nilFunc) p (.base .nilFunc) = nilR true (nilTest C.P t p) (nilTest C.P t (.base .nilFunc)) := by
  have : ∀ o : Option Bool, ∀ o' : Option Bool, (match BinOp.neq, o, o' with
      | .eql, some r, some true => some (AV.bool r)
      | .neq, some r, some true => some (.bool (!r))
      | _, _, _ => none) = nilR true o o' := by
    intro o o'
    cases o <;> cases o' <;> try rfl
    rename_i r' ; cases r' <;> rfl
  cases p <;> exact this _ _
@[go_sem] theorem abin_iface_eql {p : AV} : abin C .eql t x (.const .nilIface) p (.base .nilIface) = nilR false (nilTest C.P t p) (nilTest C.P t (.base .nilIface)) := by
  have : ∀ o : Option Bool, ∀ o' : Option Bool, (match BinOp.eql, o, o' with
      | .eql, some r, some true => some (AV.bool r)
      | .neq, some r, some true => some (.bool (!r))
      | _, _, _ => none) = nilR false o o' := by
    intro o o'
    cases o <;> cases o' <;> try rfl
    rename_i r' ; cases r' <;> rfl
  cases p <;> exact this _ _
@[go_sem] theorem abin_iface_neq {p : AV} : abin C .neq t x (.const .nilIface) p (.base .nilIface) = nilR true (nilTest C.P t p) (nilTest C.P t (.base .nilIface)) := by
  have : ∀ o : Option Bool, ∀ o' : Option Bool, (match BinOp.neq, o, o' with
      | .eql, some r, some true => some (AV.bool r)
      | .neq, some r, some true => some (.bool (!r))
      | _, _, _ => none) = nilR true o o' := by
    intro o o'
    cases o <;> cases o' <;> try rfl
    rename_i r' ; cases r' <;> rfl
  cases p <;> exact this _ _
theorem wrap64 {z : Int} (h : -9223372036854775808 ≤ z) (h' : z ≤ 9223372036854775807) : IntKind.wrap .i64 z = z := by
  simp [IntKind.wrap, IntKind.bits, IntKind.signed] <;> omega
end

/-! ### Exits -/
section
variable {K : St → Prop} {Q : AExit → St → Prop} {s : St}
@[go_sem] theorem athen_normal : athen K Q .normal s ↔ K s := Iff.rfl
@[go_sem] theorem athen_exit {i : Nat} : athen K Q (.exit i) s ↔ Q (.exit i) s := Iff.rfl
@[go_sem] theorem athen_ret : athen K Q .ret s ↔ Q .ret s := Iff.rfl
@[go_sem] theorem athen_pan {v : AV} : athen K Q (.pan v) s ↔ Q (.pan v) s := Iff.rfl
@[go_sem] theorem athen_goto {l : Nat} : athen K Q (.goto l) s ↔ Q (.goto l) s := Iff.rfl
@[go_sem] theorem ablock_normal {id : Nat} : ablock id Q .normal s ↔ Q .normal s := Iff.rfl
@[go_sem] theorem ablock_exit {id i : Nat} : ablock id Q (.exit i) s ↔ if i = id then Q .normal s else Q (.exit i) s := Iff.rfl
@[go_sem] theorem ablock_ret {id : Nat} : ablock id Q .ret s ↔ Q .ret s := Iff.rfl
@[go_sem] theorem ablock_pan {id : Nat} {v : AV} : ablock id Q (.pan v) s ↔ Q (.pan v) s := Iff.rfl
@[go_sem] theorem ablock_goto {id : Nat} {l : Nat} : ablock id Q (.goto l) s ↔ Q (.goto l) s := Iff.rfl
end

/-! ### Results -/
@[go_sem ↓] theorem resA_tmp (P : Program) (t : Nat) (env : Nat → AV) (σ : Sto) (nx : Nat) : resA P [.tmp t] ⟨env, σ, nx⟩ = some (env t) := rfl
@[go_sem ↓] theorem resA_cell (P : Program) (a T : Nat) (env : Nat → AV) (σ : Sto) (nx : Nat) : resA P [.cell a T] ⟨env, σ, nx⟩ = readA P T σ (env a) := rfl
def two : Option AV → Option AV → Option AV
  | some a, some b => some (.tup [a, b])
  | _, _ => none
def three : Option AV → Option AV → Option AV → Option AV
  | some a, some b, some c => some (.tup [a, b, c])
  | _, _, _ => none
@[go_sem] theorem two_some (a b : AV) : two (some a) (some b) = some (.tup [a, b]) := rfl
@[go_sem] theorem three_some (a b c : AV) : three (some a) (some b) (some c) = some (.tup [a, b, c]) := rfl
@[go_sem ↓] theorem resA_two (P : Program) (r q : ResultVar) (s : St) : resA P [r, q] s = two (res1 P s r) (res1 P s q) := by
  unfold resA two
  simp only [List.mapM_cons, List.mapM_nil]
  cases res1 P s r <;> cases res1 P s q <;> rfl
@[go_sem ↓] theorem resA_three (P : Program) (r q p : ResultVar) (s : St) : resA P [r, q, p] s = three (res1 P s r) (res1 P s q) (res1 P s p) := by
  unfold resA three
  simp only [List.mapM_cons, List.mapM_nil]
  cases res1 P s r <;> cases res1 P s q <;> cases res1 P s p <;> rfl
@[go_sem] theorem res1_tmp (P : Program) (t : Nat) (env : Nat → AV) (σ : Sto) (nx : Nat) : res1 P ⟨env, σ, nx⟩ (.tmp t) = some (env t) := rfl
@[go_sem] theorem res1_cell (P : Program) (a T : Nat) (env : Nat → AV) (σ : Sto) (nx : Nat) : res1 P ⟨env, σ, nx⟩ (.cell a T) = readA P T σ (env a) := rfl
def pfin (F : Nat) (σ : Sto) (Q : AOut → Prop) : Option AV → Prop
  | some r => RF (frzF σ F r) ∧ Q (.ret (frzF σ F r))
  | none => False
@[go_sem] theorem pfin_some (F : Nat) (σ : Sto) (Q : AOut → Prop) (r : AV) : pfin F σ Q (some r) ↔ RF (frzF σ F r) ∧ Q (.ret (frzF σ F r)) := Iff.rfl
theorem pfin_iff (F : Nat) (σ : Sto) (Q : AOut → Prop) (o : Option AV) : pfin F σ Q o ↔ ∃ r, o = some r ∧ RF (frzF σ F r) ∧ Q (.ret (frzF σ F r)) := by
  cases o <;> simp [pfin]
@[go_sem] theorem PPost_ret (C : Cx) (F : Nat) (rs : List ResultVar) (Q : AOut → Prop) (env : Nat → AV) (σ : Sto) (nx : Nat) : PPost C F rs Q .ret ⟨env, σ, nx⟩ ↔ pfin F σ Q (resA C.P rs ⟨env, σ, nx⟩) := (pfin_iff _ _ _ _).symm
@[go_sem] theorem PPost_normal (C : Cx) (F : Nat) (rs : List ResultVar) (Q : AOut → Prop) (env : Nat → AV) (σ : Sto) (nx : Nat) : PPost C F rs Q .normal ⟨env, σ, nx⟩ ↔ pfin F σ Q (resA C.P rs ⟨env, σ, nx⟩) := (pfin_iff _ _ _ _).symm
@[go_sem] theorem PPost_pan (C : Cx) (F : Nat) (rs : List ResultVar) (Q : AOut → Prop) (v : AV) (s : St) : PPost C F rs Q (.pan v) s ↔ RF (frzF s.σ F v) ∧ Q (.pan (frzF s.σ F v)) := Iff.rfl
@[go_sem] theorem frzF_zero (σ : Sto) (v : AV) : frzF σ 0 v = v := rfl
@[go_sem] theorem RF_int (k : IntKind) (n : Int) : RF (.int k n) ↔ True := Iff.rfl
@[go_sem] theorem RF_bool (b : Bool) : RF (.bool b) ↔ True := Iff.rfl
@[go_sem] theorem RF_str (l : List UInt8) : RF (.str l) ↔ True := Iff.rfl
@[go_sem] theorem RF_base (v : Value) : RF (.base v) ↔ True := Iff.rfl
@[go_sem] theorem RF_emp : RF .emp ↔ True := Iff.rfl
@[go_sem] theorem RF_any : RF .any ↔ True := Iff.rfl
@[go_sem] theorem RF_agg (l : List AV) : RF (.agg l) ↔ RFL l := by simp only [RF]
@[go_sem] theorem RF_tup (l : List AV) : RF (.tup l) ↔ RFL l := by simp only [RF]
@[go_sem] theorem RF_vec (n : Nat) (l : List (List AV)) : RF (.vec n l) ↔ RFLL l := by simp only [RF]
@[go_sem] theorem RF_rptr (l : List AV) : RF (.rptr l) ↔ RFL l := by simp only [RF]
@[go_sem] theorem RF_iface (t : TypeId) (v : AV) : RF (.iface t v) ↔ RF v := by simp only [RF]
@[go_sem] theorem RF_fn (f : Fn) (a b : List AV) : RF (.fn f a b) ↔ RFL a ∧ RFL b := by simp only [RF]
@[go_sem] theorem RFL_nil : RFL [] ↔ True := by simp only [RFL]
@[go_sem] theorem RFL_cons (a : AV) (l : List AV) : RFL (a :: l) ↔ RF a ∧ RFL l := by simp only [RFL]
@[go_sem] theorem RFLL_nil : RFLL [] ↔ True := by simp only [RFLL]
@[go_sem] theorem RFLL_cons (a : List AV) (l : List (List AV)) : RFLL (a :: l) ↔ RFL a ∧ RFLL l := by simp only [RFLL]

def afin (σ : Sto) (nx : Nat) (Q : AOut → Sto → Nat → Prop) : Option AV → Prop
  | some r => Q (.ret r) σ nx
  | none => False
@[go_sem] theorem afin_some (σ : Sto) (nx : Nat) (Q : AOut → Sto → Nat → Prop) (r : AV) : afin σ nx Q (some r) ↔ Q (.ret r) σ nx := Iff.rfl
theorem afin_iff (σ : Sto) (nx : Nat) (Q : AOut → Sto → Nat → Prop) (o : Option AV) : afin σ nx Q o ↔ ∃ r, o = some r ∧ Q (.ret r) σ nx := by
  cases o <;> simp [afin]
@[go_sem] theorem APost_ret (C : Cx) (rs : List ResultVar) (Q : AOut → Sto → Nat → Prop) (env : Nat → AV) (σ : Sto) (nx : Nat) : APost C rs Q .ret ⟨env, σ, nx⟩ ↔ afin σ nx Q (resA C.P rs ⟨env, σ, nx⟩) := (afin_iff _ _ _ _).symm
@[go_sem] theorem APost_normal (C : Cx) (rs : List ResultVar) (Q : AOut → Sto → Nat → Prop) (env : Nat → AV) (σ : Sto) (nx : Nat) : APost C rs Q .normal ⟨env, σ, nx⟩ ↔ afin σ nx Q (resA C.P rs ⟨env, σ, nx⟩) := (afin_iff _ _ _ _).symm
@[go_sem] theorem APost_pan (C : Cx) (rs : List ResultVar) (Q : AOut → Sto → Nat → Prop) (v : AV) (env : Nat → AV) (σ : Sto) (nx : Nat) : APost C rs Q (.pan v) ⟨env, σ, nx⟩ ↔ Q (.pan v) σ nx := Iff.rfl
/-- What a call of a contract that tells one outcome leads to. -/
abbrev Gets (r : AV) (σ : Sto) (nx : Nat) : AOut → Sto → Nat → Prop := fun o σ' nx' => o = .ret r ∧ σ' = σ ∧ nx' = nx
@[go_sem] theorem Gets_iff (r : AV) (σ σ' : Sto) (nx nx' : Nat) (o : AOut) : Gets r σ nx o σ' nx' ↔ o = .ret r ∧ σ' = σ ∧ nx' = nx := Iff.rfl
theorem CallP.acall {C : Cx} {tot : Bool} {g : FuncId} {args : List AV} {σ σ1 : Sto} {nx nx1 : Nat} {K KP : AV → Sto → Nat → Prop} {r : AV} (h : ACall C g args σ nx (Gets r σ1 nx1)) (hk : K r σ1 nx1) : CallP C true tot g args σ nx K KP :=
  ⟨_, h, (by rintro v σ' nx' ⟨hq, rfl, rfl⟩; cases hq; exact hk), (by rintro v σ' nx' ⟨hq, _, _⟩; cases hq), .inr ⟨r, σ1, nx1, rfl, rfl, rfl⟩, .inl rfl⟩
/-- One outcome, whatever names are used up. -/
abbrev GetsN (r : AV) (σ : Sto) : AOut → Sto → Nat → Prop := fun o σ' _ => o = .ret r ∧ σ' = σ
@[go_sem] theorem GetsN_iff (r : AV) (σ σ' : Sto) (nx' : Nat) (o : AOut) : GetsN r σ o σ' nx' ↔ o = .ret r ∧ σ' = σ := Iff.rfl
theorem CallP.acallN {C : Cx} {tot : Bool} {g : FuncId} {args : List AV} {σ σ1 : Sto} {nx : Nat} {K KP : AV → Sto → Nat → Prop} {r : AV} (h : ACall C g args σ nx (GetsN r σ1)) (hk : ∀ nx1, K r σ1 nx1) : CallP C true tot g args σ nx K KP :=
  ⟨_, h, (by rintro v σ' nx' ⟨hq, rfl⟩; cases hq; exact hk _), (by rintro v σ' nx' ⟨hq, _⟩; cases hq), .inr ⟨r, σ1, nx, rfl, rfl⟩, .inl rfl⟩
theorem sget_last (a : Nat × AObj) (rest : Sto) (n : Nat) (o : AObj) : sget (a :: (rest ++ [(n, o)])) (rest.length + 1) n = some o := by simp [sget]
theorem set_last (a b : Nat × AObj) (rest : Sto) (x : Nat × AObj) : (a :: (rest ++ [x])).set (rest.length + 1) b = a :: (rest ++ [b]) := by simp
/-- What is shown of a call whatever it makes of its arguments: several outcomes. -/
theorem CallP.rel {C : Cx} {own tot : Bool} {g : FuncId} {args : List AV} {σ : Sto} {nx : Nat} {K KP : AV → Sto → Nat → Prop} {Q : AOut → Prop} (h : PCall C g args Q) (hf : RFL args) (hk : ∀ v, Q (.ret v) → K v σ nx) (hp : ∀ v, Q (.pan v) → KP v σ nx) (ht : tot = true ∨ ∃ v, Q (.ret v)) : CallP C own tot g args σ nx K KP :=
  ⟨_, h.acall hf σ nx, (by rintro v σ' nx' ⟨hq, rfl, rfl⟩; exact hk v hq), (by rintro v σ' nx' ⟨hq, rfl, rfl⟩; exact hp v hq), (ht.elim .inl fun ⟨v, hv⟩ => .inr ⟨v, σ, nx, hv, rfl, rfl⟩), .inr ⟨hf, _, h, fun _ _ _ => Iff.rfl⟩⟩
attribute [go_sem] Nat.lt_irrefl Nat.zero_lt_succ decide_not List.take_length List.length_replicate List.drop_replicate List.take_replicate List.replicate_zero Nat.sub_self Nat.le_refl Nat.add_sub_cancel Int.natCast_pos Int.natCast_eq_zero Int.natCast_inj Int.le_refl Int.toNat_zero Nat.sub_zero

/-! ### What is frozen -/
@[go_sem] theorem frzF_int (σ : Sto) (F : Nat) (k : IntKind) (n : Int) : frzF σ F (.int k n) = .int k n := by cases F <;> rfl
@[go_sem] theorem frzF_bool (σ : Sto) (F : Nat) (b : Bool) : frzF σ F (.bool b) = .bool b := by cases F <;> rfl
@[go_sem] theorem frzF_str (σ : Sto) (F : Nat) (l : List UInt8) : frzF σ F (.str l) = .str l := by cases F <;> rfl
@[go_sem] theorem frzF_base (σ : Sto) (F : Nat) (v : Value) : frzF σ F (.base v) = .base v := by cases F <;> rfl
@[go_sem] theorem frzF_emp (σ : Sto) (F : Nat) : frzF σ F .emp = .emp := by cases F <;> rfl
@[go_sem] theorem frzF_vec (σ : Sto) (F : Nat) (e : Nat) (r : List (List AV)) : frzF σ F (.vec e r) = .vec e r := by cases F <;> rfl
@[go_sem] theorem frzF_rptr (σ : Sto) (F : Nat) (r : List AV) : frzF σ F (.rptr r) = .rptr r := by cases F <;> rfl
@[go_sem] theorem frzF_agg (σ : Sto) (F : Nat) (r : List AV) : frzF σ (F + 1) (.agg r) = .agg (r.map (frzF σ F)) := by simp only [frzF]
@[go_sem] theorem frzF_tup (σ : Sto) (F : Nat) (r : List AV) : frzF σ (F + 1) (.tup r) = .tup (r.map (frzF σ F)) := by simp only [frzF]
@[go_sem] theorem frzF_sref (σ : Sto) (F p nm e o l : Nat) : frzF σ (F + 1) (.sref p nm e o l) = match sget σ p nm with
    | some (.gvec esz' _ rows) => if esz' = e ∧ o + l ≤ rows.length then .vec e (((rows.drop o).take l).map fun r => r.map (frzF σ F)) else .sref p nm e o l
    | _ => .sref p nm e o l := by
  simp only [frzF]
  cases sget σ p nm with
  | none => rfl
  | some ob => cases ob <;> rfl
@[go_sem] theorem frz_rows (σ : Sto) (r : List (List AV)) : (r.map fun x => x.map (frzF σ 0)) = r := by
  have : (fun x : List AV => x.map (frzF σ 0)) = id := by
    funext x
    have : frzF σ 0 = id := rfl
    rw [this, List.map_id]; rfl
  rw [this, List.map_id]
/-- A body's contract, its slots and results told. -/
theorem pcall_mk {C : Cx} {g : FuncId} {fn : Func} {c : Code} {args : List AV} (F n : Nat) (rs : List ResultVar) (hf : C.P.funcs[g]? = some fn) (hb : fn.body = some c) (hname : (fn.name == "runtime.NumGoroutine") = false) (hn : fn.ntmps = n) (hr : fn.results.toList = rs) (hl : Nat.ble args.length n = true) {Q : AOut → Prop}
    (h : aw C n [] c (PPost C F rs Q) ⟨argEnv args, [], 0⟩) : PCall C g args Q := by
  subst hn; subst hr
  exact pcall_intro F hf hb hname (Nat.le_of_ble_eq_true hl) h
theorem acall_mk {C : Cx} {g : FuncId} {fn : Func} {c : Code} {args : List AV} {σ : Sto} {nx : Nat} (n : Nat) (rs : List ResultVar) (hf : C.P.funcs[g]? = some fn) (hb : fn.body = some c) (hname : (fn.name == "runtime.NumGoroutine") = false) (hn : fn.ntmps = n) (hr : fn.results.toList = rs) (hl : Nat.ble args.length n = true) {Q : AOut → Sto → Nat → Prop}
    (h : aw C n [] c (APost C rs Q) ⟨argEnv args, σ, nx⟩) : ACall C g args σ nx Q := by
  subst hn; subst hr
  exact acall_intro hf hb hname (Nat.le_of_ble_eq_true hl) h
/-- A conditional whose condition is known to be a proposition's. -/
theorem aw_if {C : Cx} {n : Nat} {ds : List Deferred} {Q : AExit → St → Prop} {s : St} {c : Operand} {x y : Code} (p : Prop) [Decidable p] (hc : opv C s.env c = .bool (decide p)) (ht : p → aw C n ds x Q s) (hf : ¬p → aw C n ds y Q s) : aw C n ds (.cond c x y) Q s :=
  aw_cond hc (fun h => ht (of_decide_eq_true h)) (fun h => hf (of_decide_eq_false h))

/-! ### Frames of a walk -/
section
variable {C : Cx} {n : Nat} {ds : List Deferred} {K : St → Prop} {Q : AExit → St → Prop} {s : St} {e : AExit}
theorem ablock_here {id : Nat} (h : Q .normal s) : ablock id Q (.exit id) s := by simp only [ablock, if_true]; exact h
theorem ablock_pass {id i : Nat} (hne : Nat.beq i id = false) (h : Q (.exit i) s) : ablock id Q (.exit i) s := by
  have : i ≠ id := fun e => by subst e; simp at hne
  simp only [ablock, if_neg this]; exact h
/-- Objects made inside are forgotten: the first k stay. -/
def afor (k : Nat) (Q : AExit → St → Prop) : AExit → St → Prop := fun e s => Q e ⟨s.env, s.σ.take k, s.nx⟩
theorem aw_forget' {c : Code} (k : Nat) (hk : s.σ.length = k) (h : aw C n ds c (afor k Q) s) : aw C n ds c Q s :=
  aw_forget (aw_mono h fun e s' hq => ⟨k, by omega, hq⟩)
theorem afor_zero {env : Nat → AV} {σ : Sto} {nx : Nat} (h : Q e ⟨env, [], nx⟩) : afor 0 Q e ⟨env, σ, nx⟩ := by simpa [afor] using h
theorem afor_one {env : Nat → AV} {a : Nat × AObj} {σ : Sto} {nx : Nat} (h : Q e ⟨env, [a], nx⟩) : afor 1 Q e ⟨env, a :: σ, nx⟩ := by simpa [afor] using h
theorem afor_two {env : Nat → AV} {a b : Nat × AObj} {σ : Sto} {nx : Nat} (h : Q e ⟨env, [a, b], nx⟩) : afor 2 Q e ⟨env, a :: b :: σ, nx⟩ := by simpa [afor] using h
theorem afor_three {env : Nat → AV} {a b c : Nat × AObj} {σ : Sto} {nx : Nat} (h : Q e ⟨env, [a, b, c], nx⟩) : afor 3 Q e ⟨env, a :: b :: c :: σ, nx⟩ := by simpa [afor] using h
theorem afor_four {env : Nat → AV} {a b c d : Nat × AObj} {σ : Sto} {nx : Nat} (h : Q e ⟨env, [a, b, c, d], nx⟩) : afor 4 Q e ⟨env, a :: b :: c :: d :: σ, nx⟩ := by simpa [afor] using h
/-- A meeting point between two parts. -/
theorem aw_mid (M : St → Prop) {x y : Code} (h : aw C n ds x (athen M Q) s) (h' : ∀ s, M s → aw C n ds y Q s) : aw C n ds (.seq x y) Q s :=
  aw_seq (aw_mono h fun e s' hq => by cases e <;> first | exact h' _ hq | exact hq)
theorem afor_rest {env : Nat → AV} {a : Nat × AObj} {rest l : Sto} {nx : Nat} (h : Q e ⟨env, a :: rest, nx⟩) : afor (rest.length + 1) Q e ⟨env, a :: (rest ++ l), nx⟩ := by simpa [afor] using h
theorem afor_rest0 {env : Nat → AV} {a : Nat × AObj} {rest : Sto} {nx : Nat} (h : Q e ⟨env, a :: rest, nx⟩) : afor (rest.length + 1) Q e ⟨env, a :: rest, nx⟩ := by simpa [afor] using h
theorem afor_len {env : Nat → AV} {σ l : Sto} {nx : Nat} (h : Q e ⟨env, σ, nx⟩) : afor σ.length Q e ⟨env, σ ++ l, nx⟩ := by simpa [afor] using h
theorem aw_loop' {c : Code} (J : Nat → St → Prop) (round : ∀ d s, J d s → aw C n ds c (athen (fun s' => ∃ d', d' < d ∧ J d' s') Q) s) (h₀ : ∃ d, J d s) : aw C n ds (.loop c) Q s :=
  h₀.elim fun _ h => aw_loop J round h
end

/-! ### Objects of a call's own are forgotten behind it -/
theorem acall_cut {C : Cx} {g : FuncId} {args : List AV} {σ : Sto} {nx : Nat} {Q : AOut → Sto → Nat → Prop} (h : ACall C g args σ nx (fun o σ' nx' => Q o (σ'.take σ.length) nx')) : ACall C g args σ nx Q := by
  intro B kn m w vs hI hr
  refine (h B kn m w vs hI hr).mono ?_
  rintro e w' ⟨out, kn', m', σ', nx', hq, ho, hk, hI', hkp⟩
  refine ⟨out, kn', m', σ'.take σ.length, nx', hq, ho, hk, hI'.take _, hkp.le, hkp.ag, fun p nm ob e e' => ?_⟩
  have hp : p < σ.length := (List.getElem?_eq_some_iff.1 e).1
  rw [List.getElem?_take, if_pos hp]
  exact hkp.pend p nm ob e e'
theorem sget_end (σ l : Sto) (n : Nat) (o : AObj) : sget (σ ++ (n, o) :: l) σ.length n = some o := by simp [sget]
theorem set_end (σ l : Sto) (a b : Nat × AObj) : (σ ++ a :: l).set σ.length b = σ ++ b :: l := by simp
theorem take_end (σ l : Sto) : (σ ++ l).take σ.length = σ := by simp
attribute [go_sem] sget_end set_end take_end
end Go.Ab

/-
  DEFERRED CALLS: bodies that defer closures, and closures that recover.
-/
set_option linter.unusedVariables false
set_option linter.unusedSimpArgs false
namespace Go.Ab
open Go Go.RowKit

/-- A deferred call: the function and all its arguments. -/
def DRel (kn : Kn) (m : Mp) (x : FuncId × List AV) (d : Deferred) : Prop :=
  ∃ cap, d.target = .fn (.func x.1) cap ∧ RelL kn m x.2 (d.args ++ cap).toList
def DRelL (kn : Kn) (m : Mp) : List (FuncId × List AV) → List Deferred → Prop
  | [], ds => ds = []
  | x :: l, ds => ∃ d ds', ds = d :: ds' ∧ DRel kn m x d ∧ DRelL kn m l ds'
theorem DRelL.mono {kn kn' : Kn} {m m' : Mp} (hk : KnLe kn kn') (hm : MpLe m m') : ∀ {l : List (FuncId × List AV)} {ds : List Deferred}, DRelL kn m l ds → DRelL kn' m' l ds
  | [], ds, h => h
  | x :: l, ds, ⟨d, ds', h1, ⟨cap, h2, h3⟩, h4⟩ => ⟨d, ds', h1, ⟨cap, h2, h3.mono hk hm⟩, DRelL.mono hk hm h4⟩

/-- The mode of a frame whose deferred calls run: it returns, or panics with a value. -/
def RelMode (kn : Kn) (m : Mp) : Option AV → FrameMode → Prop
  | none, u => u = .returning
  | some x, u => ∃ v, u = .panicking [{ v := v, recovered := false }] ∧ Rel kn m x v
theorem RelMode.run {kn : Kn} {m : Mp} {x : Option AV} {u : FrameMode} (h : RelMode kn m x u) : u ≠ .run := by
  cases x with
  | none => simp only [RelMode] at h; subst h; simp
  | some x => obtain ⟨v, rfl, _⟩ := h; simp

/-- A contract of a deferred call: the mode ahead, and behind. -/
def DCall (C : Cx) (g : FuncId) (args : List AV) (σ : Sto) (nx : Nat) (u : Option AV) (R : Option AV → Sto → Nat → Prop) : Prop :=
  bodyOK C.P g = true ∧ ∀ (B : Base) (kn : Kn) (m : Mp) (w : World) (vs : List Value) (um : FrameMode), Inv C B kn m σ nx w → RelL kn m args vs → RelMode kn m u um →
    CallsD C.P g vs.toArray um w fun e u' w' => (∃ v, e = .returned v) ∧ ∃ x kn' m' σ' nx', R x σ' nx' ∧ RelMode kn' m' x (settle u') ∧ KnLe kn kn' ∧ Inv C B kn' m' σ' nx' w' ∧ Keep m σ nx m' σ' nx'

/-- What deferred calls owe, and the results behind them. -/
def LeavesA (C : Cx) (rs : List ResultVar) (Q : AOut → Sto → Nat → Prop) : List (FuncId × List AV) → Option AV → St → Prop
  | [], none, s => ∃ r, resA C.P rs s = some r ∧ Q (.ret r) s.σ s.nx
  | [], some v, s => Q (.pan v) s.σ s.nx
  | x :: l, u, s => ∃ R, DCall C x.1 x.2 s.σ s.nx u R ∧ ∀ u' σ' nx', R u' σ' nx' → LeavesA C rs Q l u' ⟨s.env, σ', nx'⟩

theorem leaves_sound {C : Cx} {fn : Func} {Q : AOut → Sto → Nat → Prop} {B : Base} {kn₀ : Kn} {m₀ : Mp} {σ₀ : Sto} {nx₀ : Nat} (hlt₀ : ∀ (p nm : Nat) (ob : AObj), σ₀[p]? = some (nm, ob) → nm < nx₀) {n : Nat} {act : Act} :
    ∀ (l : List (FuncId × List AV)) (u : Option AV) (s : St) (ds : List Deferred) (um : FrameMode) (kn : Kn) (m : Mp) (w : World), DRelL kn m l ds → RelMode kn m u um → RelEnv kn m s.env n act → Inv C B kn m s.σ s.nx w → KnLe kn₀ kn → Keep m₀ σ₀ nx₀ m s.σ s.nx →
      LeavesA C fn.results.toList Q l u s → Leaves C.P fn act.tmps (fun e w' => ∃ out kn' m' σ' nx', Q out σ' nx' ∧ RelOut kn' m' out e ∧ KnLe kn₀ kn' ∧ Inv C B kn' m' σ' nx' w' ∧ Keep m₀ σ₀ nx₀ m' σ' nx') ds um w
  | [], none, s, ds, um, kn, m, w, hd, hu, hE, hI, hk, hkp, h => by
    simp only [DRelL] at hd; subst hd
    simp only [RelMode] at hu; subst hu
    obtain ⟨r, h1, h2⟩ := h
    obtain ⟨v, q1, q2⟩ := results_sound hI hE h1
    exact ⟨v, q1, _, kn, m, _, _, h2, q2, hk, hI, hkp⟩
  | [], some x, s, ds, um, kn, m, w, hd, hu, hE, hI, hk, hkp, h => by
    simp only [DRelL] at hd; subst hd
    obtain ⟨v, rfl, hv⟩ := hu
    exact ⟨_, kn, m, _, _, h, ⟨v, rfl, hv⟩, hk, hI, hkp⟩
  | (g, ags) :: l, u, s, ds, um, kn, m, w, hd, hu, hE, hI, hk, hkp, h => by
    obtain ⟨d, ds', rfl, ⟨cap, h2, h3⟩, h4⟩ := hd
    obtain ⟨R, ⟨hbo, hD⟩, hR⟩ := h
    obtain ⟨tg, dargs⟩ := d
    simp only at h2 h3; subst h2
    refine leaves_cons (f := g) (args := dargs ++ cap) hu.run ?_ ?_
    · simp only [invoke]; exact calls_of_bodyOK hbo _ w
    · have := hD B kn m w _ um hI h3 hu
      rw [show (dargs ++ cap).toList.toArray = dargs ++ cap by simp] at this
      refine this.mono ?_
      rintro e u' w' ⟨⟨v, rfl⟩, x, kn', m', σ', nx', hr, hx, hkl, hI', hkp'⟩
      exact leaves_sound hlt₀ l x ⟨s.env, σ', nx'⟩ ds' (settle u') kn' m' w' (h4.mono hkl (hkp'.mple hI)) hx (hE.mono hkl (hkp'.mple hI)) hI' (hk.trans hkl) (hkp.trans hkp' hlt₀) (hR _ _ _ hr)

/-! ### Code that may defer -/
def awD (C : Cx) (n : Nat) (dl : List (FuncId × List AV)) (c : Code) (Q : AExit → List (FuncId × List AV) → St → Prop) (s : St) : Prop :=
  ∀ (B : Base) (kn : Kn) (m : Mp) (act : Act) (w : World), RelEnv kn m s.env n act → DRelL kn m dl act.defers → Inv C B kn m s.σ s.nx w →
    c.wp C.P (fun e act' w' => ∃ ae s' kn' m' dl', RelExit kn' m' ae e ∧ RelEnv kn' m' s'.env n act' ∧ DRelL kn' m' dl' act'.defers ∧ Inv C B kn' m' s'.σ s'.nx w' ∧ KnLe kn kn' ∧ Keep m s.σ s.nx m' s'.σ s'.nx ∧ Q ae dl' s') act w

section
variable {C : Cx} {n : Nat} {dl : List (FuncId × List AV)} {Q : AExit → List (FuncId × List AV) → St → Prop} {s : St} {x y : Code}

theorem awD_rest (h : ∀ ds, aw C n ds x (fun e s' => Q e dl s') s) : awD C n dl x Q s := by
  intro B kn m act w h1 h2 h3
  refine wp_mono (h act.defers B kn m act w h1 rfl h3) ?_
  rintro e act' w' ⟨ae, s', kn', m', hx, hR, hq⟩
  exact ⟨ae, s', kn', m', dl, hx, hR.env, by rw [hR.defs]; exact h2.mono hR.knle (hR.keep.mple h3), hR.inv, hR.knle, hR.keep, hq⟩

def athenD (K : List (FuncId × List AV) → St → Prop) (Q : AExit → List (FuncId × List AV) → St → Prop) : AExit → List (FuncId × List AV) → St → Prop
  | .normal, dl, s => K dl s
  | e, dl, s => Q e dl s
theorem awD_seq (h : awD C n dl x (athenD (fun dl' s' => awD C n dl' y Q s') Q) s) : awD C n dl (.seq x y) Q s := by
  intro B kn m act w h1 h2 h3
  refine wp_seq (wp_mono (h B kn m act w h1 h2 h3) ?_)
  rintro e a1 w1 ⟨ae, s1, kn1, m1, dl1, hx, hE, hD, hI, hk, hkp, hq⟩
  cases e with
  | normal =>
    cases ae <;> first | (simp only [RelExit] at hx; done) | skip
    refine wp_mono (hq B kn1 m1 a1 w1 hE hD hI) ?_
    rintro e2 a2 w2 ⟨ae2, s2, kn2, m2, dl2, hx2, hE2, hD2, hI2, hk2, hkp2, hq2⟩
    exact ⟨ae2, s2, kn2, m2, dl2, hx2, hE2, hD2, hI2, hk.trans hk2, hkp.trans hkp2 h3.lt, hq2⟩
  | exit id => cases ae <;> first | (simp only [RelExit] at hx; done) | exact ⟨_, s1, kn1, m1, dl1, hx, hE, hD, hI, hk, hkp, hq⟩
  | goto l => cases ae <;> first | (simp only [RelExit] at hx; done) | exact ⟨_, s1, kn1, m1, dl1, hx, hE, hD, hI, hk, hkp, hq⟩
  | ret => cases ae <;> first | (simp only [RelExit] at hx; done) | exact ⟨_, s1, kn1, m1, dl1, hx, hE, hD, hI, hk, hkp, hq⟩
  | panic ch => cases ae <;> first | (simp only [RelExit] at hx; done) | exact ⟨_, s1, kn1, m1, dl1, hx, hE, hD, hI, hk, hkp, hq⟩
  | outgrown => cases ae <;> (simp only [RelExit] at hx)
end

theorem wpOps_append {P : Program} {ops : Array Oper} {Q : Exit → Act → World → Prop} (l2 : List Nat) : ∀ (l1 : List Nat) (a : Act) (w : World), wpOps P ops (fun e a w => match e with | .normal => wpOps P ops Q l2 a w | e => Q e a w) l1 a w → wpOps P ops Q (l1 ++ l2) a w
  | [], a, w, h => h
  | i :: rest, a, w, h => by
    rw [List.cons_append, wpOps_cons]
    rw [wpOps_cons] at h
    unfold wpOp at h ⊢
    split
    · rename_i e; rw [e] at h; exact wpOps_append l2 rest a w h
    · rename_i o e
      rw [e] at h
      simp only at h
      split
      · rename_i hw
        rw [if_pos hw] at h
        rcases h with h | ⟨h1, h2⟩
        · refine .inl ?_
          unfold Oper.wp at h ⊢
          generalize (execOp a.eval o).run P w = r at h ⊢
          unfold Oper.upon at h ⊢
          split at h
          all_goals first
            | exact wpOps_append l2 rest _ _ h
            | exact h
            | (refine h.mono fun e w' he => ?_
               cases e with
               | returned v => exact wpOps_append l2 rest _ _ he
               | panicked ch => exact he
               | outgrown => exact he)
            | (refine Rows.mono h fun v w' he => ?_; exact wpOps_append l2 rest _ _ he)
            | exact h.elim
        · exact .inr ⟨h1, h2⟩
      · rename_i hw
        rw [if_neg hw] at h
        exact wpOps_append l2 rest _ _ h

theorem aseq_of_areg' {C : Cx} {H : Hints} {tt : Nat → Bool} {ops : Array Oper} {K : St → Prop} {KP : AV → Sto → Nat → Prop} {p₀ n₀ : Nat} : ∀ (l : List Oper) (k : Nat) (s : St), (∀ j : Nat, j < l.length → l[j]? = ops[k + j]?) →
    areg C H tt ops K KP l k (p₀ + rk ops.toList k, n₀ + rk ops.toList k) s → aseq C H tt ops p₀ n₀ K KP (List.range' k l.length) s
  | [], k, s, hl, h => h
  | o :: rest, k, s, hl, h => by
    have h0 : ops[k]? = some o := by simpa using (hl 0 (by simp)).symm
    have hrest : ∀ j : Nat, j < rest.length → rest[j]? = ops[k + 1 + j]? := fun j hj => by have := hl (j + 1) (by simpa using hj); simpa [Nat.add_assoc, Nat.add_comm 1 j] using this
    have hrk := rk_succ (l := ops.toList) (i := k) (o := o) (by simpa using h0)
    have hal : (if isAlloc o.op = true then (p₀ + rk ops.toList k + 1, n₀ + rk ops.toList k + 1) else (p₀ + rk ops.toList k, n₀ + rk ops.toList k)) = (p₀ + rk ops.toList (k + 1), n₀ + rk ops.toList (k + 1)) := by
      rw [hrk]; split <;> simp [Nat.add_assoc]
    simp only [areg, hal] at h
    simp only [List.length_cons, List.range'_succ, aseq, aopAt, h0]
    obtain ⟨t, a, b, c⟩ := h
    exact ⟨t, a, fun ht => aop_mono (b ht) (fun v σ nx hh => aseq_of_areg' rest (k + 1) _ hrest hh) (fun _ _ _ hh => hh), fun ht => aseq_of_areg' rest (k + 1) _ hrest (c ht)⟩

section
variable {C : Cx} {n : Nat} {dl : List (FuncId × List AV)} {Q : AExit → List (FuncId × List AV) → St → Prop} {s : St}
/-- A region whose last operation defers a closure. -/
theorem awD_defer (H : Hints) {id : Nat} {ops : Array Oper} {objs : Sto} {pre : List Oper} {o : Oper} {c : Call} (hl : ops.toList = pre ++ [o]) (hop : o.op = .defer c) (hg : o.guard = none) (hd : dstOK n ops = true) (ho : allocObjs C.P ops.toList s.nx = some objs)
    (h : ∀ (K : St → Prop) (KP : AV → Sto → Nat → Prop), (∀ s', (∃ g ags, calleeA C c s'.env = some (g, ags) ∧ Q .normal ((g, ags) :: dl) ⟨updo s'.env o.dst .undef, s'.σ, s'.nx⟩) → K s') → (∀ v σ nx, (∀ env, Q (.pan v) dl ⟨env, σ, nx⟩) → KP v σ nx) →
      areg C H (fun _ => true) ops K KP pre 0 (s.σ.length, s.nx) ⟨s.env, s.σ ++ objs, s.nx + objs.length⟩) : awD C n dl (.region id ops false) Q s := by
  intro B kn m act w h1 h2 h3
  obtain ⟨hI', hk'⟩ := h3.ahead ho
  refine wp_region ?_
  have hsz : ops.size = pre.length + 1 := by rw [← Array.length_toList, hl]; simp
  have hlast : ops[pre.length]? = some o := by rw [← Array.getElem?_toList, hl]; simp
  have hrange : List.range ops.size = List.range' 0 pre.length ++ [pre.length] := by
    rw [hsz, List.range_succ, List.range_eq_range']
  rw [hrange]
  refine wpOps_append _ _ _ _ ?_
  have h' := h (fun s' => ∃ g ags, calleeA C c s'.env = some (g, ags) ∧ Q .normal ((g, ags) :: dl) ⟨updo s'.env o.dst .undef, s'.σ, s'.nx⟩) (fun v σ nx => ∀ env, Q (.pan v) dl ⟨env, σ, nx⟩) (fun _ h => h) (fun _ _ _ h => h)
  have hs := aseq_of_areg' (ops := ops) (p₀ := s.σ.length) (n₀ := s.nx) pre 0 ⟨s.env, s.σ ++ objs, s.nx + objs.length⟩ (fun j hj => by rw [← Array.getElem?_toList, hl]; simp [List.getElem?_append_left hj]) (by simpa [rk] using h')
  refine aseq_sound (KP := fun v σ nx => ∀ env, Q (.pan v) dl ⟨env, σ, nx⟩) (B := B) (n := n) (ds := act.defers) (kn₀ := kn) (m₀ := m) (σ₀ := s.σ) (nx₀ := s.nx) h3.lt (dstOK_sound hd) (fun s' kn' m' act' w' hK hR => ?_)
    (fun v u env' kn' m' σ' nx' act' w' hKP hv hR => ⟨.pan v, ⟨env', σ', nx'⟩, kn', m', dl, ⟨u, rfl, hv⟩, hR.env, by rw [hR.defs]; exact h2.mono hR.knle (hR.keep.mple h3), hR.inv, hR.knle, hR.keep, hKP env'⟩) (List.range' 0 pre.length) (fun _ => false) ⟨s.env, s.σ ++ objs, s.nx + objs.length⟩ kn m act w List.nodup_range' (fun _ _ => rfl) ⟨⟨h1, rfl, hI', KnLe.refl _, hk'⟩, ?_⟩ hs
  · obtain ⟨g, ags, hc, hq⟩ := hK
    simp only
    rw [wpOps_cons]
    unfold wpOp
    rw [hlast]
    simp only
    have hwt : Region.wanted o (yielded ops act'.tmps) = true := by unfold Region.wanted; rw [hg]
    rw [if_pos hwt]
    refine .inl ?_
    unfold calleeA at hc
    split at hc
    · rename_i f hcal
      split at hc
      · rename_i g' first caps hf
        cases hc
        have hfr := rel_opv hR.inv hR.env f
        rw [hf] at hfr
        generalize hfv : act'.eval f = fv at hfr
        cases hfr with
        | fn _ _ _ first' caps' hl1 hl2 hr1 hr2 =>
          have hargs := rel_map hR.inv hR.env c.args
          have hrel : RelL kn' m' (first ++ (c.args.toList.map (opv C s'.env) ++ caps)) (first'.toList ++ ((c.args.map act'.eval).toList ++ caps'.toList)) := by
            refine RelL.append ⟨by simpa using hl1, fun i x v a b => hr1 i x v a (by simpa using b)⟩ (RelL.append ⟨by simp, fun i x v a b => hargs.2 i x v a (by rw [← Array.getElem?_toList]; exact b)⟩ ⟨by simpa using hl2, fun i x v a b => hr2 i x v a (by simpa using b)⟩)
          have hexec : (execOp act'.eval o).run C.P w' = .ok (.defer { target := .fn (.func g) caps', args := first' ++ c.args.map act'.eval }) w' := by
            obtain ⟨dst, op, type, pos, after, guard⟩ := o
            simp only at hop
            subst hop
            simp [execOp, resolve, hcal, hfv, Deferred.ofValue]
          unfold Oper.wp
          rw [hexec, Oper.upon_defer]
          simp only [wpOps]
          have hE : RelEnv kn' m' s'.env n { act' with defers := { target := .fn (.func g) caps', args := first' ++ c.args.map act'.eval } :: act'.defers } := ⟨hR.env.size, hR.env.tmp⟩
          refine ⟨.normal, ⟨updo s'.env o.dst .undef, s'.σ, s'.nx⟩, kn', m', _, trivial, hE.put o.dst (fun d => dstOK_sound hd _ _ d hlast) (.base _), ?_, hR.inv, hR.knle, hR.keep, hq⟩
          have hdd : ∀ (a : Act) (d : Option Tmp) (v : Value), (a.put d v).defers = a.defers := fun a d v => by cases d <;> rfl
          rw [hdd]
          refine ⟨_, _, rfl, ⟨caps', rfl, ?_⟩, ?_⟩
          · simpa using hrel
          · rw [hR.defs]; exact h2.mono hR.knle (hR.keep.mple h3)
      · cases hc
    · cases hc
  · intro j o' T hj hT _
    obtain ⟨z, hz, hgt⟩ := allocObjs_get ho (j := j) (by simpa using hj) hT
    refine ⟨h3.dom _ (Nat.le_add_right _ _), ?_, Nat.le_add_right _ _, z, hz, ?_⟩
    · have := (List.getElem?_eq_some_iff.1 hgt).1; simp; omega
    · rw [List.getElem?_append_right (Nat.le_add_right _ _), Nat.add_sub_cancel_left]; exact hgt
/-- A deferring region, and what stands behind it. -/
theorem awD_sdefer (H : Hints) {id : Nat} {ops : Array Oper} {objs : Sto} {y : Code} {pre : List Oper} {o : Oper} {c : Call} (hl : ops.toList = pre ++ [o]) (hop : o.op = .defer c) (hg : o.guard = none) (hd : dstOK n ops = true) (ho : allocObjs C.P ops.toList s.nx = some objs)
    (h : ∀ (K : St → Prop) (KP : AV → Sto → Nat → Prop), (∀ s', (∃ g ags, calleeA C c s'.env = some (g, ags) ∧ awD C n ((g, ags) :: dl) y Q ⟨updo s'.env o.dst .undef, s'.σ, s'.nx⟩) → K s') → (∀ v σ nx, (∀ env, Q (.pan v) dl ⟨env, σ, nx⟩) → KP v σ nx) →
      areg C H (fun _ => true) ops K KP pre 0 (s.σ.length, s.nx) ⟨s.env, s.σ ++ objs, s.nx + objs.length⟩) : awD C n dl (.seq (.region id ops false) y) Q s :=
  awD_seq (awD_defer H hl hop hg hd ho fun K KP hK hP => h K KP hK hP)
theorem awD_sreg (H : Hints) {id : Nat} {ops : Array Oper} {objs : Sto} {y : Code} (hd : dstOK n ops = true) (ho : allocObjs C.P ops.toList s.nx = some objs)
    (h : ∀ (K : St → Prop) (KP : AV → Sto → Nat → Prop), (∀ s, awD C n dl y Q s → K s) → (∀ v σ nx, (∀ env, Q (.pan v) dl ⟨env, σ, nx⟩) → KP v σ nx) →
      areg C H (fun _ => true) ops K KP ops.toList 0 (s.σ.length, s.nx) ⟨s.env, s.σ ++ objs, s.nx + objs.length⟩) : awD C n dl (.seq (.region id ops false) y) Q s :=
  awD_seq (awD_rest fun ds => aw_region hd ho (h _ _ (fun _ h => h) (fun _ _ _ h env => h env)))
end

/-- What a body owes that defers. -/
def DPost (C : Cx) (rs : List ResultVar) (Q : AOut → Sto → Nat → Prop) : AExit → List (FuncId × List AV) → St → Prop
  | .normal, dl, s => LeavesA C rs Q dl none s
  | .ret, dl, s => LeavesA C rs Q dl none s
  | .pan v, dl, s => LeavesA C rs Q dl (some v) s
  | _, _, _ => False
theorem acall_introD {C : Cx} {g : FuncId} {fn : Func} {c : Code} {args : List AV} {σ : Sto} {nx : Nat} (hf : C.P.funcs[g]? = some fn) (hb : fn.body = some c) (hname : (fn.name == "runtime.NumGoroutine") = false) (hn : args.length ≤ fn.ntmps) {Q : AOut → Sto → Nat → Prop}
    (h : awD C fn.ntmps [] c (DPost C fn.results.toList Q) ⟨argEnv args, σ, nx⟩) : ACall C g args σ nx Q := by
  refine fun B kn m w vs hI hr => .inl ⟨bodyOK_mk hf hb hname, ?_⟩
  refine calls_of_wp_defers hf hb (wp_mono (h B kn m _ w (argEnv_rel hr hn) rfl hI) ?_)
  rintro e act' w' ⟨ae, s', kn', m', dl', hx, hE, hD, hI', hk, hkp, hq⟩
  cases e with
  | normal =>
    cases ae <;> first | (simp only [RelExit] at hx; done) | skip
    exact leaves_sound hI.lt dl' none s' _ _ kn' m' w' hD rfl hE hI' hk hkp hq
  | ret =>
    cases ae <;> first | (simp only [RelExit] at hx; done) | skip
    exact leaves_sound hI.lt dl' none s' _ _ kn' m' w' hD rfl hE hI' hk hkp hq
  | panic ch =>
    cases ae <;> first | (simp only [RelExit] at hx; done) | skip
    obtain ⟨u, rfl, hu⟩ := hx
    exact leaves_sound hI.lt dl' (some _) s' _ _ kn' m' w' hD ⟨u, rfl, hu⟩ hE hI' hk hkp hq
  | exit id => cases ae <;> first | (simp only [RelExit] at hx; done) | exact hq.elim
  | goto l => cases ae <;> first | (simp only [RelExit] at hx; done) | exact hq.elim
  | outgrown => cases ae <;> (simp only [RelExit] at hx)
theorem acall_mkD {C : Cx} {g : FuncId} {fn : Func} {c : Code} {args : List AV} {σ : Sto} {nx : Nat} (n : Nat) (rs : List ResultVar) (hf : C.P.funcs[g]? = some fn) (hb : fn.body = some c) (hname : (fn.name == "runtime.NumGoroutine") = false) (hn : fn.ntmps = n) (hr : fn.results.toList = rs) (hl : Nat.ble args.length n = true) {Q : AOut → Sto → Nat → Prop}
    (h : awD C n [] c (DPost C rs Q) ⟨argEnv args, σ, nx⟩) : ACall C g args σ nx Q := by
  subst hn; subst hr
  exact acall_introD hf hb hname (Nat.le_of_ble_eq_true hl) h

/-! ### Closures that recover -/
theorem wpOpsS_cons {P : Program} {ops : Array Oper} {Q : Exit → Act → List Frame → World → Prop} {i : Nat} {rest : List Nat} {a : Act} {cs : List Frame} {w : World} (hno : ¬ LetsOut (fun e a w => Q e a cs w)) (h : wpOp P ops (fun e a w => Q e a cs w) i (fun a w => wpOpsS P ops Q rest a cs w) a w) :
    wpOpsS P ops Q (i :: rest) a cs w := by
  unfold wpOp at h
  simp only [wpOpsS]
  split
  · rename_i e; rw [e] at h; exact h
  · rename_i o e
    rw [e] at h
    simp only at h
    split
    · rename_i hw
      rw [if_pos hw] at h
      rcases h with h | ⟨_, h⟩
      · unfold Oper.wp at h
        split
        · rename_i w' hr; rw [hr] at h; exact h.elim
        · exact h
      · exact absurd h hno
    · rename_i hw; rw [if_neg hw] at h; exact h

section
variable {C : Cx} {B : Base} {n : Nat} {ds : List Deferred} {kn₀ : Kn} {m₀ : Mp} {σ₀ : Sto} {nx₀ : Nat} {ops : Array Oper} {p₀ n₀ : Nat}
theorem aseqS_sound {H : Hints} {tt : Nat → Bool} {K : St → Prop} {KP : AV → Sto → Nat → Prop} (hlt₀ : ∀ (p nm : Nat) (ob : AObj), σ₀[p]? = some (nm, ob) → nm < nx₀)
    (hd : ∀ (i : Nat) (o : Oper) (d : Nat), ops[i]? = some o → o.dst = some d → d < n) {Q : Exit → Act → List Frame → World → Prop} {cs : List Frame} (hno : ¬ LetsOut (fun e a w => Q e a cs w))
    (hend : ∀ s' kn' m' act' w', K s' → RS C B n ds kn₀ m₀ σ₀ nx₀ kn' m' s' act' w' → Q .normal act' cs w')
    (hpan : ∀ v u env' kn' m' σ' nx' act' w', KP v σ' nx' → Rel kn' m' v u → RS C B n ds kn₀ m₀ σ₀ nx₀ kn' m' ⟨env', σ', nx'⟩ act' w' → Q (.panic [{ v := u, recovered := false }]) act' cs w') :
    ∀ (l : List Nat) (listed : Nat → Bool) (s : St) (kn : Kn) (m : Mp) (act : Act) (w : World), l.Nodup → (∀ i ∈ l, listed i = false) → RR C B n ds kn₀ m₀ σ₀ nx₀ ops p₀ n₀ listed kn m s act w → aseq C H tt ops p₀ n₀ K KP l s →
      wpOpsS C.P ops Q l act cs w
  | [], listed, s, kn, m, act, w, _, _, hR, h => by simpa [wpOpsS] using hend s kn m act w h hR.rs
  | i :: rest, listed, s, kn, m, act, w, hnd, hl, hR, h => by
    refine wpOpsS_cons hno (aopAt_sound hlt₀ hd hR (hl i (by simp)) h (fun s' kn' m' act' w' hK hR' => ?_) hpan)
    refine aseqS_sound hlt₀ hd hno hend hpan rest (lput listed i) s' kn' m' act' w' (List.nodup_cons.1 hnd).2 (fun j hj => ?_) hR' hK
    unfold lput
    rw [if_neg (show ¬ j = i from fun e => (List.nodup_cons.1 hnd).1 (by rw [← e]; exact hj))]
    exact hl j (by simp [hj])
end

/-- What the body of a deferred closure owes behind 'recover'. -/
def CPost (C : Cx) (rs : List ResultVar) (R : Option AV → Sto → Nat → Prop) : AExit → St → Prop
  | .normal, s => (∃ r, resA C.P rs s = some r) ∧ R none s.σ s.nx
  | .ret, s => (∃ r, resA C.P rs s = some r) ∧ R none s.σ s.nx
  | _, _ => False
/-- What 'recover' tells. -/
def recA : Option AV → AV
  | none => .base .nilIface
  | some x => x

theorem dcall_mk {C : Cx} (H : Hints) {g : FuncId} {fn : Func} {id : Nat} {ops : Array Oper} {y : Code} {args : List AV} {σ : Sto} {nx : Nat} {u : Option AV} {R : Option AV → Sto → Nat → Prop} (n : Nat) (rs : List ResultVar) (hf : C.P.funcs[g]? = some fn) (hb : fn.body = some (.seq (.region id ops false) y))
    (hname : (fn.name == "runtime.NumGoroutine") = false) (hn : fn.ntmps = n) (hr : fn.results.toList = rs) (hl : Nat.ble args.length n = true)
    {o : Oper} {l : List Oper} {ts : Array TypeId} {objs : Sto} (hol : ops.toList = o :: l) (hop : o.op = .call ⟨.builtin .recover, #[], ts⟩) (hg : o.guard = none) (hd : dstOK n ops = true) (ho : allocObjs C.P ops.toList nx = some objs)
    (h : ∀ (K : St → Prop), (∀ s, aw C n [] y (CPost C rs R) s → K s) → areg C H (fun _ => true) ops K (fun _ _ _ => False) l 1 (σ.length, nx) ⟨updo (argEnv args) o.dst (recA u), σ ++ objs, nx + objs.length⟩) : DCall C g args σ nx u R := by
  subst hn; subst hr
  refine ⟨bodyOK_mk hf hb hname, fun B kn m w vs um hI hrel hmode => ?_⟩
  refine callsD_of_wpS hf hb fun c₀ cs hc₀ => ?_
  refine wpS_seq (wpS_region ?_)
  have hE := argEnv_rel hrel (Nat.le_of_ble_eq_true hl)
  obtain ⟨hI', hk'⟩ := hI.ahead ho
  have hsz : ops.size = l.length + 1 := by rw [← Array.length_toList, hol]; simp
  have h0 : ops[0]? = some o := by rw [← Array.getElem?_toList, hol]; simp
  have hrange : List.range ops.size = 0 :: List.range' 1 l.length := by
    rw [hsz, List.range_eq_range', List.range'_succ]
  rw [hrange]
  simp only [wpOpsS, h0]
  have hwt : ∀ ts, Region.wanted o (yielded ops ts) = true := fun ts => by unfold Region.wanted; rw [hg]
  rw [if_pos (hwt _)]
  have hexec : ∀ (a : Act) (w : World), (execOp a.eval o).run C.P w = .ok .recover w := by
    intro a w
    obtain ⟨dst, op, type, pos, after, guard⟩ := o
    simp only at hop
    subst hop
    rfl
  rw [hexec]
  simp only
  have hrk : rk ops.toList 1 = 0 := by rw [hol]; simp [rk, hop, isAlloc]
  -- what stands behind, whatever was recovered
  have key : ∀ (rv : Value) (u' : FrameMode), Rel kn m (recA u) rv → settle u' = .returning →
      wpOpsS C.P ops (Exit.thenS (y.wpS C.P (bodyPostS C.P fn c₀ cs fun e u' w' => (∃ v, e = .returned v) ∧ ∃ x kn' m' σ' nx', R x σ' nx' ∧ RelMode kn' m' x (settle u') ∧ KnLe kn kn' ∧ Inv C B kn' m' σ' nx' w' ∧ Keep m σ nx m' σ' nx'))
        (bodyPostS C.P fn c₀ cs fun e u' w' => (∃ v, e = .returned v) ∧ ∃ x kn' m' σ' nx', R x σ' nx' ∧ RelMode kn' m' x (settle u') ∧ KnLe kn kn' ∧ Inv C B kn' m' σ' nx' w' ∧ Keep m σ nx m' σ' nx')) (List.range' 1 l.length)
        (({ tmps := vs.toArray ++ Array.replicate (fn.ntmps - vs.toArray.size) undef, defers := [] } : Act).put o.dst rv) ({ c₀ with mode := u' } :: cs) w := by
    intro rv u' hrv hset
    have hs := aseq_of_areg' (C := C) (H := H) (ops := ops) (p₀ := σ.length) (n₀ := nx) l 1 ⟨updo (argEnv args) o.dst (recA u), σ ++ objs, nx + objs.length⟩ (fun j hj => by rw [← Array.getElem?_toList, hol, Nat.add_comm 1 j]; simp) (by rw [hrk]; exact h _ (fun s hs => hs))
    refine aseqS_sound (KP := fun _ _ _ => False) (B := B) (n := fn.ntmps) (ds := []) (kn₀ := kn) (m₀ := m) (σ₀ := σ) (nx₀ := nx) hI.lt (dstOK_sound hd) ?_ (fun s' kn' m' act' w' hK hR => ?_) (fun _ _ _ _ _ _ _ _ _ hf => hf.elim)
      (List.range' 1 l.length) (fun j => decide (j = 0)) ⟨updo (argEnv args) o.dst (recA u), σ ++ objs, nx + objs.length⟩ kn m _ w List.nodup_range' (fun i hi => by have := List.mem_range'_1.1 hi; simp; omega) ⟨⟨hE.put o.dst (fun d => dstOK_sound hd _ _ d h0) hrv, by cases o.dst <;> rfl, hI', KnLe.refl _, hk'⟩, ?_⟩ hs
    · rintro ⟨a, w, u'', hq, _⟩
      simp at hq
    · refine wpS_of_wp (wp_mono (hK B kn' m' act' w' hR.env hR.defs hR.inv) ?_)
      rintro e act2 w2 ⟨ae, s2, kn2, m2, hx, hR2, hq⟩
      have fin : (∃ r, resA C.P fn.results.toList s2 = some r) ∧ R none s2.σ s2.nx → act2.defers = [] ∧ ∃ u'', ({ c₀ with mode := u' } :: cs : List Frame) = { c₀ with mode := u'' } :: cs ∧ ∃ v, (results fn act2.tmps).run C.P w2 = .ok v w2 ∧ (∃ v', Ending.returned v = .returned v') ∧ ∃ x kn' m' σ' nx', R x σ' nx' ∧ RelMode kn' m' x (settle u'') ∧ KnLe kn kn' ∧ Inv C B kn' m' σ' nx' w2 ∧ Keep m σ nx m' σ' nx' := by
        rintro ⟨⟨r, hr⟩, hRn⟩
        obtain ⟨v, q1, q2⟩ := results_sound hR2.inv hR2.env hr
        exact ⟨hR2.defs, u', rfl, v, q1, ⟨v, rfl⟩, none, kn2, m2, s2.σ, s2.nx, hRn, hset, hR.knle.trans hR2.knle, hR2.inv, hR.keep.trans hR2.keep hI.lt⟩
      cases e with
      | normal => cases ae <;> first | (simp only [RelExit] at hx; done) | exact fin hq
      | ret => cases ae <;> first | (simp only [RelExit] at hx; done) | exact fin hq
      | panic ch => cases ae <;> first | (simp only [RelExit] at hx; done) | exact hq.elim
      | exit id => cases ae <;> first | (simp only [RelExit] at hx; done) | exact hq.elim
      | goto l => cases ae <;> first | (simp only [RelExit] at hx; done) | exact hq.elim
      | outgrown => cases ae <;> (simp only [RelExit] at hx)
    · intro j o' T hj hT hlj
      obtain ⟨z, hz, hgt⟩ := allocObjs_get ho (j := j) (by simpa using hj) hT
      refine ⟨hI.dom _ (Nat.le_add_right _ _), ?_, Nat.le_add_right _ _, z, hz, ?_⟩
      · have := (List.getElem?_eq_some_iff.1 hgt).1; simp; omega
      · rw [List.getElem?_append_right (Nat.le_add_right _ _), Nat.add_sub_cancel_left]; exact hgt
  cases u with
  | none =>
    simp only [RelMode] at hmode
    subst hmode
    have hrec : recoverD (c₀ :: cs) = none := by simp only [recoverD, hc₀]
    rw [hrec]
    have hsame : ({ c₀ with mode := .returning } : Frame) = c₀ := by rw [← hc₀]
    have := key .nilIface .returning (.base _) rfl
    rw [hsame] at this
    exact this
  | some x =>
    obtain ⟨v, rfl, hv⟩ := hmode
    have hrec : recoverD (c₀ :: cs) = some (v, { c₀ with mode := .panicking [{ v := v, recovered := true }] } :: cs) := by simp only [recoverD, hc₀]
    rw [hrec]
    exact key v (.panicking [{ v := v, recovered := true }]) hv rfl
end Go.Ab

/-
  REGIONS THAT DRAW THEIR ORDER, by an order of one's own choice: rules for walks.
-/
set_option linter.unusedVariables false
set_option linter.unusedSimpArgs false
namespace Go.Ab
open Go Go.RowKit
section
variable {C : Cx} {n : Nat} {ds : List Deferred} {Q : AExit → St → Prop} {s : St} {id : Nat} {ops : Array Oper} {y : Code} {objs : Sto}
theorem aw_spdraw (H : Hints) (tl ms π : List Nat) (hm : C.P.follows .mixedOrders = true) (hB : permOK C.P H tl ops ms π = true) (hd : dstOK n ops = true) (ho : allocObjs C.P ops.toList s.nx = some objs) {l : List Oper} (hl : π.filterMap (ops[·]?) = l)
    (h : ∀ (K : St → Prop) (KP : AV → Sto → Nat → Prop), (∀ s, aw C n ds y Q s → K s) → (∀ v σ nx, (∀ env, Q (.pan v) ⟨env, σ, nx⟩) → KP v σ nx) →
      areg C H (fun i => tl.contains i) ops K KP l 0 (s.σ.length, s.nx) ⟨s.env, s.σ ++ objs, s.nx + objs.length⟩) : aw C n ds (.seq (.region id ops true) y) Q s :=
  aw_seq (aw_pdraw hm hB hd ho hl (h _ _ (fun _ h => h) (fun _ _ _ h env => h env)))
theorem aw_lpdraw (H : Hints) (tl ms π : List Nat) (hm : C.P.follows .mixedOrders = true) (hB : permOK C.P H tl ops ms π = true) (hd : dstOK n ops = true) (ho : allocObjs C.P ops.toList s.nx = some objs) {l : List Oper} (hl : π.filterMap (ops[·]?) = l)
    (h : ∀ (K : St → Prop) (KP : AV → Sto → Nat → Prop), (∀ s, Q .normal s → K s) → (∀ v σ nx, (∀ env, Q (.pan v) ⟨env, σ, nx⟩) → KP v σ nx) →
      areg C H (fun i => tl.contains i) ops K KP l 0 (s.σ.length, s.nx) ⟨s.env, s.σ ++ objs, s.nx + objs.length⟩) : aw C n ds (.region id ops true) Q s :=
  aw_pdraw hm hB hd ho hl (h _ _ (fun _ h => h) (fun _ _ _ h env => h env))
end

/-! ### What is owed behind deferred calls -/
@[go_sem] theorem CPost_nil_ret (C : Cx) (R : Option AV → Sto → Nat → Prop) (env : Nat → AV) (σ : Sto) (nx : Nat) : CPost C [] R .ret ⟨env, σ, nx⟩ ↔ R none σ nx := ⟨fun h => h.2, fun h => ⟨⟨.tup [], rfl⟩, h⟩⟩
@[go_sem] theorem CPost_nil_normal (C : Cx) (R : Option AV → Sto → Nat → Prop) (env : Nat → AV) (σ : Sto) (nx : Nat) : CPost C [] R .normal ⟨env, σ, nx⟩ ↔ R none σ nx := ⟨fun h => h.2, fun h => ⟨⟨.tup [], rfl⟩, h⟩⟩
@[go_sem] theorem DPost_ret (C : Cx) (rs : List ResultVar) (Q : AOut → Sto → Nat → Prop) (dl : List (FuncId × List AV)) (s : St) : DPost C rs Q .ret dl s ↔ LeavesA C rs Q dl none s := Iff.rfl
@[go_sem] theorem DPost_normal (C : Cx) (rs : List ResultVar) (Q : AOut → Sto → Nat → Prop) (dl : List (FuncId × List AV)) (s : St) : DPost C rs Q .normal dl s ↔ LeavesA C rs Q dl none s := Iff.rfl
@[go_sem] theorem DPost_pan (C : Cx) (rs : List ResultVar) (Q : AOut → Sto → Nat → Prop) (dl : List (FuncId × List AV)) (s : St) (v : AV) : DPost C rs Q (.pan v) dl s ↔ LeavesA C rs Q dl (some v) s := Iff.rfl
/-- One deferred call of one outcome, and the results. -/
theorem leaves_one {C : Cx} {rs : List ResultVar} {Q : AOut → Sto → Nat → Prop} {g : FuncId} {ags : List AV} {u : Option AV} {env : Nat → AV} {σ σ1 : Sto} {nx : Nat} (h : DCall C g ags σ nx u (fun u' σ' _ => u' = none ∧ σ' = σ1)) (hk : ∀ nx1, afin σ1 nx1 Q (resA C.P rs ⟨env, σ1, nx1⟩)) : LeavesA C rs Q [(g, ags)] u ⟨env, σ, nx⟩ := by
  refine ⟨_, h, ?_⟩
  rintro u' σ' nx' ⟨rfl, rfl⟩
  exact (afin_iff _ _ _ _).1 (hk nx')

/-! ### What is nil of an interface, a function, a pointer, a map -/
def isIfcT (P : Program) (t : TypeId) : Bool := match P.underlying t with | some (.interface _) => true | _ => false
def isFncT (P : Program) (t : TypeId) : Bool := match P.underlying t with | some (.func _ _ _) => true | _ => false
@[go_sem high] theorem nilTest_iface {P : Program} {t : TypeId} (h : isIfcT P t = true) (a : TypeId) (v : AV) : nilTest P t (.iface a v) = some false := by
  unfold isIfcT at h
  unfold nilTest
  split at h
  · rename_i m e; rw [e]; rfl
  · cases h
@[go_sem high] theorem nilTest_nilIface {P : Program} {t : TypeId} (h : isIfcT P t = true) : nilTest P t (.base .nilIface) = some true := by
  unfold isIfcT at h
  unfold nilTest
  split at h
  · rename_i m e; rw [e]; rfl
  · cases h
@[go_sem high] theorem nilTest_fn {P : Program} {t : TypeId} (h : isFncT P t = true) (f : Fn) (a c : List AV) : nilTest P t (.fn f a c) = some false := by
  unfold isFncT at h
  unfold nilTest
  split at h
  · rename_i m e; rw [e]; rfl
  · cases h
@[go_sem high] theorem nilTest_nilFunc {P : Program} {t : TypeId} (h : isFncT P t = true) : nilTest P t (.base .nilFunc) = some true := by
  unfold isFncT at h
  unfold nilTest
  split at h
  · rename_i m e; rw [e]; rfl
  · cases h

/-! ### Places behind a store that is not told -/
@[go_sem] theorem sto_assoc (a b c : Sto) : a ++ b ++ c = a ++ (b ++ c) := List.append_assoc a b c
theorem sget_appk (σ l : Sto) (k n : Nat) : sget (σ ++ l) (σ.length + k) n = sget l k n := by unfold sget; rw [List.getElem?_append_right (by omega), Nat.add_sub_cancel_left]
@[go_sem] theorem sget_app0 (σ l : Sto) (n : Nat) : sget (σ ++ l) (σ.length) n = sget l 0 n := sget_appk σ l 0 n
@[go_sem] theorem sget_app1 (σ l : Sto) (n : Nat) : sget (σ ++ l) (σ.length + 1) n = sget l 1 n := sget_appk σ l 1 n
@[go_sem] theorem sget_app2 (σ l : Sto) (n : Nat) : sget (σ ++ l) (σ.length + 1 + 1) n = sget l 2 n := sget_appk σ l 2 n
@[go_sem] theorem sget_app3 (σ l : Sto) (n : Nat) : sget (σ ++ l) (σ.length + 1 + 1 + 1) n = sget l 3 n := sget_appk σ l 3 n
@[go_sem] theorem sget_app4 (σ l : Sto) (n : Nat) : sget (σ ++ l) (σ.length + 1 + 1 + 1 + 1) n = sget l 4 n := sget_appk σ l 4 n
@[go_sem] theorem set_app1 (σ l : Sto) (x : Nat × AObj) : (σ ++ l).set (σ.length + 1) x = σ ++ l.set 1 x := by rw [List.set_append_right _ _ (by omega)]; congr 2; omega
@[go_sem] theorem set_app2 (σ l : Sto) (x : Nat × AObj) : (σ ++ l).set (σ.length + 1 + 1) x = σ ++ l.set 2 x := by rw [List.set_append_right _ _ (by omega)]; congr 2; omega
@[go_sem] theorem set_app3 (σ l : Sto) (x : Nat × AObj) : (σ ++ l).set (σ.length + 1 + 1 + 1) x = σ ++ l.set 3 x := by rw [List.set_append_right _ _ (by omega)]; congr 2; omega
@[go_sem] theorem set_app4 (σ l : Sto) (x : Nat × AObj) : (σ ++ l).set (σ.length + 1 + 1 + 1 + 1) x = σ ++ l.set 4 x := by rw [List.set_append_right _ _ (by omega)]; congr 2; omega
end Go.Ab

set_option linter.unusedVariables false
set_option linter.unusedSimpArgs false
namespace Go.Ab
open Go Go.RowKit

def Agr (D : List Nat) (a a' : Act) : Prop := ∀ t, t ∉ D → a'.tmps.getD t undef = a.tmps.getD t undef
theorem Agr.put {D : List Nat} {a a' : Act} (h : Agr D a a') {dst : Option Tmp} (hd : ∀ d, dst = some d → d ∈ D) (v : Value) : Agr D a (a'.put dst v) := by
  intro t ht
  rw [← h t ht]
  cases dst with
  | none => rfl
  | some d =>
    have hne : d ≠ t := fun e => ht (e ▸ hd d rfl)
    simp only [Act.put, Array.getD_eq_getD_getElem?]
    rw [Array.getElem?_setIfInBounds_ne hne]
def QF (D : List Nat) (a₀ : Act) (Q : Exit → Act → World → Prop) : Exit → Act → World → Prop := fun e a w => Q e a w ∧ (e ≠ .outgrown → Agr D a₀ a)
section
variable {P : Program} {ops : Array Oper} {Q : Exit → Act → World → Prop} {D : List Nat} {a₀ : Act}
theorem QF.lets (h : LetsOut Q) : LetsOut (QF D a₀ Q) := let ⟨a, w, h⟩ := h; ⟨a, w, h, fun h => absurd rfl h⟩
theorem wpOp_frame (hD : ∀ (i : Nat) (o : Oper) (d : Nat), ops[i]? = some o → o.dst = some d → d ∈ D) {i : Nat} {K K' : Act → World → Prop} {a : Act} {w : World} (hag : Agr D a₀ a) (h : wpOp P ops Q i K a w) (hk : ∀ a' w', Agr D a₀ a' → K a' w' → K' a' w') :
    wpOp P ops (QF D a₀ Q) i K' a w := by
  unfold wpOp at h ⊢
  split
  · rename_i e; rw [e] at h; exact hk _ _ hag h
  · rename_i o e
    rw [e] at h
    simp only at h
    have hd := fun d => hD i o d e
    split
    · rename_i hw
      rw [if_pos hw] at h
      rcases h with h | ⟨h1, h2⟩
      · refine .inl ?_
        unfold Oper.wp at h ⊢
        generalize (execOp a.eval o).run P w = r at h ⊢
        unfold Oper.upon at h ⊢
        split at h
        · exact hk _ _ (hag.put hd _) h
        · exact hk _ _ (hag.put hd _) h
        · exact hk _ _ (Agr.put (a' := { a with defers := _ :: a.defers }) hag hd _) h
        · refine h.mono fun e w' he => ?_
          cases e with
          | returned v => exact hk _ _ (hag.put hd _) he
          | panicked ch => exact ⟨he, fun _ => hag⟩
          | outgrown => exact QF.lets he
        · exact Rows.mono h fun v w' he => hk _ _ (hag.put hd _) he
        · exact ⟨h, fun _ => hag⟩
        · exact h.elim
      · exact .inr ⟨h1, QF.lets h2⟩
    · rename_i hw
      rw [if_neg hw] at h
      exact hk _ _ (hag.put hd _) h
theorem wpOps_frame (hD : ∀ (i : Nat) (o : Oper) (d : Nat), ops[i]? = some o → o.dst = some d → d ∈ D) : ∀ (l : List Nat) (a : Act) (w : World), Agr D a₀ a → wpOps P ops Q l a w → wpOps P ops (QF D a₀ Q) l a w
  | [], a, w, hag, h => ⟨h, fun _ => hag⟩
  | i :: rest, a, w, hag, h => by
    rw [wpOps_cons] at h ⊢
    exact wpOp_frame hD hag h fun a' w' ha hh => wpOps_frame hD rest a' w' ha hh
theorem wpAny_frame {md : Region.Mode} (hD : ∀ (i : Nat) (o : Oper) (d : Nat), ops[i]? = some o → o.dst = some d → d ∈ D) : ∀ (fuel : Nat) (listed : Array Bool) (a : Act) (w : World), Agr D a₀ a → wpAny P md ops Q fuel listed a w → wpAny P md ops (QF D a₀ Q) fuel listed a w
  | 0, listed, a, w, hag, h => ⟨h.1, h.2, fun _ => hag⟩
  | fuel + 1, listed, a, w, hag, h => ⟨fun e => ⟨h.1 e, fun _ => hag⟩, fun i hi => wpOp_frame hD hag (h.2 i hi) fun a' w' ha hh => wpAny_frame hD fuel _ a' w' ha hh⟩
end

@[go_sem] theorem leavesA_nil (C : Cx) (rs : List ResultVar) (Q : AOut → Sto → Nat → Prop) (env : Nat → AV) (σ : Sto) (nx : Nat) : LeavesA C rs Q [] none ⟨env, σ, nx⟩ ↔ afin σ nx Q (resA C.P rs ⟨env, σ, nx⟩) := (afin_iff _ _ _ _).symm
@[go_sem] theorem leavesA_pan (C : Cx) (rs : List ResultVar) (Q : AOut → Sto → Nat → Prop) (v : AV) (env : Nat → AV) (σ : Sto) (nx : Nat) : LeavesA C rs Q [] (some v) ⟨env, σ, nx⟩ ↔ Q (.pan v) σ nx := Iff.rfl
attribute [go_sem] Int.cast_ofNat_Int Int.reduceNeg
def dstsOf (ops : Array Oper) : List Nat := ops.toList.filterMap (·.dst)
theorem dstsOf_spec (ops : Array Oper) : ∀ (i : Nat) (o : Oper) (d : Nat), ops[i]? = some o → o.dst = some d → d ∈ dstsOf ops := fun i o d hi hd =>
  List.mem_filterMap.2 ⟨o, List.mem_of_getElem? (by simpa using hi), hd⟩

section
variable {C : Cx} {n : Nat} {ds : List Deferred} {Q : AExit → St → Prop} {s : St} {id : Nat} {ops : Array Oper} {y : Code} {objs : Sto} {H : Hints}
/-- What follows a region; a panic is told whatever the region wrote. -/
def QE (D : List Nat) (s : St) (Q : AExit → St → Prop) : AExit → St → Prop
  | .pan v, s' => ∀ env, (∀ t, t ∉ D → env t = s.env t) → Q (.pan v) ⟨env, s'.σ, s'.nx⟩
  | e, s' => Q e s'
/-- What the region's operations owe, as a weakest precondition. -/
theorem QE_done {B : Base} {kn : Kn} {m : Mp} {act : Act} {D : List Nat} (h1 : RelEnv kn m s.env n act) (h3 : ∀ kn' m', KnLe kn kn' → Keep m s.σ s.nx m' s.σ s.nx → True) {e : Exit} {act' : Act} {w w' : World} (hI : Inv C B kn m s.σ s.nx w)
    (h : QF D act (fun e act' w' => ∃ ae s' kn' m', RelExit kn' m' ae e ∧ RS C B n ds kn m s.σ s.nx kn' m' s' act' w' ∧ QE D s Q ae s') e act' w') : ∃ ae s' kn' m', RelExit kn' m' ae e ∧ RS C B n ds kn m s.σ s.nx kn' m' s' act' w' ∧ Q ae s' := by
  obtain ⟨⟨ae, s', kn', m', hx, hR, hq⟩, hag⟩ := h
  cases ae with
  | pan v =>
    have hne : e ≠ .outgrown := by rintro rfl; simp [RelExit] at hx
    have hag := hag hne
    refine ⟨.pan v, ⟨fun t => if t ∈ D then s'.env t else s.env t, s'.σ, s'.nx⟩, kn', m', hx, ⟨⟨hR.env.size, fun t => ?_⟩, hR.defs, hR.inv, hR.knle, hR.keep⟩, hq _ fun t ht => if_neg ht⟩
    by_cases ht : t ∈ D
    · simp only [if_pos ht]; exact hR.env.tmp t
    · simp only [if_neg ht]; rw [hag t ht]; exact (h1.tmp t).mono hR.knle (hR.keep.mple hI)
  | normal => exact ⟨_, s', kn', m', hx, hR, hq⟩
  | exit i => exact ⟨_, s', kn', m', hx, hR, hq⟩
  | goto i => exact ⟨_, s', kn', m', hx, hR, hq⟩
  | ret => exact ⟨_, s', kn', m', hx, hR, hq⟩

theorem aw_regionE (hd : dstOK n ops = true) (ho : allocObjs C.P ops.toList s.nx = some objs)
    (h : areg C H (fun _ => true) ops (Q .normal) (fun v σ nx => ∀ env, (∀ t, t ∉ dstsOf ops → env t = s.env t) → Q (.pan v) ⟨env, σ, nx⟩) ops.toList 0 (s.σ.length, s.nx) ⟨s.env, s.σ ++ objs, s.nx + objs.length⟩) : aw C n ds (.region id ops false) Q s := by
  intro B kn m act w h1 h2 h3
  obtain ⟨hI', hk'⟩ := h3.ahead ho
  refine wp_mono (Q := QF (dstsOf ops) act (fun e act' w' => ∃ ae s' kn' m', RelExit kn' m' ae e ∧ RS C B n ds kn m s.σ s.nx kn' m' s' act' w' ∧ QE (dstsOf ops) s Q ae s')) (wp_region (wpOps_frame (dstsOf_spec ops) _ _ _ (fun _ _ => rfl) ?_)) (fun e a w' hq => QE_done h1 (fun _ _ _ _ => trivial) h3 hq)
  have hs := aseq_of_areg (ops := ops) (p₀ := s.σ.length) (n₀ := s.nx) ops.toList 0 ⟨s.env, s.σ ++ objs, s.nx + objs.length⟩ (fun j => by simp) (by simpa [rk] using h)
  have hrange : List.range' 0 ops.toList.length = List.range ops.size := by rw [List.range_eq_range']; simp
  rw [hrange] at hs
  refine aseq_sound (KP := fun v σ nx => ∀ env, (∀ t, t ∉ dstsOf ops → env t = s.env t) → Q (.pan v) ⟨env, σ, nx⟩) (K := Q .normal) (B := B) (n := n) (ds := ds) (kn₀ := kn) (m₀ := m) (σ₀ := s.σ) (nx₀ := s.nx) h3.lt (dstOK_sound hd) (fun s' kn' m' act' w' hK hR => ⟨.normal, s', kn', m', trivial, hR, hK⟩)
    (fun v u env' kn' m' σ' nx' act' w' hKP hv hR => ⟨.pan v, ⟨env', σ', nx'⟩, kn', m', ⟨u, rfl, hv⟩, hR, hKP⟩) (List.range ops.size) (fun _ => false) ⟨s.env, s.σ ++ objs, s.nx + objs.length⟩ kn m act w List.nodup_range (fun _ _ => rfl) ⟨⟨h1, h2, hI', KnLe.refl _, hk'⟩, ?_⟩ hs
  intro j o T hj hT _
  obtain ⟨z, hz, hg⟩ := allocObjs_get ho (j := j) (by simpa using hj) hT
  refine ⟨h3.dom _ (Nat.le_add_right _ _), ?_, Nat.le_add_right _ _, z, hz, ?_⟩
  · have := (List.getElem?_eq_some_iff.1 hg).1; simp; omega
  · rw [List.getElem?_append_right (Nat.le_add_right _ _), Nat.add_sub_cancel_left]; exact hg
theorem aw_pdrawE {tl ms π : List Nat} {l : List Oper} (hm : C.P.follows .mixedOrders = true) (hB : permOK C.P H tl ops ms π = true) (hd : dstOK n ops = true) (ho : allocObjs C.P ops.toList s.nx = some objs) (hl : π.filterMap (ops[·]?) = l)
    (h : areg C H (fun i => tl.contains i) ops (Q .normal) (fun v σ nx => ∀ env, (∀ t, t ∉ dstsOf ops → env t = s.env t) → Q (.pan v) ⟨env, σ, nx⟩) l 0 (s.σ.length, s.nx) ⟨s.env, s.σ ++ objs, s.nx + objs.length⟩) : aw C n ds (.region id ops true) Q s := by
  subst hl
  have hP := permOK_spec hB
  intro B kn m act w h1 h2 h3
  obtain ⟨hI', hk'⟩ := h3.ahead ho
  have hs := aseq_of_pareg (p₀ := s.σ.length) (n₀ := s.nx) hP π [] ⟨s.env, s.σ ++ objs, s.nx + objs.length⟩ rfl h
  have ha := aAny_perm hP π [] _ rfl hs
  rw [hP.len] at ha
  refine wp_mono (Q := QF (dstsOf ops) act (fun e act' w' => ∃ ae s' kn' m', RelExit kn' m' ae e ∧ RS C B n ds kn m s.σ s.nx kn' m' s' act' w' ∧ QE (dstsOf ops) s Q ae s')) (wp_region_any hm (wpAny_frame (dstsOf_spec ops) _ _ _ _ (fun _ _ => rfl) ?_)) (fun e a w' hq => QE_done h1 (fun _ _ _ _ => trivial) h3 hq)
  rw [setL_nil]
  refine aAny_sound (KP := fun v σ nx => ∀ env, (∀ t, t ∉ dstsOf ops → env t = s.env t) → Q (.pan v) ⟨env, σ, nx⟩) (K := Q .normal) (B := B) (n := n) (ds := ds) (kn₀ := kn) (m₀ := m) (σ₀ := s.σ) (nx₀ := s.nx) h3.lt (dstOK_sound hd) (fun s' kn' m' act' w' hK hR => ⟨.normal, s', kn', m', trivial, hR, hK⟩)
    (fun v u env' kn' m' σ' nx' act' w' hKP hv hR => ⟨.pan v, ⟨env', σ', nx'⟩, kn', m', ⟨u, rfl, hv⟩, hR, hKP⟩) ops.size (setL ops.size []) ⟨s.env, s.σ ++ objs, s.nx + objs.length⟩ kn m act _ ⟨⟨h1, h2, hI'.drew, KnLe.refl _, hk'⟩, ?_⟩ ha
  intro j o T hj hT _
  obtain ⟨z, hz, hg⟩ := allocObjs_get ho (j := j) (by simpa using hj) hT
  refine ⟨h3.dom _ (Nat.le_add_right _ _), ?_, Nat.le_add_right _ _, z, hz, ?_⟩
  · have := (List.getElem?_eq_some_iff.1 hg).1; simp; omega
  · rw [List.getElem?_append_right (Nat.le_add_right _ _), Nat.add_sub_cancel_left]; exact hg
theorem aw_sregE (H : Hints) (hd : dstOK n ops = true) (ho : allocObjs C.P ops.toList s.nx = some objs)
    (h : ∀ (K : St → Prop) (KP : AV → Sto → Nat → Prop), (∀ s, aw C n ds y Q s → K s) → (∀ v σ nx, (∀ env, (∀ t, t ∉ dstsOf ops → env t = s.env t) → Q (.pan v) ⟨env, σ, nx⟩) → KP v σ nx) →
      areg C H (fun _ => true) ops K KP ops.toList 0 (s.σ.length, s.nx) ⟨s.env, s.σ ++ objs, s.nx + objs.length⟩) : aw C n ds (.seq (.region id ops false) y) Q s :=
  aw_seq (aw_regionE hd ho (h _ _ (fun _ h => h) (fun _ _ _ h env => h env)))
theorem aw_lregE (H : Hints) (hd : dstOK n ops = true) (ho : allocObjs C.P ops.toList s.nx = some objs)
    (h : ∀ (K : St → Prop) (KP : AV → Sto → Nat → Prop), (∀ s, Q .normal s → K s) → (∀ v σ nx, (∀ env, (∀ t, t ∉ dstsOf ops → env t = s.env t) → Q (.pan v) ⟨env, σ, nx⟩) → KP v σ nx) →
      areg C H (fun _ => true) ops K KP ops.toList 0 (s.σ.length, s.nx) ⟨s.env, s.σ ++ objs, s.nx + objs.length⟩) : aw C n ds (.region id ops false) Q s :=
  aw_regionE hd ho (h _ _ (fun _ h => h) (fun _ _ _ h env => h env))
theorem aw_spdrawE (H : Hints) (tl ms π : List Nat) (hm : C.P.follows .mixedOrders = true) (hB : permOK C.P H tl ops ms π = true) (hd : dstOK n ops = true) (ho : allocObjs C.P ops.toList s.nx = some objs) {l : List Oper} (hl : π.filterMap (ops[·]?) = l)
    (h : ∀ (K : St → Prop) (KP : AV → Sto → Nat → Prop), (∀ s, aw C n ds y Q s → K s) → (∀ v σ nx, (∀ env, (∀ t, t ∉ dstsOf ops → env t = s.env t) → Q (.pan v) ⟨env, σ, nx⟩) → KP v σ nx) →
      areg C H (fun i => tl.contains i) ops K KP l 0 (s.σ.length, s.nx) ⟨s.env, s.σ ++ objs, s.nx + objs.length⟩) : aw C n ds (.seq (.region id ops true) y) Q s :=
  aw_seq (aw_pdrawE hm hB hd ho hl (h _ _ (fun _ h => h) (fun _ _ _ h env => h env)))
theorem aw_lpdrawE (H : Hints) (tl ms π : List Nat) (hm : C.P.follows .mixedOrders = true) (hB : permOK C.P H tl ops ms π = true) (hd : dstOK n ops = true) (ho : allocObjs C.P ops.toList s.nx = some objs) {l : List Oper} (hl : π.filterMap (ops[·]?) = l)
    (h : ∀ (K : St → Prop) (KP : AV → Sto → Nat → Prop), (∀ s, Q .normal s → K s) → (∀ v σ nx, (∀ env, (∀ t, t ∉ dstsOf ops → env t = s.env t) → Q (.pan v) ⟨env, σ, nx⟩) → KP v σ nx) →
      areg C H (fun i => tl.contains i) ops K KP l 0 (s.σ.length, s.nx) ⟨s.env, s.σ ++ objs, s.nx + objs.length⟩) : aw C n ds (.region id ops true) Q s :=
  aw_pdrawE hm hB hd ho hl (h _ _ (fun _ h => h) (fun _ _ _ h env => h env))
end
end Go.Ab
