/-
  WHAT SIMP UNFOLDS IN A WALK.
-/
import Derived.Test.YtmompmackgknbaaDoorAb16
set_option linter.unusedVariables false
set_option linter.unusedSimpArgs false
namespace Go.Ab
open Go Go.RowKit

attribute [go_sem] fadA fieldA indexA bndA empA sliceish bfun maxA storeA spliceA extA nilckA assertA abinInt abinStr aun aconv isNilConst fillA bslF bslE bslA makeA rowsA rangeA nextA
section
variable {P : Program} {T t : TypeId} {σ : Sto} {k : IntKind} {n : Int}
@[go_sem] theorem sget_zero (n m : Nat) (o : AObj) (r : Sto) : sget ((n, o) :: r) 0 m = if n = m then some o else none := rfl
@[go_sem] theorem sget_succ (p m : Nat) (a : Nat × AObj) (r : Sto) : sget (a :: r) (p + 1) m = sget r p m := by simp [sget]
@[go_sem] theorem readA_rptr (cs : List AV) : readA P T σ (.rptr cs) = loadC P T cs := rfl
@[go_sem] theorem readA_ref (p m off : Nat) : readA P T σ (.ref p m off) = match sget σ p m with
    | some (.cells _ cs) => loadC P T (cs.drop off)
    | _ => none := rfl
@[go_sem] theorem readA_eref (p m i off : Nat) : readA P T σ (.eref p m i off) = match sget σ p m with
    | some (.gvec _ _ rows) => match rows[i]? with
      | some row => loadC P T (row.drop off)
      | none => none
    | _ => none := rfl
@[go_sem low] theorem loadC_eq (cs : List AV) : loadC P T cs = match aggT P T, szT P T with
  | some true, some n => if n ≤ cs.length then some (.agg (cs.take n)) else none
  | some false, _ => cs.head?
  | _, _ => none := rfl
@[go_sem] theorem lenA_str (l : List UInt8) : lenA P t (.str l) = if strT P t = true then some (.int .i64 l.length) else none := rfl
@[go_sem] theorem lenA_vec (e : Nat) (rows : List (List AV)) : lenA P t (.vec e rows) = if slcT P t = true then some (.int .i64 rows.length) else none := rfl
@[go_sem] theorem lenA_sref (p m e o l : Nat) : lenA P t (.sref p m e o l) = if slcT P t = true then some (.int .i64 l) else none := rfl
@[go_sem] theorem lenA_emp : lenA P t .emp = if slcT P t = true then some (.int .i64 0) else none := rfl
@[go_sem] theorem lenA_nil : lenA P t (.base (.slice none 0 0)) = if slcT P t = true then some (.int .i64 0) else none := rfl
@[go_sem] theorem idxA_vec (e : Nat) (rows : List (List AV)) : idxA P t (.vec e rows) (.int k n) = match elmT P t with
    | some (_, sz, _) => if e = sz ∧ 0 ≤ n ∧ n < rows.length then some (.rptr (rows.getD n.toNat [])) else none
    | none => none := by
  unfold idxA
  cases elmT P t with
  | some q => rfl
  | none => simp only; cases arrT P t with
    | none => rfl
    | some q => simp only; split <;> rfl
@[go_sem] theorem idxA_sref (p m e o l : Nat) : idxA P t (.sref p m e o l) (.int k n) = match elmT P t with
    | some (_, sz, _) => if e = sz ∧ 0 ≤ n ∧ n < l then some (.eref p m (o + n.toNat) 0) else none
    | none => none := by
  unfold idxA
  cases elmT P t with
  | some q => rfl
  | none => simp only; cases arrT P t with
    | none => rfl
    | some q => simp only; split <;> rfl
@[go_sem] theorem idxA_rptr (cs : List AV) : idxA P t (.rptr cs) (.int k n) = match elmT P t, arrT P t with
    | none, some (len, _, sz) => if 0 ≤ n ∧ n < len then some (.rptr (cs.drop (n.toNat * sz))) else none
    | _, _ => none := by
  unfold idxA
  cases elmT P t <;> cases arrT P t <;> rfl
@[go_sem] theorem idxA_ref (p m o : Nat) : idxA P t (.ref p m o) (.int k n) = match elmT P t, arrT P t with
    | none, some (len, _, sz) => if 0 ≤ n ∧ n < len then some (.ref p m (o + n.toNat * sz)) else none
    | _, _ => none := by
  unfold idxA
  cases elmT P t <;> cases arrT P t <;> rfl
@[go_sem] theorem cellsA_int : cellsA (.int k n) = some [.int k n] := rfl
@[go_sem] theorem cellsA_bool (b : Bool) : cellsA (.bool b) = some [.bool b] := rfl
@[go_sem] theorem cellsA_str (l : List UInt8) : cellsA (.str l) = some [.str l] := rfl
@[go_sem] theorem cellsA_agg (l : List AV) : cellsA (.agg l) = some l := rfl
@[go_sem] theorem cellsA_vec (e : Nat) (l : List (List AV)) : cellsA (.vec e l) = some [.vec e l] := rfl
@[go_sem] theorem cellsA_emp : cellsA .emp = some [.emp] := rfl
@[go_sem] theorem cellsA_rptr (l : List AV) : cellsA (.rptr l) = some [.rptr l] := rfl
@[go_sem] theorem cellsA_ref (p m o : Nat) : cellsA (.ref p m o) = some [.ref p m o] := rfl
@[go_sem] theorem cellsA_eref (p m i o : Nat) : cellsA (.eref p m i o) = some [.eref p m i o] := rfl
@[go_sem] theorem cellsA_sref (p m e o l : Nat) : cellsA (.sref p m e o l) = some [.sref p m e o l] := rfl
@[go_sem] theorem cellsA_fn (f : Fn) (a b : List AV) : cellsA (.fn f a b) = some [.fn f a b] := rfl
@[go_sem] theorem cellsA_iface (u : TypeId) (v : AV) : cellsA (.iface u v) = some [.iface u v] := rfl
@[go_sem] theorem cellsA_slice (a : Option Addr) (l c : Nat) : cellsA (.base (.slice a l c)) = some [.base (.slice a l c)] := rfl
@[go_sem] theorem cellsA_pointer (a : Option Addr) : cellsA (.base (.pointer a)) = some [.base (.pointer a)] := rfl
@[go_sem] theorem cellsA_nilIface : cellsA (.base .nilIface) = some [.base .nilIface] := rfl
@[go_sem] theorem cellsA_nilFunc : cellsA (.base .nilFunc) = some [.base .nilFunc] := rfl
@[go_sem] theorem cellsA_mapv (a : Option Nat) : cellsA (.base (.map a)) = some [.base (.map a)] := rfl
@[go_sem] theorem cellsA_baseAgg (a : Array Value) : cellsA (.base (.agg a)) = none := rfl
def nilU (o : Option TypeDesc) (x : AV) : Option Bool := match o with
  | some d => if nilT d x then nilA x else none
  | none => none
@[go_sem low] theorem nilTest_eq (x : AV) : nilTest P t x = nilU (P.underlying t) x := rfl
attribute [go_sem] nilU nilT nilA
@[go_sem] theorem sliceA_str (l : List UInt8) (lo hi : Option AV) : sliceA P t (.str l) lo hi none = if strT P t then (match bndA l.length lo hi with
    | some (a, h) => if 0 ≤ a ∧ a ≤ h ∧ h ≤ l.length then some (.str ((l.drop a.toNat).take (h.toNat - a.toNat))) else none
    | none => none) else none := rfl
@[go_sem] theorem sliceA_vec (e : Nat) (rows : List (List AV)) (lo hi : Option AV) : sliceA P t (.vec e rows) lo hi none = match elmT P t, bndA rows.length lo hi with
    | some (_, sz, _), some (l, h) => if e = sz ∧ 0 ≤ l ∧ l ≤ h ∧ h ≤ rows.length then some (.vec e ((rows.drop l.toNat).take (h.toNat - l.toNat))) else none
    | _, _ => none := rfl
@[go_sem] theorem sliceA_sref (p m e o n : Nat) (lo hi : Option AV) : sliceA P t (.sref p m e o n) lo hi none = match elmT P t, bndA n lo hi with
    | some (_, sz, _), some (l, h) => if e = sz ∧ 0 ≤ l ∧ l ≤ h ∧ h ≤ n then (if l = 0 ∨ l < h then some (.sref p m e (o + l.toNat) (h.toNat - l.toNat)) else some (.vec e [])) else none
    | _, _ => none := rfl
@[go_sem] theorem sliceA_nil (lo hi : Option AV) : sliceA P t (.base (.slice none 0 0)) lo hi none = match elmT P t, bndA 0 lo hi with
    | some _, some (l, h) => if l = 0 ∧ h = 0 then some (.base (.slice none 0 0)) else none
    | _, _ => none := rfl
@[go_sem] theorem sliceA_three (a : AV) (lo hi : Option AV) : sliceA P t a lo hi (some (.int k n)) = match elmT P t, bndA 0 lo hi with
    | some _, some (l, h) => if hi.isSome = true ∧ n = 0 ∧ l = 0 ∧ h = 0 ∧ sliceish a = true then some (empA a) else none
    | _, _ => none := by
  cases a with
  | base v =>
    unfold sliceA
    split
    · rename_i h; cases h
    · rename_i h; cases h
    · rename_i h; cases h
    · rename_i h; cases h
    · rename_i h; cases h; rfl
    · rename_i h; first | exact (h _ rfl).elim | exact (h rfl rfl).elim | simp_all
  | _ => rfl
@[go_sem] theorem elemsA_vec (sz e : Nat) (rows : List (List AV)) : elemsA sz σ (.vec e rows) = if e = sz ∨ rows = [] then some rows else none := rfl
@[go_sem] theorem elemsA_nil (sz : Nat) : elemsA sz σ (.base (.slice none 0 0)) = some [] := rfl
@[go_sem] theorem elemsA_emp (sz : Nat) : elemsA sz σ .emp = some [] := rfl
@[go_sem] theorem elemsA_sref (sz p m e o l : Nat) : elemsA sz σ (.sref p m e o l) = match sget σ p m with
    | some (.gvec esz' _ rows) => if e = sz ∧ esz' = sz ∧ o + l ≤ rows.length then some ((rows.drop o).take l) else none
    | _ => none := rfl
end
def appYs (P : Program) (t' sz : Nat) (σ : Sto) (y : AV) : Option (List (List AV)) :=
  match y with
  | .str l => if strT P t' ∧ sz = 1 then some (strElems l) else none
  | y => if slcT P t' then elemsA sz σ y else none
def appX (e sz bytes : Nat) (σ : Sto) (nx : Nat) (x : AV) (ys : Option (List (List AV))) : Option (AV × Sto × Nat) :=
  match ys with
  | some ys => (match x with
      | .base (.slice none 0 0) => if ys.length * bytes ≤ limB ∧ ys.length ≤ 4611686018427387904 then (if ys.length = 0 then some (.base (.slice none 0 0), σ, nx) else some (.sref σ.length nx sz 0 ys.length, σ ++ [(nx, .gvec sz e ys)], nx + 1)) else none
      | .emp => if ys.length * bytes ≤ limB ∧ ys.length ≤ 4611686018427387904 then (if ys.length = 0 then some (.emp, σ, nx) else some (.sref σ.length nx sz 0 ys.length, σ ++ [(nx, .gvec sz e ys)], nx + 1)) else none
      | .sref p nm esz off len => match sget σ p nm with
        | some (.gvec esz' e' rows) => if esz = sz ∧ esz' = sz ∧ e' = e ∧ off + len ≤ rows.length ∧ (len + ys.length) * bytes ≤ limB ∧ len + ys.length ≤ 4611686018427387904 then
            some (.sref p nx sz 0 (len + ys.length), σ.set p (nx, .gvec sz e ((rows.drop off).take len ++ ys)), nx + 1) else none
        | _ => none
      | _ => none)
  | none => none
@[go_sem] theorem appendA_eq (P : Program) (t t' : Nat) (σ : Sto) (nx : Nat) (x y : AV) : appendA P t t' σ nx x y = match elmT P t with
  | some (e, sz, bytes) => if 0 < sz ∧ ((zeroCells P e).map (·.length)) = some sz then appX e sz bytes σ nx x (appYs P t' sz σ y) else none
  | none => none := rfl
section
variable {P : Program} {t' sz e bytes : Nat} {σ : Sto} {nx : Nat}
@[go_sem] theorem appYs_str (l : List UInt8) : appYs P t' sz σ (.str l) = if strT P t' ∧ sz = 1 then some (strElems l) else none := rfl
@[go_sem] theorem appYs_vec (n : Nat) (r : List (List AV)) : appYs P t' sz σ (.vec n r) = if slcT P t' then elemsA sz σ (.vec n r) else none := rfl
@[go_sem] theorem appYs_nil : appYs P t' sz σ (.base (.slice none 0 0)) = if slcT P t' then some [] else none := rfl
@[go_sem] theorem appYs_emp : appYs P t' sz σ .emp = if slcT P t' then some [] else none := rfl
@[go_sem] theorem appYs_sref (p m n o l : Nat) : appYs P t' sz σ (.sref p m n o l) = if slcT P t' then elemsA sz σ (.sref p m n o l) else none := rfl
@[go_sem] theorem appX_nil (ys : List (List AV)) : appX e sz bytes σ nx (.base (.slice none 0 0)) (some ys) = if ys.length * bytes ≤ limB ∧ ys.length ≤ 4611686018427387904 then (if ys.length = 0 then some (.base (.slice none 0 0), σ, nx) else some (.sref σ.length nx sz 0 ys.length, σ ++ [(nx, .gvec sz e ys)], nx + 1)) else none := rfl
@[go_sem] theorem appX_sref (ys : List (List AV)) (p nm esz off len : Nat) : appX e sz bytes σ nx (.sref p nm esz off len) (some ys) = match sget σ p nm with
        | some (.gvec esz' e' rows) => if esz = sz ∧ esz' = sz ∧ e' = e ∧ off + len ≤ rows.length ∧ (len + ys.length) * bytes ≤ limB ∧ len + ys.length ≤ 4611686018427387904 then
            some (.sref p nx sz 0 (len + ys.length), σ.set p (nx, .gvec sz e ((rows.drop off).take len ++ ys)), nx + 1) else none
        | _ => none := rfl
end
attribute [go_sem] decide_true decide_false beq_true beq_false Bool.not_eq_true Bool.and_true Bool.true_and Bool.and_false Bool.false_and Bool.or_true Bool.true_or Bool.or_false Bool.false_or Int.natCast_nonneg Int.ofNat_lt Int.ofNat_le Int.toNat_natCast List.length_map Bool.decide_eq_true
attribute [go_sem] List.append_nil List.nil_append List.cons_append List.length_nil List.length_cons List.length_append List.drop_zero List.drop_succ_cons List.take_zero List.take_succ_cons List.take_nil List.drop_nil List.head?_cons List.map_cons List.map_nil List.getElem?_cons_zero List.getElem?_cons_succ
  Option.map_some Option.map_none Option.bind_some Option.bind_none Nat.add_zero Nat.zero_add Bool.false_eq_true Bool.true_eq_false if_true if_false true_and and_true false_and and_false ite_true ite_false List.set_cons_zero List.set_cons_succ
  eq_self not_true_eq_false not_false_eq_true Bool.not_true Bool.not_false List.toList_toArray true_or or_true false_or or_false
@[go_sem] theorem decide_false_eq (b : Bool) : decide (b = false) = !b := by cases b <;> rfl
@[go_sem] theorem dstIn_nil (d : Option Nat) : dstIn [] d = false := by cases d <;> rfl
@[go_sem] theorem dstIn_none (l : List Nat) : dstIn l none = false := rfl
@[go_sem] theorem dstIn_cons (a d : Nat) (l : List Nat) : dstIn (a :: l) (some d) = if d = a then true else dstIn l (some d) := by
  unfold dstIn
  by_cases h : d = a <;> simp [h]
section
variable {C : Cx} {t : TypeId} {x y : Operand} {k : IntKind} {a b : Int}
@[go_sem] theorem abin_add : abin C .add t x y (.int k a) (.int k b) = some (.int k (k.wrap (a + b))) := by simp [abin, abinInt]
@[go_sem] theorem abin_sub : abin C .sub t x y (.int k a) (.int k b) = some (.int k (k.wrap (a - b))) := by simp [abin, abinInt]
@[go_sem] theorem abin_mul : abin C .mul t x y (.int k a) (.int k b) = some (.int k (k.wrap (a * b))) := by simp [abin, abinInt]
@[go_sem] theorem abin_quo : abin C .quo t x y (.int k a) (.int k b) = if b = 0 then none else some (.int k (k.wrap (a.tdiv b))) := by simp [abin, abinInt]
@[go_sem] theorem abin_rem : abin C .rem t x y (.int k a) (.int k b) = if b = 0 then none else some (.int k (a.tmod b)) := by simp [abin, abinInt]
@[go_sem] theorem abin_eql : abin C .eql t x y (.int k a) (.int k b) = some (.bool (decide (a = b))) := by simp [abin, abinInt]
@[go_sem] theorem abin_neq : abin C .neq t x y (.int k a) (.int k b) = some (.bool (!decide (a = b))) := by simp [abin, abinInt]
@[go_sem] theorem abin_lss : abin C .lss t x y (.int k a) (.int k b) = some (.bool (decide (a < b))) := by simp [abin, abinInt]
@[go_sem] theorem abin_leq : abin C .leq t x y (.int k a) (.int k b) = some (.bool (decide (a ≤ b))) := by simp [abin, abinInt]
@[go_sem] theorem abin_gtr : abin C .gtr t x y (.int k a) (.int k b) = some (.bool (decide (b < a))) := by simp [abin, abinInt]
@[go_sem] theorem abin_geq : abin C .geq t x y (.int k a) (.int k b) = some (.bool (decide (b ≤ a))) := by simp [abin, abinInt]
@[go_sem] theorem abin_and : abin C .and t x y (.int k a) (.int k b) = some (.int k (Go.bits .and k a b)) := by simp [abin, abinInt]
@[go_sem] theorem abin_shr : abin C .shr t x y (.int k a) (.int k b) = if 0 ≤ b ∧ b ≤ k.bits then some (.int k (a / 2 ^ b.toNat)) else none := by simp [abin]
@[go_sem] theorem abin_shl : abin C .shl t x y (.int k a) (.int k b) = if 0 ≤ b ∧ b ≤ k.bits then some (.int k (k.wrap (a * 2 ^ b.toNat))) else none := by simp [abin]
@[go_sem] theorem abin_str {op : BinOp} {p q : List UInt8} : abin C op t x y (.str p) (.str q) = abinStr op p q := by simp [abin]
@[go_sem] theorem abin_beq {p q : Bool} : abin C .eql t x y (.bool p) (.bool q) = if isBoolT C.P t = true then some (.bool (p == q)) else none := by simp [abin]
@[go_sem] theorem abin_bne {p q : Bool} : abin C .neq t x y (.bool p) (.bool q) = if isBoolT C.P t = true then some (.bool (!(p == q))) else none := by simp [abin]
def nilR (neg : Bool) : Option Bool → Option Bool → Option AV
  | some r, some true => some (.bool (if neg = true then !r else r))
  | _, _ => none
@[go_sem] theorem nilR_some (neg r : Bool) : nilR neg (some r) (some true) = some (.bool (if neg = true then !r else r)) := rfl
@[go_sem] theorem abin_slice_eql {p : AV} : abin C .eql t x (.const (.slice none 0 0)) p (.base (.slice none 0 0)) = nilR false (nilTest C.P t p) (nilTest C.P t (.base (.slice none 0 0))) := by
  have : ∀ o : Option Bool, ∀ o' : Option Bool, (match BinOp.eql, o, o' with
      | .eql, some r, some true => some (AV.bool r)
      | .neq, some r, some true => some (.bool (!r))
      | _, _, _ => none) = nilR false o o' := by
    intro o o'
    cases o <;> cases o' <;> try rfl
    rename_i r' ; cases r' <;> rfl
  cases p <;> exact this _ _
@[go_sem] theorem abin_slice_neq {p : AV} : abin C .neq t x (.const (.slice none 0 0)) p (.base (.slice none 0 0)) = nilR true (nilTest C.P t p) (nilTest C.P t (.base (.slice none 0 0))) := by
  have : ∀ o : Option Bool, ∀ o' : Option Bool, (match BinOp.neq, o, o' with
      | .eql, some r, some true => some (AV.bool r)
      | .neq, some r, some true => some (.bool (!r))
      | _, _, _ => none) = nilR true o o' := by
    intro o o'
    cases o <;> cases o' <;> try rfl
    rename_i r' ; cases r' <;> rfl
  cases p <;> exact this _ _
@[go_sem] theorem abin_pointer_eql {p : AV} : abin C .eql t x (.const (.pointer none)) p (.base (.pointer none)) = nilR false (nilTest C.P t p) (nilTest C.P t (.base (.pointer none))) := by
  have : ∀ o : Option Bool, ∀ o' : Option Bool, (match BinOp.eql, o, o' with
      | .eql, some r, some true => some (AV.bool r)
      | .neq, some r, some true => some (.bool (!r))
      | _, _, _ => none) = nilR false o o' := by
    intro o o'
    cases o <;> cases o' <;> try rfl
    rename_i r' ; cases r' <;> rfl
  cases p <;> exact this _ _
@[go_sem] theorem abin_pointer_neq {p : AV} : abin C .neq t x (.const (.pointer none)) p (.base (.pointer none)) = nilR true (nilTest C.P t p) (nilTest C.P t (.base (.pointer none))) := by
  have : ∀ o : Option Bool, ∀ o' : Option Bool, (match BinOp.neq, o, o' with
      | .eql, some r, some true => some (AV.bool r)
      | .neq, some r, some true => some (.bool (!r))
      | _, _, _ => none) = nilR true o o' := by
    intro o o'
    cases o <;> cases o' <;> try rfl
    rename_i r' ; cases r' <;> rfl
  cases p <;> exact this _ _
@[go_sem] theorem abin_map_eql {p : AV} : abin C .eql t x (.const (.map none)) p (.base (.map none)) = nilR false (nilTest C.P t p) (nilTest C.P t (.base (.map none))) := by
  have : ∀ o : Option Bool, ∀ o' : Option Bool, (match BinOp.eql, o, o' with
      | .eql, some r, some true => some (AV.bool r)
      | .neq, some r, some true => some (.bool (!r))
      | _, _, _ => none) = nilR false o o' := by
    intro o o'
    cases o <;> cases o' <;> try rfl
    rename_i r' ; cases r' <;> rfl
  cases p <;> exact this _ _
@[go_sem] theorem abin_map_neq {p : AV} : abin C .neq t x (.const (.map none)) p (.base (.map none)) = nilR true (nilTest C.P t p) (nilTest C.P t (.base (.map none))) := by
  have : ∀ o : Option Bool, ∀ o' : Option Bool, (match BinOp.neq, o, o' with
      | .eql, some r, some true => some (AV.bool r)
      | .neq, some r, some true => some (.bool (!r))
      | _, _, _ => none) = nilR true o o' := by
    intro o o'
    cases o <;> cases o' <;> try rfl
    rename_i r' ; cases r' <;> rfl
  cases p <;> exact this _ _
@[go_sem] theorem abin_func_eql {p : AV} : abin C .eql t x (.const .nilFunc) p (.base .nilFunc) = nilR false (nilTest C.P t p) (nilTest C.P t (.base .nilFunc)) := by
  have : ∀ o : Option Bool, ∀ o' : Option Bool, (match BinOp.eql, o, o' with
      | .eql, some r, some true => some (AV.bool r)
      | .neq, some r, some true => some (.bool (!r))
      | _, _, _ => none) = nilR false o o' := by
    intro o o'
    cases o <;> cases o' <;> try rfl
    rename_i r' ; cases r' <;> rfl
  cases p <;> exact this _ _
@[go_sem] theorem abin_func_neq {p : AV} : abin C .neq t x (.const .nilFunc) p (.base .nilFunc) = nilR true (nilTest C.P t p) (nilTest C.P t (.base .nilFunc)) := by
  have : ∀ o : Option Bool, ∀ o' : Option Bool, (match BinOp.neq, o, o' with
      | .eql, some r, some true => some (AV.bool r)
      | .neq, some r, some true => some (.bool (!r))
      | _, _, _ => none) = nilR true o o' := by
    intro o o'
    cases o <;> cases o' <;> try rfl
    rename_i r' ; cases r' <;> rfl
  cases p <;> exact this _ _
@[go_sem] theorem abin_iface_eql {p : AV} : abin C .eql t x (.const .nilIface) p (.base .nilIface) = nilR false (nilTest C.P t p) (nilTest C.P t (.base .nilIface)) := by
  have : ∀ o : Option Bool, ∀ o' : Option Bool, (match BinOp.eql, o, o' with
      | .eql, some r, some true => some (AV.bool r)
      | .neq, some r, some true => some (.bool (!r))
      | _, _, _ => none) = nilR false o o' := by
    intro o o'
    cases o <;> cases o' <;> try rfl
    rename_i r' ; cases r' <;> rfl
  cases p <;> exact this _ _
@[go_sem] theorem abin_iface_neq {p : AV} : abin C .neq t x (.const .nilIface) p (.base .nilIface) = nilR true (nilTest C.P t p) (nilTest C.P t (.base .nilIface)) := by
  have : ∀ o : Option Bool, ∀ o' : Option Bool, (match BinOp.neq, o, o' with
      | .eql, some r, some true => some (AV.bool r)
      | .neq, some r, some true => some (.bool (!r))
      | _, _, _ => none) = nilR true o o' := by
    intro o o'
    cases o <;> cases o' <;> try rfl
    rename_i r' ; cases r' <;> rfl
  cases p <;> exact this _ _
theorem wrap64 {z : Int} (h : -9223372036854775808 ≤ z) (h' : z ≤ 9223372036854775807) : IntKind.wrap .i64 z = z := by
  simp [IntKind.wrap, IntKind.bits, IntKind.signed] <;> omega
end

/-! ### Exits -/
section
variable {K : St → Prop} {Q : AExit → St → Prop} {s : St}
@[go_sem] theorem athen_normal : athen K Q .normal s ↔ K s := Iff.rfl
@[go_sem] theorem athen_exit {i : Nat} : athen K Q (.exit i) s ↔ Q (.exit i) s := Iff.rfl
@[go_sem] theorem athen_ret : athen K Q .ret s ↔ Q .ret s := Iff.rfl
@[go_sem] theorem athen_pan {v : AV} : athen K Q (.pan v) s ↔ Q (.pan v) s := Iff.rfl
@[go_sem] theorem athen_goto {l : Nat} : athen K Q (.goto l) s ↔ Q (.goto l) s := Iff.rfl
@[go_sem] theorem ablock_normal {id : Nat} : ablock id Q .normal s ↔ Q .normal s := Iff.rfl
@[go_sem] theorem ablock_exit {id i : Nat} : ablock id Q (.exit i) s ↔ if i = id then Q .normal s else Q (.exit i) s := Iff.rfl
@[go_sem] theorem ablock_ret {id : Nat} : ablock id Q .ret s ↔ Q .ret s := Iff.rfl
@[go_sem] theorem ablock_pan {id : Nat} {v : AV} : ablock id Q (.pan v) s ↔ Q (.pan v) s := Iff.rfl
@[go_sem] theorem ablock_goto {id : Nat} {l : Nat} : ablock id Q (.goto l) s ↔ Q (.goto l) s := Iff.rfl
end

/-! ### Results -/
@[go_sem ↓] theorem resA_tmp (P : Program) (t : Nat) (env : Nat → AV) (σ : Sto) (nx : Nat) : resA P [.tmp t] ⟨env, σ, nx⟩ = some (env t) := rfl
@[go_sem ↓] theorem resA_cell (P : Program) (a T : Nat) (env : Nat → AV) (σ : Sto) (nx : Nat) : resA P [.cell a T] ⟨env, σ, nx⟩ = readA P T σ (env a) := rfl
def two : Option AV → Option AV → Option AV
  | some a, some b => some (.tup [a, b])
  | _, _ => none
def three : Option AV → Option AV → Option AV → Option AV
  | some a, some b, some c => some (.tup [a, b, c])
  | _, _, _ => none
@[go_sem] theorem two_some (a b : AV) : two (some a) (some b) = some (.tup [a, b]) := rfl
@[go_sem] theorem three_some (a b c : AV) : three (some a) (some b) (some c) = some (.tup [a, b, c]) := rfl
@[go_sem ↓] theorem resA_two (P : Program) (r q : ResultVar) (s : St) : resA P [r, q] s = two (res1 P s r) (res1 P s q) := by
  unfold resA two
  simp only [List.mapM_cons, List.mapM_nil]
  cases res1 P s r <;> cases res1 P s q <;> rfl
@[go_sem ↓] theorem resA_three (P : Program) (r q p : ResultVar) (s : St) : resA P [r, q, p] s = three (res1 P s r) (res1 P s q) (res1 P s p) := by
  unfold resA three
  simp only [List.mapM_cons, List.mapM_nil]
  cases res1 P s r <;> cases res1 P s q <;> cases res1 P s p <;> rfl
@[go_sem] theorem res1_tmp (P : Program) (t : Nat) (env : Nat → AV) (σ : Sto) (nx : Nat) : res1 P ⟨env, σ, nx⟩ (.tmp t) = some (env t) := rfl
@[go_sem] theorem res1_cell (P : Program) (a T : Nat) (env : Nat → AV) (σ : Sto) (nx : Nat) : res1 P ⟨env, σ, nx⟩ (.cell a T) = readA P T σ (env a) := rfl
def pfin (F : Nat) (σ : Sto) (Q : AOut → Prop) : Option AV → Prop
  | some r => RF (frzF σ F r) ∧ Q (.ret (frzF σ F r))
  | none => False
@[go_sem] theorem pfin_some (F : Nat) (σ : Sto) (Q : AOut → Prop) (r : AV) : pfin F σ Q (some r) ↔ RF (frzF σ F r) ∧ Q (.ret (frzF σ F r)) := Iff.rfl
theorem pfin_iff (F : Nat) (σ : Sto) (Q : AOut → Prop) (o : Option AV) : pfin F σ Q o ↔ ∃ r, o = some r ∧ RF (frzF σ F r) ∧ Q (.ret (frzF σ F r)) := by
  cases o <;> simp [pfin]
@[go_sem] theorem PPost_ret (C : Cx) (F : Nat) (rs : List ResultVar) (Q : AOut → Prop) (env : Nat → AV) (σ : Sto) (nx : Nat) : PPost C F rs Q .ret ⟨env, σ, nx⟩ ↔ pfin F σ Q (resA C.P rs ⟨env, σ, nx⟩) := (pfin_iff _ _ _ _).symm
@[go_sem] theorem PPost_normal (C : Cx) (F : Nat) (rs : List ResultVar) (Q : AOut → Prop) (env : Nat → AV) (σ : Sto) (nx : Nat) : PPost C F rs Q .normal ⟨env, σ, nx⟩ ↔ pfin F σ Q (resA C.P rs ⟨env, σ, nx⟩) := (pfin_iff _ _ _ _).symm
@[go_sem] theorem PPost_pan (C : Cx) (F : Nat) (rs : List ResultVar) (Q : AOut → Prop) (v : AV) (s : St) : PPost C F rs Q (.pan v) s ↔ RF (frzF s.σ F v) ∧ Q (.pan (frzF s.σ F v)) := Iff.rfl
@[go_sem] theorem frzF_zero (σ : Sto) (v : AV) : frzF σ 0 v = v := rfl
@[go_sem] theorem RF_int (k : IntKind) (n : Int) : RF (.int k n) ↔ True := Iff.rfl
@[go_sem] theorem RF_bool (b : Bool) : RF (.bool b) ↔ True := Iff.rfl
@[go_sem] theorem RF_str (l : List UInt8) : RF (.str l) ↔ True := Iff.rfl
@[go_sem] theorem RF_base (v : Value) : RF (.base v) ↔ True := Iff.rfl
@[go_sem] theorem RF_emp : RF .emp ↔ True := Iff.rfl
@[go_sem] theorem RF_any : RF .any ↔ True := Iff.rfl
@[go_sem] theorem RF_agg (l : List AV) : RF (.agg l) ↔ RFL l := by simp only [RF]
@[go_sem] theorem RF_tup (l : List AV) : RF (.tup l) ↔ RFL l := by simp only [RF]
@[go_sem] theorem RF_vec (n : Nat) (l : List (List AV)) : RF (.vec n l) ↔ RFLL l := by simp only [RF]
@[go_sem] theorem RF_rptr (l : List AV) : RF (.rptr l) ↔ RFL l := by simp only [RF]
@[go_sem] theorem RF_iface (t : TypeId) (v : AV) : RF (.iface t v) ↔ RF v := by simp only [RF]
@[go_sem] theorem RF_fn (f : Fn) (a b : List AV) : RF (.fn f a b) ↔ RFL a ∧ RFL b := by simp only [RF]
@[go_sem] theorem RFL_nil : RFL [] ↔ True := by simp only [RFL]
@[go_sem] theorem RFL_cons (a : AV) (l : List AV) : RFL (a :: l) ↔ RF a ∧ RFL l := by simp only [RFL]
@[go_sem] theorem RFLL_nil : RFLL [] ↔ True := by simp only [RFLL]
@[go_sem] theorem RFLL_cons (a : List AV) (l : List (List AV)) : RFLL (a :: l) ↔ RFL a ∧ RFLL l := by simp only [RFLL]

def afin (σ : Sto) (nx : Nat) (Q : AOut → Sto → Nat → Prop) : Option AV → Prop
  | some r => Q (.ret r) σ nx
  | none => False
@[go_sem] theorem afin_some (σ : Sto) (nx : Nat) (Q : AOut → Sto → Nat → Prop) (r : AV) : afin σ nx Q (some r) ↔ Q (.ret r) σ nx := Iff.rfl
theorem afin_iff (σ : Sto) (nx : Nat) (Q : AOut → Sto → Nat → Prop) (o : Option AV) : afin σ nx Q o ↔ ∃ r, o = some r ∧ Q (.ret r) σ nx := by
  cases o <;> simp [afin]
@[go_sem] theorem APost_ret (C : Cx) (rs : List ResultVar) (Q : AOut → Sto → Nat → Prop) (env : Nat → AV) (σ : Sto) (nx : Nat) : APost C rs Q .ret ⟨env, σ, nx⟩ ↔ afin σ nx Q (resA C.P rs ⟨env, σ, nx⟩) := (afin_iff _ _ _ _).symm
@[go_sem] theorem APost_normal (C : Cx) (rs : List ResultVar) (Q : AOut → Sto → Nat → Prop) (env : Nat → AV) (σ : Sto) (nx : Nat) : APost C rs Q .normal ⟨env, σ, nx⟩ ↔ afin σ nx Q (resA C.P rs ⟨env, σ, nx⟩) := (afin_iff _ _ _ _).symm
@[go_sem] theorem APost_pan (C : Cx) (rs : List ResultVar) (Q : AOut → Sto → Nat → Prop) (v : AV) (env : Nat → AV) (σ : Sto) (nx : Nat) : APost C rs Q (.pan v) ⟨env, σ, nx⟩ ↔ Q (.pan v) σ nx := Iff.rfl
/-- What a call of a contract that tells one outcome leads to. -/
abbrev Gets (r : AV) (σ : Sto) (nx : Nat) : AOut → Sto → Nat → Prop := fun o σ' nx' => o = .ret r ∧ σ' = σ ∧ nx' = nx
@[go_sem] theorem Gets_iff (r : AV) (σ σ' : Sto) (nx nx' : Nat) (o : AOut) : Gets r σ nx o σ' nx' ↔ o = .ret r ∧ σ' = σ ∧ nx' = nx := Iff.rfl
theorem CallP.acall {C : Cx} {tot : Bool} {g : FuncId} {args : List AV} {σ σ1 : Sto} {nx nx1 : Nat} {K KP : AV → Sto → Nat → Prop} {r : AV} (h : ACall C g args σ nx (Gets r σ1 nx1)) (hk : K r σ1 nx1) : CallP C true tot g args σ nx K KP :=
  ⟨_, h, (by rintro v σ' nx' ⟨hq, rfl, rfl⟩; cases hq; exact hk), (by rintro v σ' nx' ⟨hq, _, _⟩; cases hq), .inr ⟨r, σ1, nx1, rfl, rfl, rfl⟩, .inl rfl⟩
/-- One outcome, whatever names are used up. -/
abbrev GetsN (r : AV) (σ : Sto) : AOut → Sto → Nat → Prop := fun o σ' _ => o = .ret r ∧ σ' = σ
@[go_sem] theorem GetsN_iff (r : AV) (σ σ' : Sto) (nx' : Nat) (o : AOut) : GetsN r σ o σ' nx' ↔ o = .ret r ∧ σ' = σ := Iff.rfl
theorem CallP.acallN {C : Cx} {tot : Bool} {g : FuncId} {args : List AV} {σ σ1 : Sto} {nx : Nat} {K KP : AV → Sto → Nat → Prop} {r : AV} (h : ACall C g args σ nx (GetsN r σ1)) (hk : ∀ nx1, K r σ1 nx1) : CallP C true tot g args σ nx K KP :=
  ⟨_, h, (by rintro v σ' nx' ⟨hq, rfl⟩; cases hq; exact hk _), (by rintro v σ' nx' ⟨hq, _⟩; cases hq), .inr ⟨r, σ1, nx, rfl, rfl⟩, .inl rfl⟩
theorem sget_last (a : Nat × AObj) (rest : Sto) (n : Nat) (o : AObj) : sget (a :: (rest ++ [(n, o)])) (rest.length + 1) n = some o := by simp [sget]
theorem set_last (a b : Nat × AObj) (rest : Sto) (x : Nat × AObj) : (a :: (rest ++ [x])).set (rest.length + 1) b = a :: (rest ++ [b]) := by simp
/-- What is shown of a call whatever it makes of its arguments: several outcomes. -/
theorem CallP.rel {C : Cx} {own tot : Bool} {g : FuncId} {args : List AV} {σ : Sto} {nx : Nat} {K KP : AV → Sto → Nat → Prop} {Q : AOut → Prop} (h : PCall C g args Q) (hf : RFL args) (hk : ∀ v, Q (.ret v) → K v σ nx) (hp : ∀ v, Q (.pan v) → KP v σ nx) (ht : tot = true ∨ ∃ v, Q (.ret v)) : CallP C own tot g args σ nx K KP :=
  ⟨_, h.acall hf σ nx, (by rintro v σ' nx' ⟨hq, rfl, rfl⟩; exact hk v hq), (by rintro v σ' nx' ⟨hq, rfl, rfl⟩; exact hp v hq), (ht.elim .inl fun ⟨v, hv⟩ => .inr ⟨v, σ, nx, hv, rfl, rfl⟩), .inr ⟨hf, _, h, fun _ _ _ => Iff.rfl⟩⟩
attribute [go_sem] Nat.lt_irrefl Nat.zero_lt_succ decide_not List.take_length List.length_replicate List.drop_replicate List.take_replicate List.replicate_zero Nat.sub_self Nat.le_refl Nat.add_sub_cancel Int.natCast_pos Int.natCast_eq_zero Int.natCast_inj Int.le_refl Int.toNat_zero Nat.sub_zero

/-! ### What is frozen -/
@[go_sem] theorem frzF_int (σ : Sto) (F : Nat) (k : IntKind) (n : Int) : frzF σ F (.int k n) = .int k n := by cases F <;> rfl
@[go_sem] theorem frzF_bool (σ : Sto) (F : Nat) (b : Bool) : frzF σ F (.bool b) = .bool b := by cases F <;> rfl
@[go_sem] theorem frzF_str (σ : Sto) (F : Nat) (l : List UInt8) : frzF σ F (.str l) = .str l := by cases F <;> rfl
@[go_sem] theorem frzF_base (σ : Sto) (F : Nat) (v : Value) : frzF σ F (.base v) = .base v := by cases F <;> rfl
@[go_sem] theorem frzF_emp (σ : Sto) (F : Nat) : frzF σ F .emp = .emp := by cases F <;> rfl
@[go_sem] theorem frzF_vec (σ : Sto) (F : Nat) (e : Nat) (r : List (List AV)) : frzF σ F (.vec e r) = .vec e r := by cases F <;> rfl
@[go_sem] theorem frzF_rptr (σ : Sto) (F : Nat) (r : List AV) : frzF σ F (.rptr r) = .rptr r := by cases F <;> rfl
@[go_sem] theorem frzF_agg (σ : Sto) (F : Nat) (r : List AV) : frzF σ (F + 1) (.agg r) = .agg (r.map (frzF σ F)) := by simp only [frzF]
@[go_sem] theorem frzF_tup (σ : Sto) (F : Nat) (r : List AV) : frzF σ (F + 1) (.tup r) = .tup (r.map (frzF σ F)) := by simp only [frzF]
@[go_sem] theorem frzF_sref (σ : Sto) (F p nm e o l : Nat) : frzF σ (F + 1) (.sref p nm e o l) = match sget σ p nm with
    | some (.gvec esz' _ rows) => if esz' = e ∧ o + l ≤ rows.length then .vec e (((rows.drop o).take l).map fun r => r.map (frzF σ F)) else .sref p nm e o l
    | _ => .sref p nm e o l := by
  simp only [frzF]
  cases sget σ p nm with
  | none => rfl
  | some ob => cases ob <;> rfl
@[go_sem] theorem frz_rows (σ : Sto) (r : List (List AV)) : (r.map fun x => x.map (frzF σ 0)) = r := by
  have : (fun x : List AV => x.map (frzF σ 0)) = id := by
    funext x
    have : frzF σ 0 = id := rfl
    rw [this, List.map_id]; rfl
  rw [this, List.map_id]
/-- A body's contract, its slots and results told. -/
theorem pcall_mk {C : Cx} {g : FuncId} {fn : Func} {c : Code} {args : List AV} (F n : Nat) (rs : List ResultVar) (hf : C.P.funcs[g]? = some fn) (hb : fn.body = some c) (hname : (fn.name == "runtime.NumGoroutine") = false) (hn : fn.ntmps = n) (hr : fn.results.toList = rs) (hl : Nat.ble args.length n = true) {Q : AOut → Prop}
    (h : aw C n [] c (PPost C F rs Q) ⟨argEnv args, [], 0⟩) : PCall C g args Q := by
  subst hn; subst hr
  exact pcall_intro F hf hb hname (Nat.le_of_ble_eq_true hl) h
theorem acall_mk {C : Cx} {g : FuncId} {fn : Func} {c : Code} {args : List AV} {σ : Sto} {nx : Nat} (n : Nat) (rs : List ResultVar) (hf : C.P.funcs[g]? = some fn) (hb : fn.body = some c) (hname : (fn.name == "runtime.NumGoroutine") = false) (hn : fn.ntmps = n) (hr : fn.results.toList = rs) (hl : Nat.ble args.length n = true) {Q : AOut → Sto → Nat → Prop}
    (h : aw C n [] c (APost C rs Q) ⟨argEnv args, σ, nx⟩) : ACall C g args σ nx Q := by
  subst hn; subst hr
  exact acall_intro hf hb hname (Nat.le_of_ble_eq_true hl) h
/-- A conditional whose condition is known to be a proposition's. -/
theorem aw_if {C : Cx} {n : Nat} {ds : List Deferred} {Q : AExit → St → Prop} {s : St} {c : Operand} {x y : Code} (p : Prop) [Decidable p] (hc : opv C s.env c = .bool (decide p)) (ht : p → aw C n ds x Q s) (hf : ¬p → aw C n ds y Q s) : aw C n ds (.cond c x y) Q s :=
  aw_cond hc (fun h => ht (of_decide_eq_true h)) (fun h => hf (of_decide_eq_false h))

/-! ### Frames of a walk -/
section
variable {C : Cx} {n : Nat} {ds : List Deferred} {K : St → Prop} {Q : AExit → St → Prop} {s : St} {e : AExit}
theorem ablock_here {id : Nat} (h : Q .normal s) : ablock id Q (.exit id) s := by simp only [ablock, if_true]; exact h
theorem ablock_pass {id i : Nat} (hne : Nat.beq i id = false) (h : Q (.exit i) s) : ablock id Q (.exit i) s := by
  have : i ≠ id := fun e => by subst e; simp at hne
  simp only [ablock, if_neg this]; exact h
/-- Objects made inside are forgotten: the first k stay. -/
def afor (k : Nat) (Q : AExit → St → Prop) : AExit → St → Prop := fun e s => Q e ⟨s.env, s.σ.take k, s.nx⟩
theorem aw_forget' {c : Code} (k : Nat) (hk : s.σ.length = k) (h : aw C n ds c (afor k Q) s) : aw C n ds c Q s :=
  aw_forget (aw_mono h fun e s' hq => ⟨k, by omega, hq⟩)
theorem afor_zero {env : Nat → AV} {σ : Sto} {nx : Nat} (h : Q e ⟨env, [], nx⟩) : afor 0 Q e ⟨env, σ, nx⟩ := by simpa [afor] using h
theorem afor_one {env : Nat → AV} {a : Nat × AObj} {σ : Sto} {nx : Nat} (h : Q e ⟨env, [a], nx⟩) : afor 1 Q e ⟨env, a :: σ, nx⟩ := by simpa [afor] using h
theorem afor_two {env : Nat → AV} {a b : Nat × AObj} {σ : Sto} {nx : Nat} (h : Q e ⟨env, [a, b], nx⟩) : afor 2 Q e ⟨env, a :: b :: σ, nx⟩ := by simpa [afor] using h
theorem afor_three {env : Nat → AV} {a b c : Nat × AObj} {σ : Sto} {nx : Nat} (h : Q e ⟨env, [a, b, c], nx⟩) : afor 3 Q e ⟨env, a :: b :: c :: σ, nx⟩ := by simpa [afor] using h
theorem afor_four {env : Nat → AV} {a b c d : Nat × AObj} {σ : Sto} {nx : Nat} (h : Q e ⟨env, [a, b, c, d], nx⟩) : afor 4 Q e ⟨env, a :: b :: c :: d :: σ, nx⟩ := by simpa [afor] using h
/-- A meeting point between two parts. -/
theorem aw_mid (M : St → Prop) {x y : Code} (h : aw C n ds x (athen M Q) s) (h' : ∀ s, M s → aw C n ds y Q s) : aw C n ds (.seq x y) Q s :=
  aw_seq (aw_mono h fun e s' hq => by cases e <;> first | exact h' _ hq | exact hq)
theorem afor_rest {env : Nat → AV} {a : Nat × AObj} {rest l : Sto} {nx : Nat} (h : Q e ⟨env, a :: rest, nx⟩) : afor (rest.length + 1) Q e ⟨env, a :: (rest ++ l), nx⟩ := by simpa [afor] using h
theorem afor_rest0 {env : Nat → AV} {a : Nat × AObj} {rest : Sto} {nx : Nat} (h : Q e ⟨env, a :: rest, nx⟩) : afor (rest.length + 1) Q e ⟨env, a :: rest, nx⟩ := by simpa [afor] using h
theorem afor_len {env : Nat → AV} {σ l : Sto} {nx : Nat} (h : Q e ⟨env, σ, nx⟩) : afor σ.length Q e ⟨env, σ ++ l, nx⟩ := by simpa [afor] using h
theorem aw_loop' {c : Code} (J : Nat → St → Prop) (round : ∀ d s, J d s → aw C n ds c (athen (fun s' => ∃ d', d' < d ∧ J d' s') Q) s) (h₀ : ∃ d, J d s) : aw C n ds (.loop c) Q s :=
  h₀.elim fun _ h => aw_loop J round h
end

/-! ### Objects of a call's own are forgotten behind it -/
theorem acall_cut {C : Cx} {g : FuncId} {args : List AV} {σ : Sto} {nx : Nat} {Q : AOut → Sto → Nat → Prop} (h : ACall C g args σ nx (fun o σ' nx' => Q o (σ'.take σ.length) nx')) : ACall C g args σ nx Q := by
  intro B kn m w vs hI hr
  refine (h B kn m w vs hI hr).mono ?_
  rintro e w' ⟨out, kn', m', σ', nx', hq, ho, hk, hI', hkp⟩
  refine ⟨out, kn', m', σ'.take σ.length, nx', hq, ho, hk, hI'.take _, hkp.le, hkp.ag, fun p nm ob e e' => ?_⟩
  have hp : p < σ.length := (List.getElem?_eq_some_iff.1 e).1
  rw [List.getElem?_take, if_pos hp]
  exact hkp.pend p nm ob e e'
theorem sget_end (σ l : Sto) (n : Nat) (o : AObj) : sget (σ ++ (n, o) :: l) σ.length n = some o := by simp [sget]
theorem set_end (σ l : Sto) (a b : Nat × AObj) : (σ ++ a :: l).set σ.length b = σ ++ b :: l := by simp
theorem take_end (σ l : Sto) : (σ ++ l).take σ.length = σ := by simp
attribute [go_sem] sget_end set_end take_end
end Go.Ab
