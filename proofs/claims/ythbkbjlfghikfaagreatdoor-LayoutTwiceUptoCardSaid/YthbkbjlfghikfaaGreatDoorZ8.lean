/-
  A STATE TOLD BY PLAIN DATA, part two: the objects; and the whole.
-/
import Derived.Test.YthbkbjlfghikfaaGreatDoorZ7
import Derived.Recover
import Derived.Test.YthbkbjlfghikfaaGreatDoorProg
set_option linter.unusedVariables false
set_option linter.unusedSimpArgs false
namespace Go.Ab
open Go Go.RowKit
attribute [go_sem] celP fadA fieldA indexA bndA empA sliceish bfun maxA storeA spliceA extA nilckA assertA abinInt abinStr aun aconv isNilConst fillA bslF bslE bslA makeA rowsA rangeA nextA
section
variable {P : Program} {T t : TypeId} {σ : Sto} {k : IntKind} {n : Int}
@[go_sem] theorem sget_zero (n m : Nat) (o : AObj) (r : Sto) : sget ((n, o) :: r) 0 m = if n = m then some o else none := rfl
@[go_sem] theorem readA_ref (p m off : Nat) : readA P T σ (.ref p m off) = match sget σ p m with
  | some (.cells _ cs) => loadC P T (cs.drop off)
  | _ => none := by
  simp only [readA]
  cases sget σ p m with
  | none => rfl
  | some o => cases o <;> first | rfl | (rename_i k; cases k <;> rfl)
@[go_sem low] theorem loadC_eq (cs : List AV) : loadC P T cs = match aggT P T, szT P T with
  | some true, some n => if n ≤ cs.length then some (.agg (cs.take n)) else none
  | some false, _ => cs.head?
  | _, _ => none := rfl
@[go_sem] theorem lenA_str (l : List UInt8) : lenA P t (.str l) = if strT P t = true then some (.int .i64 l.length) else none := rfl
@[go_sem] theorem lenA_vec (e : Nat) (rows : List (List AV)) : lenA P t (.vec e rows) = if slcT P t = true then some (.int .i64 rows.length) else none := rfl
@[go_sem] theorem lenA_sref (p m e o l : Nat) : lenA P t (.sref p m e o l) = if slcT P t = true then some (.int .i64 l) else none := rfl
@[go_sem] theorem lenA_emp : lenA P t .emp = if slcT P t = true then some (.int .i64 0) else none := rfl
@[go_sem] theorem lenA_nil : lenA P t (.base (.slice none 0 0)) = if slcT P t = true then some (.int .i64 0) else none := rfl
@[go_sem] theorem idxA_ref (p m o : Nat) : idxA P t (.ref p m o) (.int k n) = match elmT P t, arrT P t with
  | none, some (len, _, sz) => if 0 ≤ n ∧ n < len then some (.ref p m (o + n.toNat * sz)) else none
  | _, _ => none := by
  unfold idxA
  cases elmT P t <;> cases arrT P t <;> rfl
@[go_sem] theorem cellsA_int : cellsA (.int k n) = some [.int k n] := rfl
@[go_sem] theorem cellsA_bool (b : Bool) : cellsA (.bool b) = some [.bool b] := rfl
@[go_sem] theorem cellsA_str (l : List UInt8) : cellsA (.str l) = some [.str l] := rfl
@[go_sem] theorem cellsA_agg (l : List AV) : cellsA (.agg l) = some l := rfl
@[go_sem] theorem cellsA_vec (e : Nat) (l : List (List AV)) : cellsA (.vec e l) = some [.vec e l] := rfl
@[go_sem] theorem cellsA_emp : cellsA .emp = some [.emp] := rfl
@[go_sem] theorem cellsA_rptr (l : List AV) : cellsA (.rptr l) = some [.rptr l] := rfl
@[go_sem] theorem cellsA_ref (p m o : Nat) : cellsA (.ref p m o) = some [.ref p m o] := rfl
@[go_sem] theorem cellsA_eref (p m i o : Nat) : cellsA (.eref p m i o) = some [.eref p m i o] := rfl
@[go_sem] theorem cellsA_sref (p m e o l : Nat) : cellsA (.sref p m e o l) = some [.sref p m e o l] := rfl
@[go_sem] theorem cellsA_fn (f : Fn) (a b : List AV) : cellsA (.fn f a b) = some [.fn f a b] := rfl
@[go_sem] theorem cellsA_iface (u : TypeId) (v : AV) : cellsA (.iface u v) = some [.iface u v] := rfl
@[go_sem] theorem cellsA_slice (a : Option Addr) (l c : Nat) : cellsA (.base (.slice a l c)) = some [.base (.slice a l c)] := rfl
@[go_sem] theorem cellsA_pointer (a : Option Addr) : cellsA (.base (.pointer a)) = some [.base (.pointer a)] := rfl
@[go_sem] theorem cellsA_nilIface : cellsA (.base .nilIface) = some [.base .nilIface] := rfl
@[go_sem] theorem cellsA_nilFunc : cellsA (.base .nilFunc) = some [.base .nilFunc] := rfl
@[go_sem] theorem cellsA_mapv (a : Option Nat) : cellsA (.base (.map a)) = some [.base (.map a)] := rfl
@[go_sem] theorem cellsA_baseAgg (a : Array Value) : cellsA (.base (.agg a)) = if a.toList.all (·.oneCell') = true then some (a.toList.map ofVal) else none := rfl
def nilU (o : Option TypeDesc) (x : AV) : Option Bool := match o with
 | some d => if nilT d x then nilA x else none
 | none => none
@[go_sem low] theorem nilTest_eq (x : AV) : nilTest P t x = nilU (P.underlying t) x := rfl
attribute [go_sem] nilU nilT nilA
@[go_sem] theorem sliceA_str (l : List UInt8) (lo hi : Option AV) : sliceA P t (.str l) lo hi none = if strT P t then (match bndA l.length lo hi with
  | some (a, h) => if 0 ≤ a ∧ a ≤ h ∧ h ≤ l.length then some (.str ((l.drop a.toNat).take (h.toNat - a.toNat))) else none
  | none => none) else none := rfl
@[go_sem] theorem sliceA_vec (e : Nat) (rows : List (List AV)) (lo hi : Option AV) : sliceA P t (.vec e rows) lo hi none = match elmT P t, bndA rows.length lo hi with
  | some (_, sz, _), some (l, h) => if e = sz ∧ 0 ≤ l ∧ l ≤ h ∧ h ≤ rows.length then some (.vec e ((rows.drop l.toNat).take (h.toNat - l.toNat))) else none
  | _, _ => none := rfl
@[go_sem] theorem sliceA_sref (p m e o n : Nat) (lo hi : Option AV) : sliceA P t (.sref p m e o n) lo hi none = match elmT P t, bndA n lo hi with
  | some (_, sz, _), some (l, h) => if e = sz ∧ 0 ≤ l ∧ l ≤ h ∧ h ≤ n then (if l = 0 ∨ l < h then some (.sref p m e (o + l.toNat) (h.toNat - l.toNat)) else some (.vec e [])) else none
  | _, _ => none := rfl
@[go_sem] theorem sliceA_nil (lo hi : Option AV) : sliceA P t (.base (.slice none 0 0)) lo hi none = match elmT P t, bndA 0 lo hi with
  | some _, some (l, h) => if l = 0 ∧ h = 0 then some (.base (.slice none 0 0)) else none
  | _, _ => none := rfl
@[go_sem] theorem elemsA_vec (sz e : Nat) (rows : List (List AV)) : elemsA sz σ (.vec e rows) = if e = sz ∨ rows = [] then some rows else none := rfl
@[go_sem] theorem elemsA_nil (sz : Nat) : elemsA sz σ (.base (.slice none 0 0)) = some [] := rfl
@[go_sem] theorem elemsA_emp (sz : Nat) : elemsA sz σ .emp = some [] := rfl
@[go_sem] theorem elemsA_sref (sz p m e o l : Nat) : elemsA sz σ (.sref p m e o l) = match sget σ p m with
  | some (.gvec esz' _ rows) => if e = sz ∧ esz' = sz ∧ o + l ≤ rows.length then some ((rows.drop o).take l) else none
  | _ => none := rfl
end
def appYs (P : Program) (t' sz : Nat) (σ : Sto) (y : AV) : Option (List (List AV)) :=
 match y with
 | .str l => if strT P t' ∧ sz = 1 then some (strElems l) else none
 | y => if slcT P t' then elemsA sz σ y else none
def appX (e sz bytes : Nat) (σ : Sto) (nx : Nat) (x : AV) (ys : Option (List (List AV))) : Option (AV × Sto × Nat) :=
 match ys with
 | some ys => (match x with
   | .base (.slice none 0 0) => if ys.length * bytes ≤ limB ∧ ys.length ≤ 4611686018427387904 then (if ys.length = 0 then some (.base (.slice none 0 0), σ, nx) else some (.sref σ.length nx sz 0 ys.length, σ ++ [(nx, .gvec sz e ys)], nx + 1)) else none
   | .emp => if ys.length * bytes ≤ limB ∧ ys.length ≤ 4611686018427387904 then (if ys.length = 0 then some (.emp, σ, nx) else some (.sref σ.length nx sz 0 ys.length, σ ++ [(nx, .gvec sz e ys)], nx + 1)) else none
   | .sref p nm esz off len => match sget σ p nm with
    | some (.gvec esz' e' rows) => if esz = sz ∧ esz' = sz ∧ e' = e ∧ off + len ≤ rows.length ∧ (len + ys.length) * bytes ≤ limB ∧ len + ys.length ≤ 4611686018427387904 then
      some (.sref p nx sz 0 (len + ys.length), σ.set p (nx, .gvec sz e ((rows.drop off).take len ++ ys)), nx + 1) else none
    | _ => none
   | _ => none)
 | none => none
@[go_sem] theorem appendA_eq (P : Program) (t t' : Nat) (σ : Sto) (nx : Nat) (x y : AV) : appendA P t t' σ nx x y = match elmT P t with
  | some (e, sz, bytes) => if 0 < sz ∧ ((zeroCells P e).map (·.length)) = some sz then appX e sz bytes σ nx x (appYs P t' sz σ y) else none
  | none => none := rfl
section
variable {P : Program} {t' sz e bytes : Nat} {σ : Sto} {nx : Nat}
@[go_sem] theorem appYs_str (l : List UInt8) : appYs P t' sz σ (.str l) = if strT P t' ∧ sz = 1 then some (strElems l) else none := rfl
@[go_sem] theorem appYs_vec (n : Nat) (r : List (List AV)) : appYs P t' sz σ (.vec n r) = if slcT P t' then elemsA sz σ (.vec n r) else none := rfl
@[go_sem] theorem appYs_nil : appYs P t' sz σ (.base (.slice none 0 0)) = if slcT P t' then some [] else none := rfl
@[go_sem] theorem appYs_emp : appYs P t' sz σ .emp = if slcT P t' then some [] else none := rfl
@[go_sem] theorem appYs_sref (p m n o l : Nat) : appYs P t' sz σ (.sref p m n o l) = if slcT P t' then elemsA sz σ (.sref p m n o l) else none := rfl
@[go_sem] theorem appX_nil (ys : List (List AV)) : appX e sz bytes σ nx (.base (.slice none 0 0)) (some ys) = if ys.length * bytes ≤ limB ∧ ys.length ≤ 4611686018427387904 then (if ys.length = 0 then some (.base (.slice none 0 0), σ, nx) else some (.sref σ.length nx sz 0 ys.length, σ ++ [(nx, .gvec sz e ys)], nx + 1)) else none := rfl
@[go_sem] theorem appX_sref (ys : List (List AV)) (p nm esz off len : Nat) : appX e sz bytes σ nx (.sref p nm esz off len) (some ys) = match sget σ p nm with
    | some (.gvec esz' e' rows) => if esz = sz ∧ esz' = sz ∧ e' = e ∧ off + len ≤ rows.length ∧ (len + ys.length) * bytes ≤ limB ∧ len + ys.length ≤ 4611686018427387904 then
      some (.sref p nx sz 0 (len + ys.length), σ.set p (nx, .gvec sz e ((rows.drop off).take len ++ ys)), nx + 1) else none
    | _ => none := rfl
end
attribute [go_sem] decide_true decide_false beq_true beq_false Bool.not_eq_true Bool.and_true Bool.true_and Bool.and_false Bool.false_and Bool.or_true Bool.true_or Bool.or_false Bool.false_or Int.natCast_nonneg Int.ofNat_lt Int.ofNat_le Int.toNat_natCast List.length_map Bool.decide_eq_true
attribute [go_sem] List.append_nil List.nil_append List.cons_append List.length_nil List.length_cons List.length_append List.drop_zero List.drop_succ_cons List.take_zero List.take_succ_cons List.take_nil List.drop_nil List.head?_cons List.map_cons List.map_nil List.getElem?_cons_zero List.getElem?_cons_succ
 Option.map_some Option.map_none Option.bind_some Option.bind_none Nat.add_zero Nat.zero_add Bool.false_eq_true Bool.true_eq_false if_true if_false true_and and_true false_and and_false ite_true ite_false List.set_cons_zero List.set_cons_succ
 eq_self not_true_eq_false not_false_eq_true Bool.not_true Bool.not_false List.toList_toArray true_or or_true false_or or_false
@[go_sem] theorem dstIn_nil (d : Option Nat) : dstIn [] d = false := by cases d <;> rfl
@[go_sem] theorem dstIn_none (l : List Nat) : dstIn l none = false := rfl
@[go_sem] theorem dstIn_cons (a d : Nat) (l : List Nat) : dstIn (a :: l) (some d) = if d = a then true else dstIn l (some d) := by
  unfold dstIn
  by_cases h : d = a <;> simp [h]
section
variable {C : Cx} {t : TypeId} {x y : Operand} {k : IntKind} {a b : Int}
@[go_sem] theorem abin_add : abin C .add t x y (.int k a) (.int k b) = some (.int k (k.wrap (a + b))) := by simp [abin, abinInt]
@[go_sem] theorem abin_sub : abin C .sub t x y (.int k a) (.int k b) = some (.int k (k.wrap (a - b))) := by simp [abin, abinInt]
@[go_sem] theorem abin_eql : abin C .eql t x y (.int k a) (.int k b) = some (.bool (decide (a = b))) := by simp [abin, abinInt]
@[go_sem] theorem abin_neq : abin C .neq t x y (.int k a) (.int k b) = some (.bool (!decide (a = b))) := by simp [abin, abinInt]
@[go_sem] theorem abin_lss : abin C .lss t x y (.int k a) (.int k b) = some (.bool (decide (a < b))) := by simp [abin, abinInt]
@[go_sem] theorem abin_gtr : abin C .gtr t x y (.int k a) (.int k b) = some (.bool (decide (b < a))) := by simp [abin, abinInt]
@[go_sem] theorem abin_geq : abin C .geq t x y (.int k a) (.int k b) = some (.bool (decide (b ≤ a))) := by simp [abin, abinInt]
@[go_sem] theorem abin_str {op : BinOp} {p q : List UInt8} : abin C op t x y (.str p) (.str q) = abinStr op p q := by simp [abin]
@[go_sem] theorem abin_beq {p q : Bool} : abin C .eql t x y (.bool p) (.bool q) = if isBoolT C.P t = true then some (.bool (p == q)) else none := by simp [abin]
def nilR (neg : Bool) : Option Bool → Option Bool → Option AV
 | some r, some true => some (.bool (if neg = true then !r else r))
 | _, _ => none
@[go_sem] theorem nilR_some (neg r : Bool) : nilR neg (some r) (some true) = some (.bool (if neg = true then !r else r)) := rfl
theorem wrap64 {z : Int} (h : -9223372036854775808 ≤ z) (h' : z ≤ 9223372036854775807) : IntKind.wrap .i64 z = z := by
 simp [IntKind.wrap, IntKind.bits, IntKind.signed] <;> omega
end
section
variable {K : St → Prop} {Q : AExit → St → Prop} {s : St}
@[go_sem] theorem athen_normal : athen K Q .normal s ↔ K s := Iff.rfl
@[go_sem] theorem athen_exit {i : Nat} : athen K Q (.exit i) s ↔ Q (.exit i) s := Iff.rfl
@[go_sem] theorem athen_ret : athen K Q .ret s ↔ Q .ret s := Iff.rfl
@[go_sem] theorem athen_pan {v : AV} : athen K Q (.pan v) s ↔ Q (.pan v) s := Iff.rfl
@[go_sem] theorem athen_goto {l : Nat} : athen K Q (.goto l) s ↔ Q (.goto l) s := Iff.rfl
@[go_sem] theorem ablock_normal {id : Nat} : ablock id Q .normal s ↔ Q .normal s := Iff.rfl
@[go_sem] theorem ablock_exit {id i : Nat} : ablock id Q (.exit i) s ↔ if i = id then Q .normal s else Q (.exit i) s := Iff.rfl
@[go_sem] theorem ablock_ret {id : Nat} : ablock id Q .ret s ↔ Q .ret s := Iff.rfl
@[go_sem] theorem ablock_pan {id : Nat} {v : AV} : ablock id Q (.pan v) s ↔ Q (.pan v) s := Iff.rfl
@[go_sem] theorem ablock_goto {id : Nat} {l : Nat} : ablock id Q (.goto l) s ↔ Q (.goto l) s := Iff.rfl
end
@[go_sem ↓] theorem resA_tmp (P : Program) (t : Nat) (env : Nat → AV) (σ : Sto) (nx : Nat) : resA P [.tmp t] ⟨env, σ, nx⟩ = some (env t) := rfl
@[go_sem ↓] theorem resA_cell (P : Program) (a T : Nat) (env : Nat → AV) (σ : Sto) (nx : Nat) : resA P [.cell a T] ⟨env, σ, nx⟩ = readA P T σ (env a) := rfl
def two : Option AV → Option AV → Option AV
 | some a, some b => some (.tup [a, b])
 | _, _ => none
def three : Option AV → Option AV → Option AV → Option AV
 | some a, some b, some c => some (.tup [a, b, c])
 | _, _, _ => none
@[go_sem] theorem two_some (a b : AV) : two (some a) (some b) = some (.tup [a, b]) := rfl
@[go_sem] theorem three_some (a b c : AV) : three (some a) (some b) (some c) = some (.tup [a, b, c]) := rfl
@[go_sem ↓] theorem resA_two (P : Program) (r q : ResultVar) (s : St) : resA P [r, q] s = two (res1 P s r) (res1 P s q) := by
  unfold resA two
  simp only [List.mapM_cons, List.mapM_nil]
  cases res1 P s r <;> cases res1 P s q <;> rfl
@[go_sem] theorem res1_tmp (P : Program) (t : Nat) (env : Nat → AV) (σ : Sto) (nx : Nat) : res1 P ⟨env, σ, nx⟩ (.tmp t) = some (env t) := rfl
@[go_sem] theorem res1_cell (P : Program) (a T : Nat) (env : Nat → AV) (σ : Sto) (nx : Nat) : res1 P ⟨env, σ, nx⟩ (.cell a T) = readA P T σ (env a) := rfl
def pfin (F : Nat) (σ : Sto) (Q : AOut → Prop) : Option AV → Prop
 | some r => RF (frzF σ F r) ∧ Q (.ret (frzF σ F r))
 | none => False
@[go_sem] theorem pfin_some (F : Nat) (σ : Sto) (Q : AOut → Prop) (r : AV) : pfin F σ Q (some r) ↔ RF (frzF σ F r) ∧ Q (.ret (frzF σ F r)) := Iff.rfl
theorem pfin_iff (F : Nat) (σ : Sto) (Q : AOut → Prop) (o : Option AV) : pfin F σ Q o ↔ ∃ r, o = some r ∧ RF (frzF σ F r) ∧ Q (.ret (frzF σ F r)) := by
 cases o <;> simp [pfin]
@[go_sem] theorem PPost_ret (C : Cx) (F : Nat) (rs : List ResultVar) (Q : AOut → Prop) (env : Nat → AV) (σ : Sto) (nx : Nat) : PPost C F rs Q .ret ⟨env, σ, nx⟩ ↔ pfin F σ Q (resA C.P rs ⟨env, σ, nx⟩) := (pfin_iff _ _ _ _).symm
@[go_sem] theorem PPost_pan (C : Cx) (F : Nat) (rs : List ResultVar) (Q : AOut → Prop) (v : AV) (s : St) : PPost C F rs Q (.pan v) s ↔ RF (frzF s.σ F v) ∧ Q (.pan (frzF s.σ F v)) := Iff.rfl
@[go_sem] theorem frzF_zero (σ : Sto) (v : AV) : frzF σ 0 v = v := rfl
@[go_sem] theorem RF_int (k : IntKind) (n : Int) : RF (.int k n) ↔ True := Iff.rfl
@[go_sem] theorem RF_bool (b : Bool) : RF (.bool b) ↔ True := Iff.rfl
@[go_sem] theorem RF_str (l : List UInt8) : RF (.str l) ↔ True := Iff.rfl
@[go_sem] theorem RF_base (v : Value) : RF (.base v) ↔ True := Iff.rfl
@[go_sem] theorem RF_emp : RF .emp ↔ True := Iff.rfl
@[go_sem] theorem RF_any : RF .any ↔ True := Iff.rfl
@[go_sem] theorem RF_agg (l : List AV) : RF (.agg l) ↔ RFL l := by simp only [RF]
@[go_sem] theorem RF_tup (l : List AV) : RF (.tup l) ↔ RFL l := by simp only [RF]
@[go_sem] theorem RF_fn (f : Fn) (a b : List AV) : RF (.fn f a b) ↔ RFL a ∧ RFL b := by simp only [RF]
@[go_sem] theorem RFL_nil : RFL [] ↔ True := by simp only [RFL]
@[go_sem] theorem RFL_cons (a : AV) (l : List AV) : RFL (a :: l) ↔ RF a ∧ RFL l := by simp only [RFL]
def afin (σ : Sto) (nx : Nat) (Q : AOut → Sto → Nat → Prop) : Option AV → Prop
 | some r => Q (.ret r) σ nx
 | none => False
@[go_sem] theorem afin_some (σ : Sto) (nx : Nat) (Q : AOut → Sto → Nat → Prop) (r : AV) : afin σ nx Q (some r) ↔ Q (.ret r) σ nx := Iff.rfl
theorem afin_iff (σ : Sto) (nx : Nat) (Q : AOut → Sto → Nat → Prop) (o : Option AV) : afin σ nx Q o ↔ ∃ r, o = some r ∧ Q (.ret r) σ nx := by
 cases o <;> simp [afin]
@[go_sem] theorem APost_ret (C : Cx) (rs : List ResultVar) (Q : AOut → Sto → Nat → Prop) (env : Nat → AV) (σ : Sto) (nx : Nat) : APost C rs Q .ret ⟨env, σ, nx⟩ ↔ afin σ nx Q (resA C.P rs ⟨env, σ, nx⟩) := (afin_iff _ _ _ _).symm
@[go_sem] theorem APost_pan (C : Cx) (rs : List ResultVar) (Q : AOut → Sto → Nat → Prop) (v : AV) (env : Nat → AV) (σ : Sto) (nx : Nat) : APost C rs Q (.pan v) ⟨env, σ, nx⟩ ↔ Q (.pan v) σ nx := Iff.rfl
abbrev Gets (r : AV) (σ : Sto) (nx : Nat) : AOut → Sto → Nat → Prop := fun o σ' nx' => o = .ret r ∧ σ' = σ ∧ nx' = nx
@[go_sem] theorem Gets_iff (r : AV) (σ σ' : Sto) (nx nx' : Nat) (o : AOut) : Gets r σ nx o σ' nx' ↔ o = .ret r ∧ σ' = σ ∧ nx' = nx := Iff.rfl
theorem CallP.acall {C : Cx} {tot : Bool} {g : FuncId} {args : List AV} {σ σ1 : Sto} {nx nx1 : Nat} {K KP : AV → Sto → Nat → Prop} {r : AV} (h : ACall C g args σ nx (Gets r σ1 nx1)) (hk : K r σ1 nx1) : CallP C true tot g args σ nx K KP :=
 ⟨_, h, (by rintro v σ' nx' ⟨hq, rfl, rfl⟩; cases hq; exact hk), (by rintro v σ' nx' ⟨hq, _, _⟩; cases hq), .inr ⟨r, σ1, nx1, rfl, rfl, rfl⟩, .inl rfl⟩
abbrev GetsN (r : AV) (σ : Sto) : AOut → Sto → Nat → Prop := fun o σ' _ => o = .ret r ∧ σ' = σ
@[go_sem] theorem GetsN_iff (r : AV) (σ σ' : Sto) (nx' : Nat) (o : AOut) : GetsN r σ o σ' nx' ↔ o = .ret r ∧ σ' = σ := Iff.rfl
theorem CallP.rel {C : Cx} {own tot : Bool} {g : FuncId} {args : List AV} {σ : Sto} {nx : Nat} {K KP : AV → Sto → Nat → Prop} {Q : AOut → Prop} (h : PCall C g args Q) (hf : RFL args) (hk : ∀ v, Q (.ret v) → K v σ nx) (hp : ∀ v, Q (.pan v) → KP v σ nx) (ht : tot = true ∨ ∃ v, Q (.ret v)) : CallP C own tot g args σ nx K KP :=
 ⟨_, h.acall hf σ nx, (by rintro v σ' nx' ⟨hq, rfl, rfl⟩; exact hk v hq), (by rintro v σ' nx' ⟨hq, rfl, rfl⟩; exact hp v hq), (ht.elim .inl fun ⟨v, hv⟩ => .inr ⟨v, σ, nx, hv, rfl, rfl⟩), .inr ⟨hf, _, h, fun _ _ _ => Iff.rfl⟩⟩
attribute [go_sem] Nat.lt_irrefl Nat.zero_lt_succ decide_not List.take_length List.length_replicate List.drop_replicate List.take_replicate List.replicate_zero Nat.sub_self Nat.le_refl Nat.add_sub_cancel Int.natCast_pos Int.natCast_eq_zero Int.natCast_inj Int.le_refl Int.toNat_zero Nat.sub_zero
@[go_sem] theorem frzF_int (σ : Sto) (F : Nat) (k : IntKind) (n : Int) : frzF σ F (.int k n) = .int k n := by cases F <;> rfl
@[go_sem] theorem frzF_bool (σ : Sto) (F : Nat) (b : Bool) : frzF σ F (.bool b) = .bool b := by cases F <;> rfl
@[go_sem] theorem frzF_str (σ : Sto) (F : Nat) (l : List UInt8) : frzF σ F (.str l) = .str l := by cases F <;> rfl
theorem pcall_mk {C : Cx} {g : FuncId} {fn : Func} {c : Code} {args : List AV} (F n : Nat) (rs : List ResultVar) (hf : C.P.funcs[g]? = some fn) (hb : fn.body = some c) (hname : (fn.name == "runtime.NumGoroutine") = false) (hn : fn.ntmps = n) (hr : fn.results.toList = rs) (hl : Nat.ble args.length n = true) {Q : AOut → Prop}
  (h : aw C n [] c (PPost C F rs Q) ⟨argEnv args, [], 0⟩) : PCall C g args Q := by
 subst hn; subst hr
 exact pcall_intro F hf hb hname (Nat.le_of_ble_eq_true hl) h
theorem acall_mk {C : Cx} {g : FuncId} {fn : Func} {c : Code} {args : List AV} {σ : Sto} {nx : Nat} (n : Nat) (rs : List ResultVar) (hf : C.P.funcs[g]? = some fn) (hb : fn.body = some c) (hname : (fn.name == "runtime.NumGoroutine") = false) (hn : fn.ntmps = n) (hr : fn.results.toList = rs) (hl : Nat.ble args.length n = true) {Q : AOut → Sto → Nat → Prop}
  (h : aw C n [] c (APost C rs Q) ⟨argEnv args, σ, nx⟩) : ACall C g args σ nx Q := by
 subst hn; subst hr
 exact acall_intro hf hb hname (Nat.le_of_ble_eq_true hl) h
theorem aw_if {C : Cx} {n : Nat} {ds : List Deferred} {Q : AExit → St → Prop} {s : St} {c : Operand} {x y : Code} (p : Prop) [Decidable p] (hc : opv C s.env c = .bool (decide p)) (ht : p → aw C n ds x Q s) (hf : ¬p → aw C n ds y Q s) : aw C n ds (.cond c x y) Q s :=
 aw_cond hc (fun h => ht (of_decide_eq_true h)) (fun h => hf (of_decide_eq_false h))
section
variable {C : Cx} {n : Nat} {ds : List Deferred} {K : St → Prop} {Q : AExit → St → Prop} {s : St} {e : AExit}
theorem ablock_here {id : Nat} (h : Q .normal s) : ablock id Q (.exit id) s := by simp only [ablock, if_true]; exact h
theorem ablock_pass {id i : Nat} (hne : Nat.beq i id = false) (h : Q (.exit i) s) : ablock id Q (.exit i) s := by
 have : i ≠ id := fun e => by subst e; simp at hne
 simp only [ablock, if_neg this]; exact h
def afor (k : Nat) (Q : AExit → St → Prop) : AExit → St → Prop := fun e s => Q e ⟨s.env, s.σ.take k, s.nx⟩
theorem aw_forget' {c : Code} (k : Nat) (hk : s.σ.length = k) (h : aw C n ds c (afor k Q) s) : aw C n ds c Q s :=
 aw_forget (aw_mono h fun e s' hq => ⟨k, by omega, hq⟩)
theorem afor_one {env : Nat → AV} {a : Nat × AObj} {σ : Sto} {nx : Nat} (h : Q e ⟨env, [a], nx⟩) : afor 1 Q e ⟨env, a :: σ, nx⟩ := by simpa [afor] using h
theorem aw_loop' {c : Code} (J : Nat → St → Prop) (round : ∀ d s, J d s → aw C n ds c (athen (fun s' => ∃ d', d' < d ∧ J d' s') Q) s) (h₀ : ∃ d, J d s) : aw C n ds (.loop c) Q s :=
 h₀.elim fun _ h => aw_loop J round h
end
theorem sget_end (σ l : Sto) (n : Nat) (o : AObj) : sget (σ ++ (n, o) :: l) σ.length n = some o := by simp [sget]
theorem set_end (σ l : Sto) (a b : Nat × AObj) : (σ ++ a :: l).set σ.length b = σ ++ b :: l := by simp
theorem take_end (σ l : Sto) : (σ ++ l).take σ.length = σ := by simp
attribute [go_sem] sget_end set_end take_end
end Go.Ab

namespace Go.Ab
open Go Go.RowKit
def DRel (kn : Kn) (m : Mp) (x : FuncId × List AV) (d : Deferred) : Prop :=
 ∃ cap, d.target = .fn (.func x.1) cap ∧ RelL kn m x.2 (d.args ++ cap).toList
def DRelL (kn : Kn) (m : Mp) : List (FuncId × List AV) → List Deferred → Prop
 | [], ds => ds = []
 | x :: l, ds => ∃ d ds', ds = d :: ds' ∧ DRel kn m x d ∧ DRelL kn m l ds'
theorem DRelL.mono {kn kn' : Kn} {m m' : Mp} (hk : KnLe kn kn') (hm : MpLe m m') : ∀ {l : List (FuncId × List AV)} {ds : List Deferred}, DRelL kn m l ds → DRelL kn' m' l ds
 | [], ds, h => h
 | x :: l, ds, ⟨d, ds', h1, ⟨cap, h2, h3⟩, h4⟩ => ⟨d, ds', h1, ⟨cap, h2, h3.mono hk hm⟩, DRelL.mono hk hm h4⟩
def RelMode (kn : Kn) (m : Mp) : Option AV → FrameMode → Prop
 | none, u => u = .returning
 | some x, u => ∃ v, u = .panicking [{ v := v, recovered := false }] ∧ Rel kn m x v
theorem RelMode.run {kn : Kn} {m : Mp} {x : Option AV} {u : FrameMode} (h : RelMode kn m x u) : u ≠ .run := by
 cases x with
 | none => simp only [RelMode] at h; subst h; simp
 | some x => obtain ⟨v, rfl, _⟩ := h; simp
def DCall (C : Cx) (g : FuncId) (args : List AV) (σ : Sto) (nx : Nat) (u : Option AV) (R : Option AV → Sto → Nat → Prop) : Prop :=
 bodyOK C.P g = true ∧ ∀ (B : Base) (kn : Kn) (m : Mp) (w : World) (vs : List Value) (um : FrameMode), Inv C B kn m σ nx w → RelL kn m args vs → RelMode kn m u um →
  CallsD C.P g vs.toArray um w fun e u' w' => (∃ v, e = .returned v) ∧ ∃ x kn' m' σ' nx', R x σ' nx' ∧ RelMode kn' m' x (settle u') ∧ KnLe kn kn' ∧ Inv C B kn' m' σ' nx' w' ∧ Keep m σ nx m' σ' nx'
def LeavesA (C : Cx) (rs : List ResultVar) (Q : AOut → Sto → Nat → Prop) : List (FuncId × List AV) → Option AV → St → Prop
 | [], none, s => ∃ r, resA C.P rs s = some r ∧ Q (.ret r) s.σ s.nx
 | [], some v, s => Q (.pan v) s.σ s.nx
 | x :: l, u, s => ∃ R, DCall C x.1 x.2 s.σ s.nx u R ∧ ∀ u' σ' nx', R u' σ' nx' → LeavesA C rs Q l u' ⟨s.env, σ', nx'⟩
section
variable {C : Cx} {n : Nat} {dl : List (FuncId × List AV)} {Q : AExit → List (FuncId × List AV) → St → Prop} {s : St} {x y : Code}
end
section
variable {C : Cx} {n : Nat} {dl : List (FuncId × List AV)} {Q : AExit → List (FuncId × List AV) → St → Prop} {s : St}
end
def DPost (C : Cx) (rs : List ResultVar) (Q : AOut → Sto → Nat → Prop) : AExit → List (FuncId × List AV) → St → Prop
 | .normal, dl, s => LeavesA C rs Q dl none s
 | .ret, dl, s => LeavesA C rs Q dl none s
 | .pan v, dl, s => LeavesA C rs Q dl (some v) s
 | _, _, _ => False
section
variable {C : Cx} {B : Base} {n : Nat} {ds : List Deferred} {kn₀ : Kn} {m₀ : Mp} {σ₀ : Sto} {nx₀ : Nat} {ops : Array Oper} {p₀ n₀ : Nat}
end
end Go.Ab

namespace Go.Ab
open Go Go.RowKit
section
variable {C : Cx} {n : Nat} {ds : List Deferred} {Q : AExit → St → Prop} {s : St} {id : Nat} {ops : Array Oper} {y : Code} {objs : Sto}
end
@[go_sem] theorem DPost_ret (C : Cx) (rs : List ResultVar) (Q : AOut → Sto → Nat → Prop) (dl : List (FuncId × List AV)) (s : St) : DPost C rs Q .ret dl s ↔ LeavesA C rs Q dl none s := Iff.rfl
@[go_sem] theorem DPost_normal (C : Cx) (rs : List ResultVar) (Q : AOut → Sto → Nat → Prop) (dl : List (FuncId × List AV)) (s : St) : DPost C rs Q .normal dl s ↔ LeavesA C rs Q dl none s := Iff.rfl
@[go_sem] theorem DPost_pan (C : Cx) (rs : List ResultVar) (Q : AOut → Sto → Nat → Prop) (dl : List (FuncId × List AV)) (s : St) (v : AV) : DPost C rs Q (.pan v) dl s ↔ LeavesA C rs Q dl (some v) s := Iff.rfl
end Go.Ab

namespace Go.Ab
open Go Go.RowKit
def Agr (D : List Nat) (a a' : Act) : Prop := ∀ t, t ∉ D → a'.tmps.getD t undef = a.tmps.getD t undef
theorem Agr.put {D : List Nat} {a a' : Act} (h : Agr D a a') {dst : Option Tmp} (hd : ∀ d, dst = some d → d ∈ D) (v : Value) : Agr D a (a'.put dst v) := by
 intro t ht
 rw [← h t ht]
 cases dst with
 | none => rfl
 | some d =>
  have hne : d ≠ t := fun e => ht (e ▸ hd d rfl)
  simp only [Act.put, Array.getD_eq_getD_getElem?]
  rw [Array.getElem?_setIfInBounds_ne hne]
section
variable {P : Program} {ops : Array Oper} {Q : Exit → Act → World → Prop} {D : List Nat} {a₀ : Act}
end
@[go_sem] theorem leavesA_pan (C : Cx) (rs : List ResultVar) (Q : AOut → Sto → Nat → Prop) (v : AV) (env : Nat → AV) (σ : Sto) (nx : Nat) : LeavesA C rs Q [] (some v) ⟨env, σ, nx⟩ ↔ Q (.pan v) σ nx := Iff.rfl
attribute [go_sem] Int.cast_ofNat_Int Int.reduceNeg
section
variable {C : Cx} {n : Nat} {ds : List Deferred} {Q : AExit → St → Prop} {s : St} {id : Nat} {ops : Array Oper} {y : Code} {objs : Sto} {H : Hints}
end
end Go.Ab

namespace Go.Ab
open Go Go.RowKit
def mask (lo hi : Nat) (env junk : Nat → AV) : Nat → AV := fun t => if lo ≤ t ∧ t ≤ hi then junk t else env t
@[go_sem] theorem mask_eq (lo hi : Nat) (env junk : Nat → AV) (t : Nat) : mask lo hi env junk t = if lo ≤ t ∧ t ≤ hi then junk t else env t := rfl
attribute [go_sem] true_and and_true and_self false_and and_false
section
variable {C : Cx} {n : Nat} {ds : List Deferred} {Q : AExit → St → Prop} {s : St} {id : Nat} {ops : Array Oper} {y : Code} {H : Hints}
end
attribute [go_sem] Nat.reduceEqDiff Nat.reduceLT Nat.reduceAdd Nat.reduceMul Nat.reduceLeDiff Int.reduceLE Int.reduceLT Int.reduceToNat Int.reduceEq
end Go.Ab

set_option maxRecDepth 100000
namespace Go.Ab
open Go Go.Proofs
@[go_sem] theorem aggT_131 : aggT Tryz.prog 131 = some true := by kernel_rfl
@[go_sem] theorem aggT_4 : aggT Tryz.prog 4 = some false := by kernel_rfl
@[go_sem] theorem arrT_131 : arrT Tryz.prog 131 = some (256, 4, 1) := by kernel_rfl
@[go_sem] theorem elmT_131 : elmT Tryz.prog 131 = none := by kernel_rfl
@[go_sem] theorem isBoolT_4 : isBoolT Tryz.prog 4 = true := by kernel_rfl
@[go_sem] theorem strT_9 : strT Tryz.prog 9 = true := by kernel_rfl
@[go_sem] theorem szT_131 : szT Tryz.prog 131 = some 256 := by kernel_rfl
@[go_sem] theorem szT_4 : szT Tryz.prog 4 = some 1 := by kernel_rfl
@[go_sem] theorem zero_131 : zeroCells Tryz.prog 131 = some (List.replicate 256 (.bool false)) := by kernel_rfl
theorem mixed : Tryz.prog.follows .mixedOrders = true := by kernel_rfl
end Go.Ab

namespace Go.Ab
open Go Go.RowKit
structure XS where
 env : List AV
 σ : Sto
 nx : Nat
def xenv (l : List AV) : Nat → AV := fun t => l.getD t .undef
def XS.st (x : XS) : St := ⟨xenv x.env, x.σ, x.nx⟩
def E.av : (e : E) → e.den → AV
 | .int k, n => .int k n
 | .bool, b => .bool b
 | .str, l => .str l
 | .erri, b => .erri b
 | .form, f => .agg (E.cells .form f)
 | .un, x => .agg (E.cells .un x)
 | .pr a b, x => .agg (E.cells (.pr a b) x)
 | .slice e, l => .tvec e l
def aggE : E → Bool
 | .form => true
 | .un => true
 | .pr _ _ => true
 | _ => false
def cellsV (e : E) (v : AV) : Option (List AV) :=
 match aggE e with
 | true => match v with
  | .agg cs => some cs
  | _ => none
 | false => match v with
  | .agg _ => none
  | v => some [v]
def absE (e : E) (v : AV) : Option e.den := (cellsV e v).bind (absC absF e)
theorem E.av_rf : ∀ (e : E) (x : e.den), RF (e.av x)
 | .int _, _ => trivial
 | .bool, _ => trivial
 | .str, _ => trivial
 | .erri, _ => trivial
 | .form, f => E.cells_rf .form f
 | .un, x => E.cells_rf .un x
 | .pr a b, x => E.cells_rf (.pr a b) x
 | .slice _, _ => trivial
theorem E.av_agg (e : E) (x : e.den) (h : aggE e = true) : e.av x = .agg (e.cells x) := by cases e <;> first | rfl | (simp [aggE] at h)
theorem E.av_one (e : E) (x : e.den) (h : aggE e = false) : e.cells x = [e.av x] := by cases e <;> first | rfl | (simp [aggE] at h)
theorem rel_agg {kn : Kn} {m : Mp} {cs ds : List AV} {v : Value} (h : Rel kn m (.agg cs) v) (hc : ∀ us, RelL kn m cs us → RelL kn m ds us) : Rel kn m (.agg ds) v := by
 cases h with
 | agg _ vs hl hr h1 =>
  have := hc vs.toList ⟨by simpa using hl, fun i x v a b => hr i x v a (by simpa using b)⟩
  exact .agg ds vs (by simpa using this.1) (fun i x v a b => this.2 i x v a (by simpa using b)) h1
theorem absE_rel {kn : Kn} {m : Mp} {e : E} {v : AV} {x : e.den} (h : absE e v = some x) {u : Value} (hr : Rel kn m v u) : Rel kn m (e.av x) u := by
 unfold absE cellsV at h
 obtain ⟨cs, h1, h2⟩ := Option.bind_eq_some_iff.1 h
 have hcells : ∀ us, RelL kn m cs us → RelL kn m (e.cells x) us := fun us hh => (E.rel_cells e x us).2 (absC_sound absF e cs x h2 us hh)
 split at h1
 ·rename_i he
  split at h1
  ·cases h1
   rw [E.av_agg e x he]
   exact rel_agg hr hcells
  ·cases h1
 ·rename_i he
  split at h1
  ·cases h1
  ·cases h1
   have := hcells [u] (relL_one.2 ⟨u, rfl, hr⟩)
   rw [E.av_one e x he] at this
   obtain ⟨u', e', h'⟩ := relL_one.1 this
   cases e'; exact h'
def eqA : AV → AV → Bool
 | .base .nilIface, .base .nilIface => true
 | .base (.slice none 0 0), .base (.slice none 0 0) => true
 | .base (.pointer none), .base (.pointer none) => true
 | .base (.map none), .base (.map none) => true
 | .base .nilFunc, .base .nilFunc => true
 | .fn (.func f) [] [], .fn (.func g) [] [] => Nat.beq f g
 | .tup [], .tup [] => true
 | .base (.tuple ⟨[]⟩), .base (.tuple ⟨[]⟩) => true
 | _, _ => false
theorem eqA_sound {a b : AV} (h : eqA a b = true) : a = b ∧ RF a := by
 unfold eqA at h
 split at h <;> first | exact ⟨rfl, by simp [RF, RFL]⟩ | (cases h; done) | skip
 have := Nat.eq_of_beq_eq_true h
 subst this
 exact ⟨rfl, by simp [RF, RFL]⟩
inductive Sh where
 | d (e : E)
 | c (v : AV)
 | ref (slot off : Nat)
 | gs (slot : Nat) (e : E)
 | mref (slot off : Nat)
 | gv (slot : Nat) (e : E)
 | agg (l : List Sh)
 | tup (l : List Sh)
 | rptr (l : List Sh)
 | fn (f : Fn) (first caps : List Sh)
 | iface (t : TypeId) (s : Sh)
mutual
def Sh.den : Sh → Type
 | .d e => e.den
 | .c _ => Unit
 | .ref _ _ => Unit
 | .gs _ _ => Unit
 | .mref _ _ => Bool
 | .gv _ _ => Nat × Nat
 | .agg l => Sh.denL l
 | .tup l => Sh.denL l
 | .rptr l => Sh.denL l
 | .fn _ a b => Sh.denL a × Sh.denL b
 | .iface _ s => s.den
def Sh.denL : List Sh → Type
 | [] => Unit
 | s :: l => s.den × Sh.denL l
end
abbrev Pl := Nat → Nat × Nat × Nat
mutual
def patV (ρ : Pl) : (s : Sh) → s.den → AV
 | .d e, x => e.av x
 | .c v, _ => v
 | .ref j off, _ => .ref (ρ j).1 (ρ j).2.1 off
 | .gs j e, _ => .gs (ρ j).1 (ρ j).2.1 e (ρ j).2.2
 | .mref j off, (b : Bool) => .mref (ρ j).1 (ρ j).2.1 off b
 | .gv j e, (x : Nat × Nat) => .gv (ρ j).1 (ρ j).2.1 e x.1 x.2
 | .agg l, x => .agg (patL ρ l x)
 | .tup l, x => .tup (patL ρ l x)
 | .rptr l, x => .rptr (patL ρ l x)
 | .fn f a b, x => .fn f (patL ρ a x.1) (patL ρ b x.2)
 | .iface t s, x => .iface t (patV ρ s x)
def patL (ρ : Pl) : (l : List Sh) → Sh.denL l → List AV
 | [], _ => []
 | s :: l, x => patV ρ s x.1 :: patL ρ l x.2
end
inductive OSh where
 | cells (T : TypeId) (l : List Sh)
 | tg (e : E) (ety : TypeId)
 | stk (e : E) (ety : TypeId)
def isSk : OSh → Bool
 | .stk _ _ => true
 | _ => false
def anySk : List (Bool × OSh) → Bool
 | [] => false
 | (_, o) :: l => isSk o || anySk l
def OSh.den : OSh → Type
 | .cells _ l => Sh.denL l
 | .tg e _ => List e.den
 | .stk e _ => List (List e.den)
abbrev Slots := List (Bool × OSh)
inductive Bnd where
 | nil
 | at (p nm : Nat)
 deriving DecidableEq
abbrev Binds := List (Nat × Bnd)
def bget : Binds → Nat → Option Bnd
 | [], _ => none
 | (j', b) :: l, j => if j' = j then some b else bget l j
def bfree (p : Nat) : Binds → Bool
 | [] => true
 | (_, .nil) :: l => bfree p l
 | (_, .at p' _) :: l => !(Nat.beq p' p) && bfree p l
def bput (j : Nat) (b : Bnd) (β : Binds) : Option Binds :=
 match bget β j with
 | some b' => if b' = b then some β else none
 | none => match b with
  | .nil => some ((j, .nil) :: β)
  | .at p nm => if bfree p β = true then some ((j, .at p nm) :: β) else none
def oTg (o : OSh) (e : E) : Bool :=
 match o with
 | .tg e' _ => decide (e' = e)
 | .stk e' _ => decide (.slice e' = e)
 | _ => false
def slotTg (os : Slots) (j : Nat) (e : E) : Bool :=
 match os[j]? with
 | some (_, o) => oTg o e
 | none => false
def pairO {α β : Type} (b : β) : Option α → Option (α × β)
 | some a => some (a, b)
 | none => none
def unitO {β : Type} : Option β → Option (Unit × β)
 | some b => some ((), b)
 | none => none
mutual
def absV (os : Slots) (β : Binds) : (s : Sh) → AV → Option (s.den × Binds)
 | .d e, v => pairO β (absE e v)
 | .c a, v => if eqA a v = true then some ((), β) else none
 | .ref j off, v => match v with
  | .ref p nm off' => if off' = off ∧ (os[j]?).isSome = true then unitO (bput j (.at p nm) β) else none
  | _ => none
 | .gs j e, v => match v with
  | .gs p nm e' _ => if e' = e ∧ slotTg os j e = true then unitO (bput j (.at p nm) β) else none
  | .base (.slice none 0 0) => if slotTg os j e = true then unitO (bput j .nil β) else none
  | _ => none
 | .mref j off, v => match v with
  | .ref p nm off' => if off' = off ∧ (os[j]?).isSome = true then (match bput j (.at p nm) β with
   | some β' => some (true, β')
   | none => none) else none
  | .mref p nm off' b => if off' = off ∧ bget β j = some (.at p nm) then some (b, β) else none
  | .base (.pointer none) => some (false, β)
  | _ => none
 | .gv j e, v => match v with
  | .gv p nm e' off len => if e' = e ∧ bget β j = some (.at p nm) then some ((off, len), β) else none
  | _ => none
 | .agg l, v => match v with
  | .agg cs => absL os β l cs
  | _ => none
 | .tup l, v => match v with
  | .tup cs => absL os β l cs
  | _ => none
 | .rptr l, v => match v with
  | .rptr cs => absL os β l cs
  | _ => none
 | .fn f a b, v => match v with
  | .fn f' x y => if f' = f then (match absL os β a x with
   | some (a', β1) => match absL os β1 b y with
    | some (b', β2) => some ((a', b'), β2)
    | none => none
   | none => none) else none
  | _ => none
 | .iface t s, v => match v with
  | .iface t' x => if t' = t then absV os β s x else none
  | _ => none
def absL (os : Slots) (β : Binds) : (l : List Sh) → List AV → Option (Sh.denL l × Binds)
 | [], vs => match vs with
  | [] => some ((), β)
  | _ :: _ => none
 | s :: l, vs => match vs with
  | v :: vs => match absV os β s v with
   | some (x, β1) => match absL os β1 l vs with
    | some (y, β2) => some ((x, y), β2)
    | none => none
   | none => none
  | [] => none
end
structure SS where
 env : List (Nat × Sh)
 objs : Slots
def denE : List (Nat × Sh) → Type
 | [] => Unit
 | (_, s) :: l => s.den × denE l
def denO : Slots → Type
 | [] => Unit
 | (_, o) :: l => o.den × denO l
def SS.den (ss : SS) : Type := denE ss.env × denO ss.objs
def absEnv (os : Slots) (β : Binds) : (l : List (Nat × Sh)) → List AV → Option (denE l × Binds)
 | [], _ => some ((), β)
 | (t, s) :: l, env => match absV os β s (env.getD t .undef) with
  | some (x, β1) => match absEnv os β1 l env with
   | some (y, β2) => some ((x, y), β2)
   | none => none
  | none => none
def absCellsO (os : Slots) (β : Binds) (σ : Sto) (T : TypeId) (l : List Sh) (b : Option Bnd) : Option (Sh.denL l × Binds) :=
 match b with
 | some (.at p nm) => match sget σ p nm with
  | some (.cells T' cs) => if T' = T then absL os β l cs else none
  | _ => none
 | _ => none
def absTgO (β : Binds) (σ : Sto) (e : E) (ety : TypeId) (b : Option Bnd) : Option (List e.den × Binds) :=
 match b with
 | some (.at p nm) => match sget σ p nm with
  | some (.tg e' ety' l) => if h : e' = e then (if ety' = ety then some (castL h l, β) else none) else none
  | _ => none
 | some .nil => some ([], β)
 | none => none
def absSkO (β : Binds) (σ : Sto) (e : E) (ety : TypeId) (b : Option Bnd) : Option (List (List e.den) × Binds) :=
 match b with
 | some (.at p nm) => match sget σ p nm with
  | some (.stk e' ety' l .no) => if h : E.slice e' = .slice e then (if ety' = ety then some (castL h l, β) else none) else none
  | _ => none
 | _ => none
def absO (os : Slots) (β : Binds) (σ : Sto) (b : Option Bnd) : (o : OSh) → Option (o.den × Binds)
 | .cells T l => absCellsO os β σ T l b
 | .tg e ety => absTgO β σ e ety b
 | .stk e ety => absSkO β σ e ety b
def absOs (os : Slots) (σ : Sto) (β : Binds) (j : Nat) : (l : Slots) → Option (denO l × Binds)
 | [] => some ((), β)
 | (_, o) :: l => match absO os β σ (bget β j) o with
  | some (x, β1) => match absOs os σ β1 (j + 1) l with
   | some (y, β2) => some ((x, y), β2)
   | none => none
  | none => none
def binds0 (j : Nat) : Slots → Binds
 | [] => []
 | (true, _) :: l => (j, .at j j) :: binds0 (j + 1) l
 | (false, _) :: l => binds0 (j + 1) l
def absS (ss : SS) (x : XS) : Option ss.den :=
 match absEnv ss.objs (binds0 0 ss.objs) ss.env x.env with
 | some (a, β1) => match absOs ss.objs x.σ β1 0 ss.objs with
  | some (o, _) => some (a, o)
  | none => none
 | none => none
def lenO (o : OSh) (x : o.den) : Nat := match o, x with
 | .cells _ _, _ => 0
 | .tg _ _, (l : List _) => l.length
 | .stk _ _, (l : List (List _)) => l.length
def lensO : (l : Slots) → denO l → Nat → Nat
 | [], _, _ => 0
 | (_, o) :: _, x, 0 => lenO o x.1
 | _ :: l, x, j + 1 => lensO l x.2 j
def nameOf (k j : Nat) (os : Slots) : Nat := match os[j]? with
 | some (true, _) => j
 | _ => k + j
def plO (k : Nat) (os : Slots) (x : denO os) : Pl := fun j => (j, nameOf k j os, lensO os x j)
def patE (ρ : Pl) : (l : List (Nat × Sh)) → denE l → Nat → AV
 | [], _, _ => .any
 | (t', s) :: l, x, t => if t' = t then patV ρ s x.1 else patE ρ l x.2 t
def patO (ρ : Pl) (o : OSh) (x : o.den) : AObj := match o, x with
 | .cells T l, x => .cells T (patL ρ l x)
 | .tg e ety, x => .tg e ety x
 | .stk e ety, x => .stk e ety x .no
def patOs (ρ : Pl) (nm : Nat → Nat) (j : Nat) : (l : Slots) → denO l → Sto
 | [], _ => []
 | (_, o) :: l, x => (nm j, patO ρ o x.1) :: patOs ρ nm (j + 1) l x.2
def listTo (f : Nat → AV) : Nat → Nat → List AV
 | 0, _ => []
 | n + 1, t => f t :: listTo f n (t + 1)
def patS (k n : Nat) (ss : SS) (d : ss.den) : XS :=
 ⟨listTo (patE (plO k ss.objs d.2) ss.env d.1) n 0, patOs (plO k ss.objs d.2) (fun j => nameOf k j ss.objs) 0 ss.objs d.2, k + ss.objs.length⟩
end Go.Ab

namespace Go.Ab
open Go Go.RowKit
def Ext (β β' : Binds) : Prop := ∀ j b, bget β j = some b → bget β' j = some b
theorem Ext.refl (β : Binds) : Ext β β := fun _ _ h => h
theorem Ext.trans {a b c : Binds} (h : Ext a b) (k : Ext b c) : Ext a c := fun j x e => k j x (h j x e)
structure VB (m : Mp) (os : Slots) (β : Binds) : Prop where
 dom : ∀ j b, bget β j = some b → (os[j]?).isSome = true
 laid : ∀ j p nm, bget β j = some (.at p nm) → ∃ loc, m nm = some loc
 one : ∀ j j' p nm nm', bget β j = some (.at p nm) → bget β j' = some (.at p nm') → j = j'
theorem bfree_spec {p : Nat} : ∀ {β : Binds}, bfree p β = true → ∀ j nm, bget β j = some (.at p nm) → False
 | [], _, j, nm, e => by simp [bget] at e
 | (j', .nil) :: l, h, j, nm, e => by
  simp only [bget] at e
  split at e
  ·cases e
  ·exact bfree_spec (β := l) h j nm e
 | (j', .at p' n') :: l, h, j, nm, e => by
  simp only [bfree, Bool.and_eq_true, Bool.not_eq_true'] at h
  simp only [bget] at e
  split at e
  ·cases e; simp at h
  ·exact bfree_spec (β := l) h.2 j nm e
theorem bput_ext {j : Nat} {b : Bnd} {β β' : Binds} (h : bput j b β = some β') : Ext β β' ∧ bget β' j = some b ∧ ∀ j' b', bget β' j' = some b' → bget β j' = some b' ∨ (j' = j ∧ b' = b ∧ bget β j = none ∧ ∀ p nm, b = .at p nm → bfree p β = true) := by
 unfold bput at h
 split at h
 ·rename_i b0 hb
  split at h
  ·rename_i e; subst e; cases h; exact ⟨.refl _, hb, fun j' b' e => .inl e⟩
  ·cases h
 ·rename_i hb
  have key : ∀ b', Ext β ((j, b') :: β) ∧ bget ((j, b') :: β) j = some b' ∧ ∀ j2 b2, bget ((j, b') :: β) j2 = some b2 → bget β j2 = some b2 ∨ (j2 = j ∧ b2 = b') := fun b' => by
   refine ⟨fun j2 b2 e => ?_, by simp [bget], fun j2 b2 e => ?_⟩
   ·simp only [bget]
    split
    ·rename_i e'; subst e'; rw [hb] at e; cases e
    ·exact e
   ·simp only [bget] at e
    split at e
    ·rename_i e'; subst e'; cases e; exact .inr ⟨rfl, rfl⟩
    ·exact .inl e
  split at h
  ·cases h
   obtain ⟨k1, k2, k3⟩ := key .nil
   exact ⟨k1, k2, fun j2 b2 e => (k3 j2 b2 e).imp_right fun q => ⟨q.1, q.2, hb, fun p nm e => by cases e⟩⟩
  ·rename_i p nm
   split at h
   ·rename_i hf
    cases h
    obtain ⟨k1, k2, k3⟩ := key (.at p nm)
    exact ⟨k1, k2, fun j2 b2 e => (k3 j2 b2 e).imp_right fun q => ⟨q.1, q.2, hb, fun p' nm' e => by cases e; exact hf⟩⟩
   ·cases h
theorem bput_vb {m : Mp} {os : Slots} {j : Nat} {b : Bnd} {β β' : Binds} (h : bput j b β = some β') (hj : (os[j]?).isSome = true) (hl : ∀ p nm, b = .at p nm → ∃ loc, m nm = some loc) (hv : VB m os β) : VB m os β' := by
 obtain ⟨h1, h2, h3⟩ := bput_ext h
 refine ⟨fun j' b' e => ?_, fun j' p nm e => ?_, fun j1 j2 p nm nm' e1 e2 => ?_⟩
 ·rcases h3 j' _ e with e | ⟨rfl, e, _⟩
  ·exact hv.dom _ _ e
  ·exact hj
 ·rcases h3 j' _ e with e | ⟨rfl, e, _⟩
  ·exact hv.laid j' p nm e
  ·exact hl p nm e.symm
 ·rcases h3 j1 _ e1 with e1 | ⟨rfl, q1, q2, q3⟩
  ·rcases h3 j2 _ e2 with e2 | ⟨rfl, q1, q2, q3⟩
   ·exact hv.one j1 j2 p nm nm' e1 e2
   ·exact (bfree_spec (q3 p nm' q1.symm) _ _ e1).elim
  ·rcases h3 j2 _ e2 with e2 | ⟨rfl, _, _, _⟩
   ·exact (bfree_spec (q3 p nm q1.symm) _ _ e2).elim
   ·rfl
def Link (m m' : Mp) (ρ : Pl) (os : Slots) (β : Binds) : Prop := ∀ j b, bget β j = some b → match b with
 | .at p nm => m' (ρ j).2.1 = m nm ∧ ∀ e loc, slotTg os j e = true → m nm = some loc → loc.len = (ρ j).2.2
 | .nil => ∃ loc, m' (ρ j).2.1 = some loc ∧ loc.nil = true ∧ loc.len = 0 ∧ (ρ j).2.2 = 0
theorem Link.ext {m m' : Mp} {ρ : Pl} {os : Slots} {β β' : Binds} (h : Link m m' ρ os β') (he : Ext β β') : Link m m' ρ os β := fun j b e => h j b (he j b e)
theorem rel_agg_conv {kn : Kn} {m m' : Mp} {cs ds : List AV} {v : Value} (h : Rel kn m (.agg cs) v) : ∃ us, RelL kn m cs us ∧ (RelL kn m' ds us → Rel kn m' (.agg ds) v) := by
 cases h with
 | agg _ vs hl hr h1 =>
  exact ⟨vs.toList, ⟨by simpa using hl, fun i x v a b => hr i x v a (by simpa using b)⟩, fun this => .agg ds vs (by simpa using this.1) (fun i x v a b => this.2 i x v a (by simpa using b)) h1⟩
theorem rel_tup_conv {kn : Kn} {m m' : Mp} {cs ds : List AV} {v : Value} (h : Rel kn m (.tup cs) v) : ∃ us, RelL kn m cs us ∧ (RelL kn m' ds us → Rel kn m' (.tup ds) v) := by
 cases h with
 | tup _ vs hl hr =>
  exact ⟨vs.toList, ⟨by simpa using hl, fun i x v a b => hr i x v a (by simpa using b)⟩, fun this => .tup ds vs (by simpa using this.1) (fun i x v a b => this.2 i x v a (by simpa using b))⟩
theorem rel_rptr_conv {kn : Kn} {m m' : Mp} {cs ds : List AV} {v : Value} (h : Rel kn m (.rptr cs) v) : ∃ us, RelL kn m cs us ∧ (RelL kn m' ds us → Rel kn m' (.rptr ds) v) := by
 cases h with
 | rptr _ b o vals hk hr h1 =>
  have hget : ∀ j, j < cs.length → ((List.range cs.length).map vals)[j]? = some (vals j) := fun j hj => by simp [hj]
  refine ⟨(List.range cs.length).map vals, ⟨by simp, fun i x v a b => ?_⟩, fun hrl => ?_⟩
  ·have hi := (List.getElem?_eq_some_iff.1 a).1
   rw [hget i hi] at b; cases b; exact hr i x a
  ·have hlen : ds.length = cs.length := by have := hrl.1; simpa using this
   have hlt : ∀ j x, ds[j]? = some x → ∃ y, cs[j]? = some y := fun j x e => by
    have hj := (List.getElem?_eq_some_iff.1 e).1
    exact ⟨cs[j]'(by omega), List.getElem?_eq_getElem (by omega)⟩
   refine .rptr ds b o vals (fun j x e => ?_) (fun j x e => ?_) (fun j x e => ?_)
   ·obtain ⟨y, hy⟩ := hlt j x e; exact hk j y hy
   ·exact hrl.2 j x _ e (hget j (by have := (List.getElem?_eq_some_iff.1 e).1; omega))
   ·obtain ⟨y, hy⟩ := hlt j x e; exact h1 j y hy
theorem rel_fn_conv {kn : Kn} {m m' : Mp} {f : Fn} {a b a' b' : List AV} {v : Value} (h : Rel kn m (.fn f a b) v) : ∃ us ws, RelL kn m a us ∧ RelL kn m b ws ∧ (RelL kn m' a' us → RelL kn m' b' ws → Rel kn m' (.fn f a' b') v) := by
 cases h with
 | fn _ _ _ f1 c1 h1 h2 hf hc =>
  exact ⟨f1.toList, c1.toList, ⟨by simpa using h1, fun i x v a b => hf i x v a (by simpa using b)⟩, ⟨by simpa using h2, fun i x v a b => hc i x v a (by simpa using b)⟩,
   fun p q => .fn f a' b' f1 c1 (by simpa using p.1) (by simpa using q.1) (fun i x v a b => p.2 i x v a (by simpa using b)) (fun i x v a b => q.2 i x v a (by simpa using b))⟩
section
variable {kn : Kn} {m : Mp} {os : Slots}
def OkV (kn : Kn) (m : Mp) (os : Slots) (β β' : Binds) (s : Sh) (v : AV) (x : s.den) : Prop :=
 Ext β β' ∧ ∀ u, Rel kn m v u → (VB m os β → VB m os β') ∧ ∀ m' ρ, Link m m' ρ os β' → Rel kn m' (patV ρ s x) u
def OkL (kn : Kn) (m : Mp) (os : Slots) (β β' : Binds) (l : List Sh) (vs : List AV) (x : Sh.denL l) : Prop :=
 Ext β β' ∧ ∀ us, RelL kn m vs us → (VB m os β → VB m os β') ∧ ∀ m' ρ, Link m m' ρ os β' → RelL kn m' (patL ρ l x) us
theorem slotTg_some {j : Nat} {e : E} (h : slotTg os j e = true) : (os[j]?).isSome = true := by
 unfold slotTg at h
 split at h
 ·rename_i b o he; rw [he]; rfl
 ·cases h
mutual
theorem absV_ok : ∀ (s : Sh) (β β' : Binds) (v : AV) (x : s.den), absV os β s v = some (x, β') → OkV kn m os β β' s v x
 | .d e, β, β', v, x, h => by
  have h : pairO β (absE e v) = some (x, β') := h
  unfold pairO at h
  split at h
  ·rename_i y hy
   cases h
   exact ⟨.refl _, fun u hu => ⟨id, fun m' ρ _ => ((absE_rel hy hu).rf (E.av_rf e _) m')⟩⟩
  ·cases h
 | .c a, β, β', v, x, h => by
  have h : (if eqA a v = true then some ((), β) else none) = some (x, β') := h
  split at h
  ·rename_i he
   cases h
   obtain ⟨rfl, hf⟩ := eqA_sound he
   exact ⟨.refl _, fun u hu => ⟨id, fun m' ρ _ => hu.rf hf m'⟩⟩
  ·cases h
 | .ref j off, β, β', v, x, h => by
  cases v with
  | ref p nm off' =>
   have h : (if off' = off ∧ (os[j]?).isSome = true then unitO (bput j (.at p nm) β) else none) = some (x, β') := h
   split at h
   ·rename_i ho
    obtain ⟨rfl, hoj⟩ := ho
    unfold unitO at h
    split at h
    ·rename_i b hb
     cases h
     obtain ⟨h1, h2, h3⟩ := bput_ext hb
     refine ⟨h1, fun u hu => ?_⟩
     cases hu with
     | ref _ _ _ loc hm =>
      refine ⟨bput_vb hb hoj (fun p' nm' e => by cases e; exact ⟨loc, hm⟩), fun m' ρ hl => ?_⟩
      exact .ref _ _ _ loc ((hl j _ h2).1.trans hm)
    ·cases h
   ·cases h
  | _ => cases h
 | .gs j e, β, β', v, x, h => by
  cases v with
  | gs p nm e' len =>
   have h : (if e' = e ∧ slotTg os j e = true then unitO (bput j (.at p nm) β) else none) = some (x, β') := h
   split at h
   ·rename_i ho
    obtain ⟨rfl, hst⟩ := ho
    unfold unitO at h
    split at h
    ·rename_i b hb
     cases h
     obtain ⟨h1, h2, h3⟩ := bput_ext hb
     refine ⟨h1, fun u hu => ?_⟩
     cases hu with
     | gs _ _ _ _ _ loc hm hll hr =>
      refine ⟨bput_vb hb (slotTg_some hst) (fun p' nm' e => by cases e; exact ⟨loc, hm⟩), fun m' ρ hl => ?_⟩
      obtain ⟨q1, q2⟩ := hl j _ h2
      have hL := q2 e' loc hst hm
      refine .gs _ _ _ _ _ loc (q1.trans hm) hL ?_
      rw [← hL, hll]
      cases hr with
      | srefNil _ _ _ loc' hm' hn => exact .srefNil _ _ _ loc' (q1.trans hm') hn
      | sref _ _ _ _ _ loc' hm' hn he hc hle => exact .sref _ _ _ _ _ loc' (q1.trans hm') hn he hc hle
    ·cases h
   ·cases h
  | base v =>
   have h : (match v with
    | .slice none 0 0 => if slotTg os j e = true then unitO (bput j .nil β) else none
    | _ => none) = some (x, β') := by
    unfold absV at h
    split at h
    ·rename_i e'; cases e'
    ·rename_i e'; cases e'; exact h
    ·cases h
   split at h
   ·by_cases hst : slotTg os j e = true
    ·replace h : unitO (bput j .nil β) = some (x, β') := (if_pos hst).symm.trans h
     unfold unitO at h
     split at h
     ·rename_i b hb
      cases h
      obtain ⟨h1, h2, h3⟩ := bput_ext hb
      refine ⟨h1, fun u hu => ?_⟩
      cases hu
      refine ⟨bput_vb hb (slotTg_some hst) (fun p' nm' e => by cases e), fun m' ρ hl => ?_⟩
      obtain ⟨loc, q1, q2, q3, q4⟩ := hl j _ h2
      refine .gs _ _ _ _ _ loc q1 (by omega) ?_
      rw [q4]
      exact .srefNil _ _ _ loc q1 q2
     ·cases h
    ·replace h : none = some (x, β') := (if_neg hst).symm.trans h
     cases h
   ·cases h
  | _ => cases h
 | .gv j e, β, β', v, x, h => by
  cases v with
  | gv p nm e' off len =>
   have h : (if e' = e ∧ bget β j = some (.at p nm) then some ((off, len), β) else none) = some (x, β') := h
   split at h
   ·rename_i ho
    obtain ⟨rfl, hb⟩ := ho
    cases h
    refine ⟨.refl _, fun u hu => ⟨id, fun m' ρ hl => ?_⟩⟩
    have hq := (hl j _ hb).1
    cases hu with
    | gvE => exact .gvE _ _ _ _ _ _
    | gvS _ _ _ _ _ _ hr =>
     refine .gvS _ _ _ _ _ _ ?_
     cases hr with
     | srefNil _ _ _ loc hm hn => exact .srefNil _ _ _ loc (hq.trans hm) hn
     | sref _ _ _ _ _ loc hm hn he hc hle => exact .sref _ _ _ _ _ loc (hq.trans hm) hn he hc hle
   ·cases h
  | _ => cases h
 | .mref j off, β, β', v, x, h => by
  cases v with
  | ref p nm off' =>
   have h : (if off' = off ∧ (os[j]?).isSome = true then (match bput j (.at p nm) β with
    | some β' => some (true, β')
    | none => none) else none) = some (x, β') := h
   split at h
   ·rename_i ho
    obtain ⟨rfl, hoj⟩ := ho
    split at h
    ·rename_i b hb
     cases h
     obtain ⟨h1, h2, h3⟩ := bput_ext hb
     refine ⟨h1, fun u hu => ?_⟩
     cases hu with
     | ref _ _ _ loc hm =>
      refine ⟨bput_vb hb hoj (fun p' nm' e => by cases e; exact ⟨loc, hm⟩), fun m' ρ hl => ?_⟩
      exact .mrefSome _ _ _ loc ((hl j _ h2).1.trans hm)
    ·cases h
   ·cases h
  | mref p nm off' b =>
   have h : (if off' = off ∧ bget β j = some (.at p nm) then some (b, β) else none) = some (x, β') := h
   split at h
   ·rename_i ho
    obtain ⟨rfl, hb⟩ := ho
    cases h
    refine ⟨.refl _, fun u hu => ⟨id, fun m' ρ hl => ?_⟩⟩
    cases hu with
    | mrefSome _ _ _ loc hm => exact .mrefSome _ _ _ loc ((hl j _ hb).1.trans hm)
    | mrefNil => exact .mrefNil _ _ _
   ·cases h
  | base v =>
   have h : (match v with
    | .pointer none => some (false, β)
    | _ => none) = some (x, β') := by
    unfold absV at h
    split at h
    ·rename_i e'; cases e'
    ·rename_i e'; cases e'
    ·rename_i e'; cases e'; exact h
    ·cases h
   split at h
   ·cases h
    refine ⟨.refl _, fun u hu => ⟨id, fun m' ρ hl => ?_⟩⟩
    cases hu
    exact .mrefNil _ _ _
   ·cases h
  | _ => cases h
 | .agg l, β, β', v, x, h => by
  cases v with
  | agg cs =>
   obtain ⟨h1, h2⟩ := absL_ok l β β' cs x h
   refine ⟨h1, fun u hu => ?_⟩
   obtain ⟨us, q1, _⟩ := rel_agg_conv (m' := m) (ds := cs) hu
   refine ⟨(h2 us q1).1, fun m' ρ hl => ?_⟩
   obtain ⟨us, q1, q2⟩ := rel_agg_conv (m' := m') (ds := patL ρ l x) hu
   exact q2 ((h2 us q1).2 m' ρ hl)
  | _ => cases h
 | .tup l, β, β', v, x, h => by
  cases v with
  | tup cs =>
   obtain ⟨h1, h2⟩ := absL_ok l β β' cs x h
   refine ⟨h1, fun u hu => ?_⟩
   obtain ⟨us, q1, _⟩ := rel_tup_conv (m' := m) (ds := cs) hu
   refine ⟨(h2 us q1).1, fun m' ρ hl => ?_⟩
   obtain ⟨us, q1, q2⟩ := rel_tup_conv (m' := m') (ds := patL ρ l x) hu
   exact q2 ((h2 us q1).2 m' ρ hl)
  | _ => cases h
 | .rptr l, β, β', v, x, h => by
  cases v with
  | rptr cs =>
   obtain ⟨h1, h2⟩ := absL_ok l β β' cs x h
   refine ⟨h1, fun u hu => ?_⟩
   obtain ⟨us, q1, _⟩ := rel_rptr_conv (m' := m) (ds := cs) hu
   refine ⟨(h2 us q1).1, fun m' ρ hl => ?_⟩
   obtain ⟨us, q1, q2⟩ := rel_rptr_conv (m' := m') (ds := patL ρ l x) hu
   exact q2 ((h2 us q1).2 m' ρ hl)
  | _ => cases h
 | .fn f a b, β, β', v, x, h => by
  cases v with
  | fn f' p q =>
   have h : (if f' = f then (match absL os β a p with
    | some (a', β1) => match absL os β1 b q with
     | some (b', β2) => some ((a', b'), β2)
     | none => none
    | none => none) else none) = some (x, β') := h
   split at h
   ·rename_i hf
    subst hf
    split at h
    ·rename_i a' β1 ha
     split at h
     ·rename_i b' β2 hb
      cases h
      obtain ⟨h1, h2⟩ := absL_ok a β β1 p a' ha
      obtain ⟨h3, h4⟩ := absL_ok b β1 _ q b' hb
      refine ⟨h1.trans h3, fun u hu => ?_⟩
      obtain ⟨us, ws, q1, q2, _⟩ := rel_fn_conv (m' := m) (a' := p) (b' := q) hu
      refine ⟨fun hv => (h4 ws q2).1 ((h2 us q1).1 hv), fun m' ρ hl => ?_⟩
      obtain ⟨us, ws, q1, q2, q3⟩ := rel_fn_conv (m' := m') (a' := patL ρ a a') (b' := patL ρ b b') hu
      exact q3 ((h2 us q1).2 m' ρ (hl.ext h3)) ((h4 ws q2).2 m' ρ hl)
     ·cases h
    ·cases h
   ·cases h
  | _ => cases h
 | .iface t s, β, β', v, x, h => by
  cases v with
  | iface t' y =>
   have h : (if t' = t then absV os β s y else none) = some (x, β') := h
   split at h
   ·rename_i ht
    subst ht
    obtain ⟨h1, h2⟩ := absV_ok s β β' y x h
    refine ⟨h1, fun u hu => ?_⟩
    cases hu with
    | iface _ _ v hv => exact ⟨(h2 v hv).1, fun m' ρ hl => .iface _ _ v ((h2 v hv).2 m' ρ hl)⟩
   ·cases h
  | _ => cases h
theorem absL_ok : ∀ (l : List Sh) (β β' : Binds) (vs : List AV) (x : Sh.denL l), absL os β l vs = some (x, β') → OkL kn m os β β' l vs x
 | [], β, β', vs, x, h => by
  cases vs with
  | nil => cases h; exact ⟨.refl _, fun us hu => ⟨id, fun m' ρ _ => ⟨hu.1, fun i x v a => by simp [patL] at a⟩⟩⟩
  | cons v vs => cases h
 | s :: l, β, β', vs, x, h => by
  cases vs with
  | nil => cases h
  | cons v vs =>
   have h : (match absV os β s v with
    | some (x, β1) => match absL os β1 l vs with
     | some (y, β2) => some ((x, y), β2)
     | none => none
    | none => none) = some (x, β') := h
   split at h
   ·rename_i a β1 ha
    split at h
    ·rename_i b β2 hb
     cases h
     obtain ⟨h1, h2⟩ := absV_ok s β β1 v a ha
     obtain ⟨h3, h4⟩ := absL_ok l β1 _ vs b hb
     refine ⟨h1.trans h3, fun us hu => ?_⟩
     obtain ⟨w, ws, rfl, q1, q2⟩ := hu.uncons
     exact ⟨fun hv => (h4 ws q2).1 ((h2 w q1).1 hv), fun m' ρ hl => .cons ((h2 w q1).2 m' ρ (hl.ext h3)) ((h4 ws q2).2 m' ρ hl)⟩
    ·cases h
   ·cases h
end
theorem absEnv_ok {n : Nat} {act : Act} {env : List AV} (hE : RelEnv kn m (xenv env) n act) : ∀ (l : List (Nat × Sh)) (β β' : Binds) (x : denE l), absEnv os β l env = some (x, β') →
  Ext β β' ∧ (VB m os β → VB m os β') ∧ ∀ m' ρ, Link m m' ρ os β' → ∀ t, Rel kn m' (patE ρ l x t) (act.tmps.getD t undef)
 | [], β, β', x, h => by cases h; exact ⟨.refl _, id, fun m' ρ _ t => .any _⟩
 | (t0, s) :: l, β, β', x, h => by
  have h : (match absV os β s (env.getD t0 .undef) with
   | some (x, β1) => match absEnv os β1 l env with
    | some (y, β2) => some ((x, y), β2)
    | none => none
   | none => none) = some (x, β') := h
  split at h
  ·rename_i a β1 ha
   split at h
   ·rename_i b β2 hb
    cases h
    obtain ⟨h1, h2⟩ := absV_ok (kn := kn) (m := m) s β β1 _ a ha
    obtain ⟨h3, h4, h5⟩ := absEnv_ok hE l β1 _ b hb
    refine ⟨h1.trans h3, fun hv => h4 ((h2 _ (hE.tmp t0)).1 hv), fun m' ρ hl t => ?_⟩
    show Rel kn m' (if t0 = t then patV ρ s a else patE ρ l b t) _
    split
    ·rename_i e; subst e; exact (h2 _ (hE.tmp t0)).2 m' ρ (hl.ext h3)
    ·exact h5 m' ρ hl t
   ·cases h
  ·cases h
end
end Go.Ab

namespace Go.Ab
open Go Go.RowKit
section
variable {C : Cx} {B : Base} {kn : Kn} {m : Mp} {σ : Sto} {nx : Nat} {w : World} {os : Slots}
theorem GvRel.rf {kn : Kn} {m m' : Mp} {w : World} {nm nm' esz ety : Nat} {rows : List (List AV)} (h : GvRel kn m w nm esz ety rows) (he : m' nm' = m nm) (hf : ∀ r ∈ rows, RFL r) : GvRel kn m' w nm' esz ety rows := by
 obtain ⟨loc, hn, hl, h⟩ := h
 refine ⟨loc, he.trans hn, hl, ?_⟩
 rcases h with h | ⟨hnl, he, arr, h1, h2, h3, h4, h4', h5, h6⟩
 ·exact .inl h
 ·exact .inr ⟨hnl, he, arr, h1, h2, h3, h4, h4', h5, fun i row j x v a b c => (h6 i row j x v a b c).rf ((hf row (List.mem_of_getElem? a)).get b) m'⟩
theorem rows_rfl (e : E) (l : List e.den) : ∀ r ∈ l.map e.row, RFL r := fun r hr => by obtain ⟨x, _, rfl⟩ := List.mem_map.1 hr; exact E.row_rf e x
theorem absO_ok (hI : Inv C B kn m σ nx w) {o : OSh} {b : Option Bnd} {β β' : Binds} {x : o.den} (h : absO os β σ b o = some (x, β')) (hlaid : ∀ p nm, b = some (.at p nm) → ∃ loc, m nm = some loc) :
  Ext β β' ∧ (VB m os β → VB m os β') ∧ ∃ b0, b = some b0 ∧ (∀ p nm, b0 = .at p nm → ∃ ob, σ[p]? = some (nm, ob) ∧ live ob ∧ isHand ob = false) ∧ (b0 = .nil → ∃ e ety, o = .tg e ety) ∧
   ((b0 = .nil → lenO o x = 0) ∧ ∀ e, oTg o e = true → ∀ p nm loc, b0 = .at p nm → m nm = some loc → loc.len = lenO o x) ∧ (isSk o = true → ∃ p nm ob, b0 = .at p nm ∧ σ[p]? = some (nm, ob) ∧ isStk ob = true) ∧
   ∀ m' ρ nm', Link m m' ρ os β' → live (patO ρ o x) ∧ (∀ p nm, b0 = .at p nm → m' nm' = m nm → ObjRel C.P B kn m' w nm' (patO ρ o x)) ∧ (b0 = .nil → ∀ loc, m' nm' = some loc → loc.nil = true → loc.len = 0 → ObjRel C.P B kn m' w nm' (patO ρ o x)) := by
 cases o with
 | cells T l =>
  replace h : absCellsO os β σ T l b = some (x, β') := h
  unfold absCellsO at h
  split at h
  ·rename_i p nm
   split at h
   ·rename_i T' cs hs
    split at h
    ·rename_i hT
     subst hT
     have hp := sget_some hs
     obtain ⟨loc, hm⟩ := hlaid p nm rfl
     have hob := hI.obj _ _ _ hp
     simp only [ObjRel, hm] at hob
     obtain ⟨hnl, h0, arr, hw, hrl⟩ := hob
     obtain ⟨h1, h2⟩ := absL_ok (kn := kn) (m := m) l β β' cs x h
     refine ⟨h1, (h2 _ hrl.1).1, _, rfl, fun p' nm' e => ?_, (fun e => by cases e), ⟨(fun e => by cases e), (fun e e' => by cases e')⟩, (fun e => by cases e), fun m' ρ nm' hl => ⟨trivial, fun p' nm'' e he => ?_, (fun e => by cases e)⟩⟩
     ·cases e; exact ⟨_, hp, trivial, rfl⟩
     ·cases e
      simp only [patO, ObjRel, he, hm]
      exact ⟨hnl, h0, arr, hw, (h2 _ hrl.1).2 m' ρ hl, hrl.2⟩
    ·cases h
   ·cases h
  ·cases h
 | tg e ety =>
  replace h : absTgO β σ e ety b = some (x, β') := h
  unfold absTgO at h
  split at h
  ·rename_i p nm
   split at h
   ·rename_i e' ety' l hs
    split at h
    ·rename_i he
     subst he
     split at h
     ·rename_i hety
      subst hety
      rw [castL_rfl] at h
      have hp := sget_some hs
      have hgv : GvRel kn m w nm e'.size ety' (l.map e'.row) := hI.obj _ _ _ hp
      cases h
      refine ⟨.refl _, id, _, rfl, fun p' nm' e => ?_, (fun e => by cases e), ⟨(fun e => by cases e), fun e e' p' nm' loc q hm => ?_⟩, (fun e => by cases e), fun m' ρ nm' hl => ⟨trivial, fun p' nm'' e he => ?_, (fun e => by cases e)⟩⟩
      ·cases e; exact ⟨_, hp, trivial, rfl⟩
      ·cases q
       obtain ⟨loc', hm', hll, _⟩ := hgv
       rw [hm] at hm'; cases hm'
       rw [hll, List.length_map]; rfl
      ·cases e
       exact hgv.rf he (rows_rfl _ _)
     ·cases h
    ·cases h
   ·cases h
  ·cases h
   refine ⟨.refl _, id, _, rfl, (fun p' nm' e => by cases e), fun _ => ⟨e, ety, rfl⟩, ⟨fun _ => rfl, (fun e e' p' nm' loc q => by cases q)⟩, (fun e => by cases e), fun m' ρ nm' hl => ⟨trivial, (fun p' nm'' e => by cases e), fun _ loc hm hn hll => ?_⟩⟩
   exact ⟨loc, hm, hll, .inl ⟨hn, rfl⟩⟩
  ·cases h
 | stk e ety =>
  replace h : absSkO β σ e ety b = some (x, β') := h
  unfold absSkO at h
  split at h
  ·rename_i p nm
   split at h
   ·rename_i e' ety' l hs
    split at h
    ·rename_i he
     have he' : e' = e := by cases he; rfl
     subst he'
     split at h
     ·rename_i hety
      subst hety
      replace h : some (l, β) = some (x, β') := h
      have hp := sget_some hs
      have hgv := hI.obj _ _ _ hp
      cases h
      refine ⟨.refl _, id, _, rfl, fun p' nm' e => ?_, (fun e => by cases e), ⟨(fun e => by cases e), fun e e' p' nm' loc q hm => ?_⟩, fun _ => ⟨p, nm, _, rfl, hp, rfl⟩, fun m' ρ nm' hl => ⟨trivial, fun p' nm'' e he => ?_, (fun e => by cases e)⟩⟩
      ·cases e; exact ⟨_, hp, trivial, rfl⟩
      ·cases q
       obtain ⟨rv, ⟨loc', hm', hll, _⟩, hlen, _⟩ := hgv
       rw [hm] at hm'; cases hm'
       rw [hll]
       simp only [stkRows, List.length_map]
       exact hlen
      ·cases e
       obtain ⟨rv, h1, h2, h3, h4, h5⟩ := hgv
       exact ⟨rv, h1.rf he (fun r hr => by
        simp only [stkRows, List.mem_map] at hr
        obtain ⟨v, _, rfl⟩ := hr
        exact ⟨trivial, trivial⟩), h2, h3, h4, trivial⟩
     ·cases h
    ·cases h
   ·cases h
  ·cases h
def SlotOk (C : Cx) (B : Base) (kn : Kn) (m : Mp) (σ : Sto) (w : World) (os : Slots) (β' : Binds) (j : Nat) (l : Slots) (x : denO l) (i : Nat) (o : OSh) : Prop :=
 ∃ b, bget β' (j + i) = some b ∧ (∀ p nm, b = .at p nm → ∃ ob, σ[p]? = some (nm, ob) ∧ live ob ∧ isHand ob = false) ∧ (b = .nil → ∃ e ety, o = .tg e ety) ∧
  ((b = .nil → lensO l x i = 0) ∧ ∀ e, oTg o e = true → ∀ p nm loc, b = .at p nm → m nm = some loc → loc.len = lensO l x i) ∧ (isSk o = true → ∃ p nm ob, b = .at p nm ∧ σ[p]? = some (nm, ob) ∧ isStk ob = true) ∧
  ∀ m' ρ nmf, Link m m' ρ os β' → ∃ ob', (patOs ρ nmf j l x)[i]? = some (nmf (j + i), ob') ∧ live ob' ∧ (∀ p nm, b = .at p nm → m' (nmf (j + i)) = m nm → ObjRel C.P B kn m' w (nmf (j + i)) ob') ∧
   (b = .nil → ∀ loc, m' (nmf (j + i)) = some loc → loc.nil = true → loc.len = 0 → ObjRel C.P B kn m' w (nmf (j + i)) ob')
theorem absOs_ok (hI : Inv C B kn m σ nx w) : ∀ (l : Slots) (j : Nat) (β β' : Binds) (x : denO l), absOs os σ β j l = some (x, β') → VB m os β →
  Ext β β' ∧ VB m os β' ∧ ∀ i kp o, l[i]? = some (kp, o) → SlotOk C B kn m σ w os β' j l x i o
 | [], j, β, β', x, h, hv => by cases h; exact ⟨.refl _, hv, fun i kp o e => by simp at e⟩
 | (kp0, o0) :: l, j, β, β', x, h, hv => by
  have h : (match absO os β σ (bget β j) o0 with
   | some (x, β1) => match absOs os σ β1 (j + 1) l with
    | some (y, β2) => some ((x, y), β2)
    | none => none
   | none => none) = some (x, β') := h
  split at h
  ·rename_i a β1 ha
   split at h
   ·rename_i b β2 hb
    cases h
    obtain ⟨h1, h2, b0, hb0, h3, h4, h5, h5', h6⟩ := absO_ok hI ha (fun p nm e => hv.laid j p nm e)
    obtain ⟨k1, k2, k3⟩ := absOs_ok hI l (j + 1) β1 _ b hb (h2 hv)
    refine ⟨h1.trans k1, k2, fun i kp o e => ?_⟩
    cases i with
    | zero =>
     simp at e
     obtain ⟨rfl, rfl⟩ := e
     refine ⟨b0, (h1.trans k1) _ _ hb0, h3, h4, h5, h5', fun m' ρ nmf hl => ?_⟩
     obtain ⟨q1, q2, q3⟩ := h6 m' ρ (nmf j) (hl.ext k1)
     exact ⟨_, rfl, q1, q2, q3⟩
    | succ i =>
     simp at e
     obtain ⟨b1, q1, q2, q3, q4, q4', q5⟩ := k3 i kp o e
     have hji : j + 1 + i = j + (i + 1) := by omega
     rw [hji] at q1 q5
     exact ⟨b1, q1, q2, q3, q4, q4', fun m' ρ nmf hl => by
      obtain ⟨ob', p1, p2⟩ := q5 m' ρ nmf hl
      exact ⟨ob', p1, p2⟩⟩
   ·cases h
  ·cases h
theorem patOs_len (ρ : Pl) (nmf : Nat → Nat) : ∀ (l : Slots) (j : Nat) (x : denO l), (patOs ρ nmf j l x).length = l.length
 | [], _, _ => rfl
 | (_, _) :: l, j, x => by show (patOs ρ nmf (j + 1) l x.2).length + 1 = _; rw [patOs_len ρ nmf l (j + 1) x.2]; rfl
theorem patO_sk {ρ : Pl} {o : OSh} {x : o.den} : isStk (patO ρ o x) = isSk o := by cases o <;> rfl
theorem patOs_sk {ρ : Pl} (nmf : Nat → Nat) : ∀ (l : Slots) (j : Nat) (x : denO l) (i : Nat) (q : Nat × AObj) (s : Bool × OSh), (patOs ρ nmf j l x)[i]? = some q → l[i]? = some s → isStk q.2 = isSk s.2
 | [], _, _, i, q, s, _, h => by simp at h
 | (kp, o) :: l, j, x, 0, q, s, h, h' => by
  simp [patOs] at h h'
  subst h; subst h'
  exact patO_sk
 | (_, _) :: l, j, x, i + 1, q, s, h, h' => patOs_sk nmf l (j + 1) x.2 i q s (by simpa [patOs] using h) (by simpa using h')
theorem binds0_get : ∀ (l : Slots) (j j' : Nat) (b : Bnd), bget (binds0 j l) j' = some b ↔ ∃ i o, j' = j + i ∧ l[i]? = some (true, o) ∧ b = .at j' j'
 | [], j, j', b => by simp [binds0, bget]
 | (true, o0) :: l, j, j', b => by
  simp only [binds0, bget]
  split
  ·rename_i e
   subst e
   constructor
   ·intro h; cases h; exact ⟨0, o0, rfl, rfl, rfl⟩
   ·rintro ⟨i, o, h1, h2, h3⟩; rw [h3]
  ·rename_i e
   rw [binds0_get l (j + 1) j' b]
   constructor
   ·rintro ⟨i, o, h1, h2, h3⟩; exact ⟨i + 1, o, by omega, by simpa using h2, h3⟩
   ·rintro ⟨i, o, h1, h2, h3⟩
    cases i with
    | zero => exact absurd (by omega) e
    | succ i => exact ⟨i, o, by omega, by simpa using h2, h3⟩
 | (false, o0) :: l, j, j', b => by
  simp only [binds0]
  rw [binds0_get l (j + 1) j' b]
  constructor
  ·rintro ⟨i, o, h1, h2, h3⟩; exact ⟨i + 1, o, by omega, by simpa using h2, h3⟩
  ·rintro ⟨i, o, h1, h2, h3⟩
   cases i with
   | zero => simp at h2
   | succ i => exact ⟨i, o, by omega, by simpa using h2, h3⟩
theorem listTo_get (f : Nat → AV) : ∀ (n t0 t : Nat), (listTo f n t0)[t]? = if t < n then some (f (t0 + t)) else none
 | 0, t0, t => by simp [listTo]
 | n + 1, t0, t => by
  cases t with
  | zero => simp [listTo]
  | succ t =>
   simp only [listTo, List.getElem?_cons_succ]
   rw [listTo_get f n (t0 + 1) t]
   by_cases h : t < n
   ·rw [if_pos h, if_pos (by omega), Nat.add_assoc, Nat.add_comm 1 t]
   ·rw [if_neg h, if_neg (by omega)]
def keepB (k : Nat) : Nat → Slots → Bool
 | _, [] => true
 | j, (kp, _) :: l => (!kp || Nat.blt j k) && keepB k (j + 1) l
theorem keepB_spec {k : Nat} : ∀ {l : Slots} {j : Nat}, keepB k j l = true → ∀ i o, l[i]? = some (true, o) → j + i < k
 | [], j, h, i, o, e => by simp at e
 | (kp, o0) :: l, j, h, i, o, e => by
  simp only [keepB, Bool.and_eq_true] at h
  cases i with
  | zero =>
   simp at e
   obtain ⟨rfl, rfl⟩ := e
   simpa [Nat.blt_eq] using h.1
  | succ i =>
   have := keepB_spec h.2 i o (by simpa using e)
   omega
def nilLoc : Loc := ⟨0, 0, 0, 0, 0, true⟩
def mNew (k : Nat) (os : Slots) (β : Binds) (m : Mp) : Mp := fun i => if i < k then m i else match os[i - k]? with
 | some (false, _) => match bget β (i - k) with
  | some (.at _ nm) => m nm
  | some .nil => some nilLoc
  | none => none
 | _ => none
theorem nameOf_keep {k j : Nat} {o : OSh} (h : os[j]? = some (true, o)) : nameOf k j os = j := by simp [nameOf, h]
theorem nameOf_new {k j : Nat} {o : OSh} (h : os[j]? = some (false, o)) : nameOf k j os = k + j := by simp [nameOf, h]
theorem norm_sound {k n : Nat} {ss : SS} {x : XS} {d : ss.den} {act : Act} (h : absS ss x = some d) (hkeep : keepB k 0 ss.objs = true) (hI : Inv C B kn m x.σ x.nx w) (hE : RelEnv kn m (xenv x.env) n act) (hlay : ∀ i, i < k → ∃ loc, m i = some loc) :
  ∃ m', Inv C B kn m' (patS k n ss d).σ (patS k n ss d).nx w ∧ RelEnv kn m' (xenv (patS k n ss d).env) n act ∧ (∀ i, i < k → m' i = m i) ∧ ∀ j, j < ss.objs.length → ∃ loc, m' (nameOf k j ss.objs) = some loc := by
 unfold absS at h
 split at h
 ·rename_i a β1 ha
  split at h
  ·rename_i o βf ho
   cases h
   have hk0 := fun i o e => keepB_spec hkeep i o e
   simp only [Nat.zero_add] at hk0
   have hv0 : VB m ss.objs (binds0 0 ss.objs) := ⟨fun j b e => by
     obtain ⟨i, o', h1, h2, h3⟩ := (binds0_get _ _ _ _).1 e
     rw [Nat.zero_add] at h1; subst h1; rw [h2]; rfl, fun j p nm e => by
     obtain ⟨i, o', h1, h2, h3⟩ := (binds0_get _ _ _ _).1 e
     rw [Nat.zero_add] at h1; subst h1; cases h3; exact hlay _ (hk0 _ _ h2), fun j j' p nm nm' e e' => by
     obtain ⟨i, o', h1, h2, h3⟩ := (binds0_get _ _ _ _).1 e
     obtain ⟨i', o'', h1', h2', h3'⟩ := (binds0_get _ _ _ _).1 e'
     cases h3; cases h3'; rfl⟩
   obtain ⟨e1, v1, r1⟩ := absEnv_ok (os := ss.objs) hE ss.env _ _ a ha
   obtain ⟨e2, v2, r2⟩ := absOs_ok (os := ss.objs) hI ss.objs 0 β1 βf o ho (v1 hv0)
   simp only [SlotOk, Nat.zero_add] at r2
   have hkp : ∀ j o', ss.objs[j]? = some (true, o') → bget βf j = some (.at j j) := fun j o' e => (e1.trans e2) _ _ ((binds0_get _ _ _ _).2 ⟨j, o', (Nat.zero_add _).symm, e, rfl⟩)
   have hmn : ∀ j o', ss.objs[j]? = some (false, o') → mNew k ss.objs βf m (k + j) = match bget βf j with
     | some (.at _ nm) => m nm
     | some .nil => some nilLoc
     | none => none := fun j o' e => by
    unfold mNew
    rw [if_neg (by omega), Nat.add_sub_cancel_left, e]
   have hat : ∀ j p nm, bget βf j = some (.at p nm) → mNew k ss.objs βf m (nameOf k j ss.objs) = m nm := fun j p nm e => by
    have hd := v2.dom j _ e
    cases hs : ss.objs[j]? with
    | none => rw [hs] at hd; cases hd
    | some q =>
     obtain ⟨kp, o'⟩ := q
     cases kp with
     | true =>
      rw [hkp j o' hs] at e; cases e
      rw [nameOf_keep hs]
      unfold mNew
      rw [if_pos (hk0 _ _ hs)]
     | false => rw [nameOf_new hs, hmn j o' hs, e]
   have hnil : ∀ j, bget βf j = some .nil → mNew k ss.objs βf m (nameOf k j ss.objs) = some nilLoc := fun j e => by
    have hd := v2.dom j _ e
    cases hs : ss.objs[j]? with
    | none => rw [hs] at hd; cases hd
    | some q =>
     obtain ⟨kp, o'⟩ := q
     cases kp with
     | true => rw [hkp j o' hs] at e; cases e
     | false => rw [nameOf_new hs, hmn j o' hs, e]
   have hlink : Link m (mNew k ss.objs βf m) (plO k ss.objs o) ss.objs βf := fun j b e => by
    have hd := v2.dom j _ e
    cases b with
    | nil =>
     refine ⟨nilLoc, hnil j e, rfl, rfl, ?_⟩
     cases hs : ss.objs[j]? with
     | none => rw [hs] at hd; cases hd
     | some q =>
      obtain ⟨b', q1, _, _, q4, _, _⟩ := r2 j q.1 q.2 hs
      rw [e] at q1; cases q1
      exact q4.1 rfl
    | «at» p nm =>
     refine ⟨hat j p nm e, fun e' loc hst hm => ?_⟩
     unfold slotTg at hst
     split at hst
     ·rename_i kp o2 hs
      obtain ⟨b', q1, _, _, q4, _, _⟩ := r2 j _ _ hs
      rw [e] at q1; cases q1
      exact q4.2 e' hst p nm loc rfl hm
     ·cases hst
   have hent : ∀ i nm' ob', (patOs (plO k ss.objs o) (fun j => nameOf k j ss.objs) 0 ss.objs o)[i]? = some (nm', ob') → nm' = nameOf k i ss.objs ∧ ∃ kp osh, ss.objs[i]? = some (kp, osh) ∧ live ob' ∧ ObjRel C.P B kn (mNew k ss.objs βf m) w nm' ob' ∧
     ∃ b, bget βf i = some b ∧ (∀ p nm, b = .at p nm → ∃ ob, x.σ[p]? = some (nm, ob) ∧ live ob ∧ isHand ob = false) ∧ (isStk ob' = true → ∃ p nm ob, b = .at p nm ∧ x.σ[p]? = some (nm, ob) ∧ isStk ob = true) := fun i nm' ob' e => by
    have hi := (List.getElem?_eq_some_iff.1 e).1
    rw [patOs_len] at hi
    obtain ⟨b, q1, q2, q3, q4, q4', q5⟩ := r2 i _ _ (List.getElem?_eq_getElem hi)
    obtain ⟨ob2, p1, p2, p3, p4⟩ := q5 _ (plO k ss.objs o) (fun j => nameOf k j ss.objs) hlink
    have hsk := patOs_sk (ρ := plO k ss.objs o) (fun j => nameOf k j ss.objs) ss.objs 0 o i _ _ e (List.getElem?_eq_getElem hi)
    rw [e] at p1; cases p1
    refine ⟨rfl, _, _, List.getElem?_eq_getElem hi, p2, ?_, b, q1, q2, fun s => q4' (hsk.symm.trans s)⟩
    cases b with
    | nil => exact p4 rfl nilLoc (hnil i q1) rfl rfl
    | «at» p nm => exact p3 p nm rfl (hat i p nm q1)
   have hgetloc : ∀ i b loc, bget βf i = some b → mNew k ss.objs βf m (nameOf k i ss.objs) = some loc → loc.nil = false → ∃ p nm, b = .at p nm ∧ m nm = some loc := fun i b loc e hm hn => by
    cases b with
    | nil => rw [hnil i e] at hm; cases hm; cases hn
    | «at» p nm => exact ⟨p, nm, rfl, by rw [← hat i p nm e]; exact hm⟩
   refine ⟨mNew k ss.objs βf m, ⟨hI.knok, hI.size, hI.os, hI.tape, hI.output, hI.old, fun i nm' ob' e => ?_, fun i nm' ob' loc e hl hm hn => ?_, fun i1 n1 ob1 l1 i2 n2 ob2 l2 f1 f2 w1 w2 m1 m2 hn1 hn2 hne => ?_, fun q hq => ?_, fun i nm' ob' e => ?_, fun i1 i2 n1 ob1 ob2 f1 f2 => ?_, fun i1 i2 n1 n2 ob1 ob2 f1 f2 s1 s2 => ?_, fun g => (hI.glob g).rf (C.rf g) _, hI.tab⟩, ⟨hE.size, fun t => ?_⟩, fun i hi => ?_, fun j hj => ?_⟩
   ·obtain ⟨rfl, _, _, _, _, q, _⟩ := hent i nm' ob' e; exact q
   ·obtain ⟨rfl, kp, osh, hs, _, _, b, q1, q2, _⟩ := hent i nm' ob' e
    obtain ⟨p, nm, rfl, hm'⟩ := hgetloc i b loc q1 hm hn
    obtain ⟨ob, hp, hlv, hnh⟩ := q2 p nm rfl
    obtain ⟨w1, w2, w3⟩ := hI.own p nm ob loc hp hlv hm' hn
    exact ⟨w1, w2, fun _ => w3 hnh⟩
   ·obtain ⟨rfl, _, _, _, _, _, b1, q1, q2, _⟩ := hent i1 n1 ob1 f1
    obtain ⟨rfl, _, _, _, _, _, b2, q1', q2', _⟩ := hent i2 n2 ob2 f2
    obtain ⟨p, nm, rfl, hm'⟩ := hgetloc i1 b1 l1 q1 m1 hn1
    obtain ⟨p', nm', rfl, hm''⟩ := hgetloc i2 b2 l2 q1' m2 hn2
    obtain ⟨ob, hp, hlv, _⟩ := q2 p nm rfl
    obtain ⟨ob', hp', hlv', _⟩ := q2' p' nm' rfl
    refine hI.dist p nm ob l1 p' nm' ob' l2 hp hp' hlv hlv' hm' hm'' hn1 hn2 (fun e => hne ?_)
    subst e
    exact v2.one i1 i2 p nm nm' q1 q1'
   ·have hq : k + ss.objs.length ≤ q := hq
    unfold mNew
    rw [if_neg (by omega), List.getElem?_eq_none (by omega)]
   ·obtain ⟨rfl, kp, osh, hs, _⟩ := hent i nm' ob' e
    show nameOf k i ss.objs < k + ss.objs.length
    have hi := (List.getElem?_eq_some_iff.1 hs).1
    cases kp with
    | true => rw [nameOf_keep hs]; have := hk0 _ _ hs; omega
    | false => rw [nameOf_new hs]; omega
   ·obtain ⟨h1, kp, osh, hs, _⟩ := hent i1 n1 ob1 f1
    obtain ⟨h2, kp', osh', hs', _⟩ := hent i2 n1 ob2 f2
    rw [h1] at h2
    cases kp with
    | true =>
     rw [nameOf_keep hs] at h2
     have := hk0 _ _ hs
     cases kp' with
     | true => rw [nameOf_keep hs'] at h2; exact h2
     | false => rw [nameOf_new hs'] at h2; omega
    | false =>
     rw [nameOf_new hs] at h2
     cases kp' with
     | true => rw [nameOf_keep hs'] at h2; have := hk0 _ _ hs'; omega
     | false => rw [nameOf_new hs'] at h2; omega
   ·obtain ⟨_, _, _, _, _, _, b1, q1, _, q3⟩ := hent i1 n1 ob1 f1
    obtain ⟨_, _, _, _, _, _, b2, q1', _, q3'⟩ := hent i2 n2 ob2 f2
    obtain ⟨p, nm, ob, rfl, h1, h2⟩ := q3 s1
    obtain ⟨p', nm', ob', rfl, h1', h2'⟩ := q3' s2
    have := hI.stk1 _ _ _ _ _ _ h1 h1' h2 h2'
    subst this
    exact v2.one i1 i2 p nm nm' q1 q1'
   ·show Rel kn _ ((listTo (patE (plO k ss.objs o) ss.env a) n 0).getD t .undef) _
    rw [List.getD_eq_getElem?_getD, listTo_get]
    split
    ·rw [Nat.zero_add]; exact r1 _ _ (hlink.ext e2) t
    ·rename_i ht
     have : act.tmps.getD t undef = undef := by
      rw [Array.getD_eq_getD_getElem?, Array.getElem?_eq_none (by rw [hE.size]; omega)]; rfl
     rw [this]; exact .base _
   ·unfold mNew; rw [if_pos hi]
   ·obtain ⟨b, q1, _⟩ := r2 j _ _ (List.getElem?_eq_getElem hj)
    cases b with
    | nil => exact ⟨nilLoc, hnil j q1⟩
    | «at» p nm =>
     obtain ⟨loc, hl⟩ := v2.laid j p nm q1
     exact ⟨loc, by rw [hat j p nm q1]; exact hl⟩
  ·cases h
 ·cases h
end
end Go.Ab
