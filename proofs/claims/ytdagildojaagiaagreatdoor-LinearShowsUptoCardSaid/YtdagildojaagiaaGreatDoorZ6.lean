/-
  DEFERRED CALLS: bodies that defer closures, and closures that recover.
-/
import Derived.Test.YtdagildojaagiaaGreatDoorZ5
import Derived.Recover
set_option linter.unusedVariables false
set_option linter.unusedSimpArgs false
namespace Go.Ab
open Go Go.RowKit
inductive Tok {α : Sort _} (a : α) : Type
 | mk : Tok a
def seen (o : Option AV) (K : AV → Prop) (t : Tok K) : Prop := ∃ v, o = some v ∧ K v
def seen3 (o : Option (AV × Sto × Nat)) (K : AV → Sto → Nat → Prop) (t : Tok K) : Prop := ∃ v σ nx, o = some (v, σ, nx) ∧ K v σ nx
@[go_sem] theorem seen_some (v : AV) (K : AV → Prop) (t : Tok K) : seen (some v) K t ↔ K v := by simp [seen]
@[go_sem] theorem seen3_some (v : AV) (σ : Sto) (nx : Nat) (K : AV → Sto → Nat → Prop) (t : Tok K) : seen3 (some (v, σ, nx)) K t ↔ K v σ nx := by
  constructor
  ·rintro ⟨v', σ', nx', h, hk⟩; cases h; exact hk
  ·intro h; exact ⟨v, σ, nx, rfl, h⟩
def callP (C : Cx) (own tot : Bool) (g : FuncId) (args : List AV) (σ : Sto) (nx : Nat) (K KP : AV → Sto → Nat → Prop) (t : Tok K) (t' : Tok KP) : Prop := CallP C own tot g args σ nx K KP
def gsel (o : Option Bool) (A B : Prop) (t : Tok A) (t' : Tok B) : Prop := match o with
 | some true => A
 | some false => B
 | none => False
@[go_sem] theorem gsel_true (A B : Prop) (t : Tok A) (t' : Tok B) : gsel (some true) A B t t' ↔ A := Iff.rfl
@[go_sem] theorem gsel_false (A B : Prop) (t : Tok A) (t' : Tok B) : gsel (some false) A B t t' ↔ B := Iff.rfl
section
variable {C : Cx} {H : Hints} {tt : Nat → Bool} {ops : Array Oper} {K : St → Prop} {KP : AV → Sto → Nat → Prop} {rest : List Oper} {k : Nat} {al : Nat × Nat} {env : Nat → AV} {σ : Sto} {nx : Nat} {d : Option Tmp} {ty : TypeId} {pos : String} {af : Array Edge}
@[go_sem ↓] theorem areg_nil {s : St} : areg C H tt ops K KP [] k al s ↔ K s := Iff.rfl
theorem areg_one {o : Oper} {s : St} (hg : o.guard = none) : areg C H tt ops K KP (o :: rest) k al s ↔ aop C H (tt k) al o (fun v σ nx => areg C H tt ops K KP rest (k + 1) (if isAlloc o.op = true then (al.1 + 1, al.2 + 1) else al) ⟨updo s.env o.dst v, σ, nx⟩) KP s := by
 constructor
 ·rintro ⟨t, h1, h2, h3⟩
  unfold wantedA at h1
  rw [hg] at h1
  simp only [Option.some.injEq] at h1
  exact h2 h1.symm
 ·intro h
  refine ⟨true, by unfold wantedA; rw [hg], fun _ => h, fun e => by cases e⟩
@[go_sem ↓] theorem areg_guard {j : Nat} {w : Bool} {op : Op} {s : St} : areg C H tt ops K KP (⟨d, op, ty, pos, af, some (j, w)⟩ :: rest) k al s ↔
  gsel (wantedA ops s.env ⟨d, op, ty, pos, af, some (j, w)⟩) (areg C H tt ops K KP (⟨d, op, ty, pos, af, none⟩ :: rest) k al s) (areg C H tt ops K KP rest (k + 1) (if isAlloc op = true then (al.1 + 1, al.2 + 1) else al) ⟨updo s.env d .undef, s.σ, s.nx⟩) .mk .mk := by
  rw [areg_one (o := ⟨d, op, ty, pos, af, none⟩) rfl]
  constructor
  ·rintro ⟨t, h1, h2, h3⟩
   rw [h1]
   cases t
   ·exact h3 rfl
   ·exact h2 rfl
  ·intro h
   cases hw : wantedA ops s.env ⟨d, op, ty, pos, af, some (j, w)⟩ with
   | none => rw [hw] at h; exact h.elim
   | some t =>
    rw [hw] at h
    refine ⟨t, hw, fun ht => ?_, fun ht => ?_⟩ <;> subst ht <;> exact h
theorem areg_fn {op : Op} (hk : kindOf H ⟨d, op, ty, pos, af, none⟩ = .fn) (ha : isAlloc op = false) : areg C H tt ops K KP (⟨d, op, ty, pos, af, none⟩ :: rest) k al ⟨env, σ, nx⟩ ↔
  seen (fop C al op env (if dstIn H.pl d = true then [] else σ)) (fun v => areg C H tt ops K KP rest (k + 1) al ⟨updo env d v, σ, nx⟩) .mk := by
 rw [areg_one rfl, aop_fn hk]
 simp only [ha, Bool.false_eq_true, if_false]
 rfl
theorem areg_eff {op : Op} (hk : kindOf H ⟨d, op, ty, pos, af, none⟩ = .eff) (ha : isAlloc op = false) : areg C H tt ops K KP (⟨d, op, ty, pos, af, none⟩ :: rest) k al ⟨env, σ, nx⟩ ↔
  seen3 (eop C (tyOf H.ty d) op env σ nx) (fun v σ nx => areg C H tt ops K KP rest (k + 1) al ⟨updo env d v, σ, nx⟩) .mk := by
 rw [areg_one rfl, aop_eff hk]
 simp only [ha, Bool.false_eq_true, if_false]
 rfl
@[go_sem ↓] theorem areg_move {x : Operand} : areg C H tt ops K KP (⟨d, .move x, ty, pos, af, none⟩ :: rest) k al ⟨env, σ, nx⟩ ↔ seen (some (opv C env x)) (fun v => areg C H tt ops K KP rest (k + 1) al ⟨updo env d v, σ, nx⟩) .mk := areg_fn rfl rfl
@[go_sem ↓] theorem areg_assign {x : Operand} : areg C H tt ops K KP (⟨d, .assign x, ty, pos, af, none⟩ :: rest) k al ⟨env, σ, nx⟩ ↔ seen (some (opv C env x)) (fun v => areg C H tt ops K KP rest (k + 1) al ⟨updo env d v, σ, nx⟩) .mk := areg_fn rfl rfl
def pickA : AV → AV → AV → Option AV
 | .bool t, a, b => some (if t = true then a else b)
 | _, _, _ => none
@[go_sem] theorem pickA_bool (t : Bool) (a b : AV) : pickA (.bool t) a b = some (if t = true then a else b) := rfl
@[go_sem ↓] theorem areg_pick {c a b : Operand} : areg C H tt ops K KP (⟨d, .pick c a b, ty, pos, af, none⟩ :: rest) k al ⟨env, σ, nx⟩ ↔ seen (pickA (opv C env c) (opv C env a) (opv C env b)) (fun v => areg C H tt ops K KP rest (k + 1) al ⟨updo env d v, σ, nx⟩) .mk := by
  rw [areg_fn rfl rfl]
  simp only [fop, pickA]
  cases opv C env c <;> rfl
def allocA : Option (List AV) → Nat × Nat → Option AV
 | some _, al => some (.ref al.1 al.2 0)
 | none, _ => none
@[go_sem] theorem allocA_some (z : List AV) (p n : Nat) : allocA (some z) (p, n) = some (.ref p n 0) := rfl
@[go_sem ↓] theorem areg_alloc {T : TypeId} {p n : Nat} : areg C H tt ops K KP (⟨d, .alloc T, ty, pos, af, none⟩ :: rest) k (p, n) ⟨env, σ, nx⟩ ↔ seen (allocA (zeroCells C.P T) (p, n)) (fun v => areg C H tt ops K KP rest (k + 1) (p + 1, n + 1) ⟨updo env d v, σ, nx⟩) .mk := by
  rw [areg_one rfl, aop_fn rfl]
  simp only [fval, fop, isAlloc, if_true]
  unfold allocA
  cases zeroCells C.P T <;> rfl
@[go_sem ↓] theorem areg_box {T : TypeId} {x : Operand} : areg C H tt ops K KP (⟨d, .box T x, ty, pos, af, none⟩ :: rest) k al ⟨env, σ, nx⟩ ↔
  if dstIn H.mb d = true then seen3 ((cellsA (opv C env x)).map fun cs => (.ref σ.length nx 0, σ ++ [(nx, .cells T cs)], nx + 1)) (fun v σ nx => areg C H tt ops K KP rest (k + 1) al ⟨updo env d v, σ, nx⟩) .mk
  else seen ((cellsA (opv C env x)).map .rptr) (fun v => areg C H tt ops K KP rest (k + 1) al ⟨updo env d v, σ, nx⟩) .mk := by
  split
  ·rename_i h; exact areg_eff (op := .box T x) (by simp [kindOf, h]) rfl
  ·rename_i h; rw [areg_fn (op := .box T x) (by simp [kindOf, h]) rfl]; rfl
def buildA (z : Option (List AV)) (pl : Option (List (Nat × Nat))) (parts : List (Nat × AV)) : Option AV :=
 match z, pl with
 | some z, some pl => (fillA (pl[·]?) z parts).map .agg
 | _, _ => none
@[go_sem] theorem buildA_some (z : List AV) (pl : List (Nat × Nat)) (parts : List (Nat × AV)) : buildA (some z) (some pl) parts = (fillA (pl[·]?) z parts).map .agg := rfl
@[go_sem ↓] theorem areg_build {t : TypeId} {ps : Array (Nat × Operand)} : areg C H tt ops K KP (⟨d, .build t ps, ty, pos, af, none⟩ :: rest) k al ⟨env, σ, nx⟩ ↔ seen (buildA (zeroCells C.P t) (bldT C.P t) (ps.toList.map fun p => (p.1, opv C env p.2))) (fun v => areg C H tt ops K KP rest (k + 1) al ⟨updo env d v, σ, nx⟩) .mk := by
  rw [areg_fn rfl rfl]
  have : fop C al (.build t ps) env (if dstIn H.pl d = true then [] else σ) = buildA (zeroCells C.P t) (bldT C.P t) (ps.toList.map fun p => (p.1, opv C env p.2)) := by
   simp only [fop, buildA]
   cases zeroCells C.P t <;> cases bldT C.P t <;> rfl
  rw [this]
def bslA (sz len : Nat) (z : Option (List AV)) (parts : List (Nat × AV)) : Option (List (List AV)) :=
 match z with
 | some z => if 0 < sz ∧ z.length = sz ∧ len * sz ≤ 16777216 then rowsA sz (List.replicate len z) parts else none
 | none => none
def bslF (P : Program) (t : TypeId) (len : Nat) (parts : List (Nat × AV)) : Option AV :=
 match elmT P t with
 | some (e, sz, _) => (bslA sz len (zeroCells P e) parts).map (.vec sz)
 | none => none
def bslE (P : Program) (ety : Option E) (t : TypeId) (len : Nat) (parts : List (Nat × AV)) (σ : Sto) (nx : Nat) : Option (AV × Sto × Nat) :=
 match ety with
 | some e => bslT P t len e σ nx parts
 | none => match elmT P t with
 | some (e, sz, _) => (bslA sz len (zeroCells P e) parts).map fun rows => (.sref σ.length nx sz 0 len, σ ++ [(nx, .gvec sz e rows)], nx + 1)
 | none => none
@[go_sem ↓] theorem areg_buildSlice {t : TypeId} {len : Nat} {ps : Array (Nat × Operand)} : areg C H tt ops K KP (⟨d, .buildSlice t len ps, ty, pos, af, none⟩ :: rest) k al ⟨env, σ, nx⟩ ↔
  if dstIn H.mb d = true then seen3 (bslE C.P (tyOf H.ty d) t len (ps.toList.map fun p => (p.1, opv C env p.2)) σ nx) (fun v σ nx => areg C H tt ops K KP rest (k + 1) al ⟨updo env d v, σ, nx⟩) .mk
  else seen (bslF C.P t len (ps.toList.map fun p => (p.1, opv C env p.2))) (fun v => areg C H tt ops K KP rest (k + 1) al ⟨updo env d v, σ, nx⟩) .mk := by
  split
  ·rename_i h
   rw [areg_eff (op := .buildSlice t len ps) (by simp [kindOf, h]) rfl]
   have : eop C (tyOf H.ty d) (.buildSlice t len ps) env σ nx = bslE C.P (tyOf H.ty d) t len (ps.toList.map fun p => (p.1, opv C env p.2)) σ nx := by
    simp only [eop, bslE]
    cases tyOf H.ty d with
    | some e => rfl
    | none =>
    simp only
    cases elmT C.P t with
    | none => rfl
    | some q =>
     obtain ⟨e, sz, b⟩ := q
     simp only [bslA]
     cases zeroCells C.P e with
     | none => rfl
     | some z => simp only; split <;> rfl
   rw [this]
  ·rename_i h
   rw [areg_fn (op := .buildSlice t len ps) (by simp [kindOf, h]) rfl]
   have : fop C al (.buildSlice t len ps) env (if dstIn H.pl d = true then [] else σ) = bslF C.P t len (ps.toList.map fun p => (p.1, opv C env p.2)) := by
    simp only [fop, bslF]
    cases elmT C.P t with
    | none => rfl
    | some q =>
     obtain ⟨e, sz, b⟩ := q
     simp only [bslA]
     cases zeroCells C.P e with
     | none => rfl
     | some z => simp only; split <;> rfl
   rw [this]
@[go_sem ↓] theorem areg_load {T : TypeId} {x : Operand} : areg C H tt ops K KP (⟨d, .load T x, ty, pos, af, none⟩ :: rest) k al ⟨env, σ, nx⟩ ↔ seen (readA C.P T (if dstIn H.pl d = true then [] else σ) (opv C env x)) (fun v => areg C H tt ops K KP rest (k + 1) al ⟨updo env d v, σ, nx⟩) .mk := areg_fn rfl rfl
@[go_sem ↓] theorem areg_nilCheck {x : Operand} : areg C H tt ops K KP (⟨d, .nilCheck x, ty, pos, af, none⟩ :: rest) k al ⟨env, σ, nx⟩ ↔ seen (nilckA (opv C env x)) (fun v => areg C H tt ops K KP rest (k + 1) al ⟨updo env d v, σ, nx⟩) .mk := areg_fn rfl rfl
@[go_sem ↓] theorem areg_binOp {op : BinOp} {t u : TypeId} {x y : Operand} : areg C H tt ops K KP (⟨d, .binOp op t x y u, ty, pos, af, none⟩ :: rest) k al ⟨env, σ, nx⟩ ↔ seen (abin C op t x y (opv C env x) (opv C env y)) (fun v => areg C H tt ops K KP rest (k + 1) al ⟨updo env d v, σ, nx⟩) .mk := areg_fn rfl rfl
@[go_sem ↓] theorem areg_unOp {op : UnOp} {t : TypeId} {x : Operand} : areg C H tt ops K KP (⟨d, .unOp op t x, ty, pos, af, none⟩ :: rest) k al ⟨env, σ, nx⟩ ↔ seen (aun op (opv C env x)) (fun v => areg C H tt ops K KP rest (k + 1) al ⟨updo env d v, σ, nx⟩) .mk := areg_fn rfl rfl
@[go_sem ↓] theorem areg_convert {s t : TypeId} {x : Operand} : areg C H tt ops K KP (⟨d, .convert s t x, ty, pos, af, none⟩ :: rest) k al ⟨env, σ, nx⟩ ↔ seen (aconv C.P s t (opv C env x)) (fun v => areg C H tt ops K KP rest (k + 1) al ⟨updo env d v, σ, nx⟩) .mk := areg_fn rfl rfl
@[go_sem ↓] theorem areg_makeInterface {t : TypeId} {x : Operand} : areg C H tt ops K KP (⟨d, .makeInterface t x, ty, pos, af, none⟩ :: rest) k al ⟨env, σ, nx⟩ ↔ seen (if conT C.P t then some (.iface t (opv C env x)) else none) (fun v => areg C H tt ops K KP rest (k + 1) al ⟨updo env d v, σ, nx⟩) .mk := areg_fn rfl rfl
@[go_sem ↓] theorem areg_makeFunc {f : Fn} {a b : Array Operand} : areg C H tt ops K KP (⟨d, .makeFunc f a b, ty, pos, af, none⟩ :: rest) k al ⟨env, σ, nx⟩ ↔ seen (some (.fn f (a.toList.map (opv C env)) (b.toList.map (opv C env)))) (fun v => areg C H tt ops K KP rest (k + 1) al ⟨updo env d v, σ, nx⟩) .mk := areg_fn rfl rfl
@[go_sem ↓] theorem areg_fieldAddr {s f : Nat} {x : Operand} : areg C H tt ops K KP (⟨d, .fieldAddr s x f, ty, pos, af, none⟩ :: rest) k al ⟨env, σ, nx⟩ ↔ seen (fadA C.P s f (opv C env x)) (fun v => areg C H tt ops K KP rest (k + 1) al ⟨updo env d v, σ, nx⟩) .mk := areg_fn rfl rfl
@[go_sem ↓] theorem areg_field {s f : Nat} {x : Operand} : areg C H tt ops K KP (⟨d, .field s x f, ty, pos, af, none⟩ :: rest) k al ⟨env, σ, nx⟩ ↔ seen (fieldA C.P s f (opv C env x)) (fun v => areg C H tt ops K KP rest (k + 1) al ⟨updo env d v, σ, nx⟩) .mk := areg_fn rfl rfl
@[go_sem ↓] theorem areg_indexAddr {t : TypeId} {x i : Operand} : areg C H tt ops K KP (⟨d, .indexAddr t x i, ty, pos, af, none⟩ :: rest) k al ⟨env, σ, nx⟩ ↔ seen (idxA C.P t (opv C env x) (opv C env i)) (fun v => areg C H tt ops K KP rest (k + 1) al ⟨updo env d v, σ, nx⟩) .mk := areg_fn rfl rfl
@[go_sem ↓] theorem areg_index {t : TypeId} {x i : Operand} : areg C H tt ops K KP (⟨d, .index t x i, ty, pos, af, none⟩ :: rest) k al ⟨env, σ, nx⟩ ↔ seen (indexA C.P t (opv C env x) (opv C env i)) (fun v => areg C H tt ops K KP rest (k + 1) al ⟨updo env d v, σ, nx⟩) .mk := areg_fn rfl rfl
@[go_sem ↓] theorem areg_slice {t : TypeId} {x : Operand} {lo hi mx : Option Operand} : areg C H tt ops K KP (⟨d, .slice t x lo hi mx, ty, pos, af, none⟩ :: rest) k al ⟨env, σ, nx⟩ ↔ if dstIn H.mb d = true then seen3 (eop C (tyOf H.ty d) (.slice t x lo hi mx) env σ nx) (fun v σ nx => areg C H tt ops K KP rest (k + 1) al ⟨updo env d v, σ, nx⟩) .mk
  else seen (sliceA C.P t (opv C env x) (lo.map (opv C env)) (hi.map (opv C env)) (mx.map (opv C env))) (fun v => areg C H tt ops K KP rest (k + 1) al ⟨updo env d v, σ, nx⟩) .mk := by
  split
  ·rename_i h; exact areg_eff (op := .slice t x lo hi mx) (by simp [kindOf, h]) rfl
  ·rename_i h; rw [areg_fn (op := .slice t x lo hi mx) (by simp [kindOf, h]) rfl]; rfl
@[go_sem] theorem tyOf_nil (d : Option Nat) : tyOf [] d = none := by cases d <;> rfl
@[go_sem] theorem bslE_none (P : Program) (t : TypeId) (len : Nat) (parts : List (Nat × AV)) (σ : Sto) (nx : Nat) : bslE P none t len parts σ nx = match elmT P t with | some (e, sz, _) => (bslA sz len (zeroCells P e) parts).map fun rows => (.sref σ.length nx sz 0 len, σ ++ [(nx, .gvec sz e rows)], nx + 1) | none => none := rfl
def makeE (P : Program) (ety : Option E) (t : TypeId) (σ : Sto) (nx : Nat) (l c : AV) : Option (AV × Sto × Nat) := match ety with | some e => makeT P t e σ nx l c | none => makeA P t σ nx l c
@[go_sem] theorem makeE_none (P : Program) (t : TypeId) (σ : Sto) (nx : Nat) (l c : AV) : makeE P none t σ nx l c = makeA P t σ nx l c := rfl
@[go_sem ↓] theorem areg_extract {x : Operand} {i : Nat} : areg C H tt ops K KP (⟨d, .extract x i, ty, pos, af, none⟩ :: rest) k al ⟨env, σ, nx⟩ ↔ seen (extA (opv C env x) i) (fun v => areg C H tt ops K KP rest (k + 1) al ⟨updo env d v, σ, nx⟩) .mk := areg_fn rfl rfl
@[go_sem ↓] theorem areg_typeAssert {x : Operand} {t u : TypeId} {ok : Bool} : areg C H tt ops K KP (⟨d, .typeAssert x t u ok, ty, pos, af, none⟩ :: rest) k al ⟨env, σ, nx⟩ ↔ seen (assertA C.P (opv C env x) u ok) (fun v => areg C H tt ops K KP rest (k + 1) al ⟨updo env d v, σ, nx⟩) .mk := areg_fn rfl rfl
@[go_sem ↓] theorem areg_store {T : TypeId} {a x : Operand} : areg C H tt ops K KP (⟨d, .store T a x, ty, pos, af, none⟩ :: rest) k al ⟨env, σ, nx⟩ ↔ seen3 ((storeA C.P T σ (opv C env a) (opv C env x)).map fun σ' => (.undef, σ', nx)) (fun v σ nx => areg C H tt ops K KP rest (k + 1) al ⟨updo env d v, σ, nx⟩) .mk := areg_eff rfl rfl
@[go_sem ↓] theorem areg_makeSlice {t : TypeId} {l c : Operand} : areg C H tt ops K KP (⟨d, .makeSlice t l c, ty, pos, af, none⟩ :: rest) k al ⟨env, σ, nx⟩ ↔ seen3 (makeE C.P (tyOf H.ty d) t σ nx (opv C env l) (opv C env c)) (fun v σ nx => areg C H tt ops K KP rest (k + 1) al ⟨updo env d v, σ, nx⟩) .mk := by
  rw [areg_eff rfl rfl]
  have : eop C (tyOf H.ty d) (.makeSlice t l c) env σ nx = makeE C.P (tyOf H.ty d) t σ nx (opv C env l) (opv C env c) := by simp only [eop, makeE]; cases tyOf H.ty d <;> rfl
  rw [this]
@[go_sem ↓] theorem areg_range {t : TypeId} {x : Operand} : areg C H tt ops K KP (⟨d, .range t x, ty, pos, af, none⟩ :: rest) k al ⟨env, σ, nx⟩ ↔ seen3 (rangeA C.P t σ nx (opv C env x)) (fun v σ nx => areg C H tt ops K KP rest (k + 1) al ⟨updo env d v, σ, nx⟩) .mk := areg_eff rfl rfl
@[go_sem ↓] theorem areg_next {x : Operand} : areg C H tt ops K KP (⟨d, .next x true, ty, pos, af, none⟩ :: rest) k al ⟨env, σ, nx⟩ ↔ seen3 (nextA σ nx (opv C env x)) (fun v σ nx => areg C H tt ops K KP rest (k + 1) al ⟨updo env d v, σ, nx⟩) .mk := areg_eff rfl rfl
@[go_sem ↓] theorem areg_append {ags : Array Operand} {ts : Array TypeId} : areg C H tt ops K KP (⟨d, .call ⟨.builtin .append, ags, ts⟩, ty, pos, af, none⟩ :: rest) k al ⟨env, σ, nx⟩ ↔
  seen3 (eop C (tyOf H.ty d) (.call ⟨.builtin .append, ags, ts⟩) env σ nx) (fun v σ nx => areg C H tt ops K KP rest (k + 1) al ⟨updo env d v, σ, nx⟩) .mk := areg_eff rfl rfl
@[go_sem] theorem eop_append {ags : Array Operand} {t t' : TypeId} {x y : Operand} : eop C none (.call ⟨.builtin .append, #[x, y], #[t, t']⟩) env σ nx = appendA C.P t t' σ nx (opv C env x) (opv C env y) := rfl
theorem areg_builtin {b : Builtin} {ags : Array Operand} {ts : Array TypeId} (hb : kindOf H ⟨d, .call ⟨.builtin b, ags, ts⟩, ty, pos, af, none⟩ = .fn) : areg C H tt ops K KP (⟨d, .call ⟨.builtin b, ags, ts⟩, ty, pos, af, none⟩ :: rest) k al ⟨env, σ, nx⟩ ↔
  seen (bfun C.P b ts.toList (ags.toList.map (opv C env))) (fun v => areg C H tt ops K KP rest (k + 1) al ⟨updo env d v, σ, nx⟩) .mk := areg_fn hb rfl
@[go_sem ↓] theorem areg_len {ags : Array Operand} {ts : Array TypeId} : areg C H tt ops K KP (⟨d, .call ⟨.builtin .len, ags, ts⟩, ty, pos, af, none⟩ :: rest) k al ⟨env, σ, nx⟩ ↔
  seen (bfun C.P .len ts.toList (ags.toList.map (opv C env))) (fun v => areg C H tt ops K KP rest (k + 1) al ⟨updo env d v, σ, nx⟩) .mk := areg_builtin rfl
@[go_sem ↓] theorem areg_max {ags : Array Operand} {ts : Array TypeId} : areg C H tt ops K KP (⟨d, .call ⟨.builtin .max, ags, ts⟩, ty, pos, af, none⟩ :: rest) k al ⟨env, σ, nx⟩ ↔
  seen (bfun C.P .max ts.toList (ags.toList.map (opv C env))) (fun v => areg C H tt ops K KP rest (k + 1) al ⟨updo env d v, σ, nx⟩) .mk := areg_builtin rfl
@[go_sem ↓] theorem areg_min {ags : Array Operand} {ts : Array TypeId} : areg C H tt ops K KP (⟨d, .call ⟨.builtin .min, ags, ts⟩, ty, pos, af, none⟩ :: rest) k al ⟨env, σ, nx⟩ ↔
  seen (bfun C.P .min ts.toList (ags.toList.map (opv C env))) (fun v => areg C H tt ops K KP rest (k + 1) al ⟨updo env d v, σ, nx⟩) .mk := areg_builtin rfl
def callA (C : Cx) (own tot : Bool) (f : AV) (args : List AV) (σ : Sto) (nx : Nat) (K KP : AV → Sto → Nat → Prop) (t : Tok K) (t' : Tok KP) : Prop :=
 match f with
 | .fn (.func g) first caps => CallP C own tot g (first ++ (args ++ caps)) σ nx K KP
 | _ => False
@[go_sem] theorem callA_fn {own tot : Bool} {g : FuncId} {first caps args : List AV} {K KP : AV → Sto → Nat → Prop} {t : Tok K} {t' : Tok KP} : callA C own tot (.fn (.func g) first caps) args σ nx K KP t t' ↔ callP C own tot g (first ++ (args ++ caps)) σ nx K KP t t' := Iff.rfl
@[go_sem ↓] theorem areg_call {f : Operand} {ags : Array Operand} {ts : Array TypeId} : areg C H tt ops K KP (⟨d, .call ⟨.value f, ags, ts⟩, ty, pos, af, none⟩ :: rest) k al ⟨env, σ, nx⟩ ↔
  callA C (dstIn H.ac d) (tt k) (opv C env f) (ags.toList.map (opv C env)) σ nx (fun v σ nx => areg C H tt ops K KP rest (k + 1) al ⟨updo env d v, σ, nx⟩) KP .mk .mk := by
  rw [areg_one rfl, aop_call rfl rfl]
  simp only [isAlloc, Bool.false_eq_true, if_false, calleeA]
  constructor
  ·rintro ⟨g, args, h1, h2⟩
   split at h1
   ·rename_i g' first caps hf; cases h1; rw [hf]; exact h2
   ·cases h1
  ·intro h
   unfold callA at h
   split at h
   ·rename_i g first caps hf; rw [hf]; exact ⟨g, _, rfl, h⟩
   ·exact h.elim
@[go_sem ↓] theorem areg_panic {x : Operand} : areg C H tt ops K KP (⟨d, .panic x, ty, pos, af, none⟩ :: rest) k al ⟨env, σ, nx⟩ ↔ ∃ t v, opv C env x = .iface t v ∧ KP (.iface t v) σ nx := by
  rw [areg_one rfl]
  unfold aop
  rfl
end
@[go_sem ↓] theorem opv_tmp (C : Cx) (env : Nat → AV) (t : Nat) : opv C env (.tmp t) = env t := rfl
@[go_sem ↓] theorem opv_const (C : Cx) (env : Nat → AV) (v : Value) : opv C env (.const v) = ofVal v := rfl
@[go_sem ↓] theorem opv_global (C : Cx) (env : Nat → AV) (g : Nat) : opv C env (.global g) = C.gl g := rfl
@[go_sem ↓] theorem opv_func (C : Cx) (env : Nat → AV) (f : FuncId) : opv C env (.func f) = .fn (.func f) [] [] := rfl
@[go_sem] theorem ofVal_int (k : IntKind) (n : Int) : ofVal (.int k n) = .int k n := rfl
@[go_sem] theorem ofVal_bool (b : Bool) : ofVal (.bool b) = .bool b := rfl
@[go_sem] theorem ofVal_slice (a : Option Addr) (l c : Nat) : ofVal (.slice a l c) = .base (.slice a l c) := rfl
@[go_sem] theorem ofVal_pointer (a : Option Addr) : ofVal (.pointer a) = .base (.pointer a) := rfl
@[go_sem] theorem ofVal_agg (a : Array Value) : ofVal (.agg a) = .base (.agg a) := rfl
@[go_sem] theorem ofVal_nilIface : ofVal .nilIface = .base .nilIface := rfl
@[go_sem] theorem ofVal_nilFunc : ofVal .nilFunc = .base .nilFunc := rfl
@[go_sem] theorem ofVal_map (a : Option Nat) : ofVal (.map a) = .base (.map a) := rfl
@[go_sem ↓] theorem updo_none (env : Nat → AV) (v : AV) : updo env none v = env := rfl
@[go_sem ↓] theorem updo_some (env : Nat → AV) (d t : Nat) (v : AV) : updo env (some d) v t = if t = d then v else env t := rfl
@[go_sem ↓] theorem argEnv_zero (a : AV) (l : List AV) : argEnv (a :: l) 0 = a := rfl
@[go_sem ↓] theorem argEnv_one (a b : AV) (l : List AV) : argEnv (a :: b :: l) 1 = b := rfl
@[go_sem ↓] theorem argEnv_two (a b c : AV) (l : List AV) : argEnv (a :: b :: c :: l) 2 = c := rfl
@[go_sem ↓] theorem argEnv_three (a b c d : AV) (l : List AV) : argEnv (a :: b :: c :: d :: l) 3 = d := rfl
def boolW (w : Bool) : AV → Option Bool
 | .bool b => some (b == w)
 | .base (.tuple _) => some false
 | _ => none
def gdv (env : Nat → AV) (w : Bool) : List Oper → Nat → Option Bool
 | [], _ => some false
 | o :: _, 0 => (match o.dst with
  | some t => boolW w (env t)
  | none => some false)
 | _ :: r, j + 1 => gdv env w r j
theorem gdv_get (env : Nat → AV) (w : Bool) : ∀ (l : List Oper) (j : Nat), gdv env w l j = match (l[j]?).bind (·.dst) with
  | some t => boolW w (env t)
  | none => some false
 | [], _ => rfl
 | o :: _, 0 => rfl
 | _ :: r, j + 1 => by
  rw [gdv, gdv_get env w r j]
  simp only [List.getElem?_cons_succ]
@[go_sem ↓] theorem wantedA_some {ops : List Oper} {env : Nat → AV} {d : Option Tmp} {op : Op} {ty : TypeId} {pos : String} {af : Array Edge} {j : Nat} {w : Bool} : wantedA ops.toArray env ⟨d, op, ty, pos, af, some (j, w)⟩ = gdv env w ops j := by
  unfold wantedA
  rw [gdv_get]
  simp only [List.getElem?_toArray]
  cases (ops[j]?).bind (·.dst) <;> rfl
@[go_sem ↓] theorem gdv_zero (env : Nat → AV) (w : Bool) (t : Tmp) (op : Op) (ty : TypeId) (pos : String) (af : Array Edge) (g : Option (Nat × Bool)) (r : List Oper) : gdv env w (⟨some t, op, ty, pos, af, g⟩ :: r) 0 = boolW w (env t) := rfl
@[go_sem ↓] theorem gdv_succ (env : Nat → AV) (w : Bool) (o : Oper) (j : Nat) (r : List Oper) : gdv env w (o :: r) (j + 1) = gdv env w r j := rfl
@[go_sem] theorem boolW_bool (w b : Bool) : boolW w (.bool b) = some (b == w) := rfl
@[go_sem] theorem boolW_undef (w : Bool) (vs : Array Value) : boolW w (.base (.tuple vs)) = some false := rfl
section
variable {C : Cx} {n : Nat} {ds : List Deferred} {Q : AExit → St → Prop} {s : St} {id : Nat} {ops : Array Oper} {y : Code} {objs : Sto}
theorem aw_sreg (H : Hints) (hd : dstOK n ops = true) (ho : allocObjs C.P ops.toList s.nx = some objs)
  (h : ∀ (K : St → Prop) (KP : AV → Sto → Nat → Prop), (∀ s, aw C n ds y Q s → K s) → (∀ v σ nx, (∀ env, Q (.pan v) ⟨env, σ, nx⟩) → KP v σ nx) →
   areg C H (fun _ => true) ops K KP ops.toList 0 (s.σ.length, s.nx) ⟨s.env, s.σ ++ objs, s.nx + objs.length⟩) : aw C n ds (.seq (.region id ops false) y) Q s :=
 aw_seq (aw_region hd ho (h _ _ (fun _ h => h) (fun _ _ _ h env => h env)))
theorem aw_lreg (H : Hints) (hd : dstOK n ops = true) (ho : allocObjs C.P ops.toList s.nx = some objs)
  (h : ∀ (K : St → Prop) (KP : AV → Sto → Nat → Prop), (∀ s, Q .normal s → K s) → (∀ v σ nx, (∀ env, Q (.pan v) ⟨env, σ, nx⟩) → KP v σ nx) →
   areg C H (fun _ => true) ops K KP ops.toList 0 (s.σ.length, s.nx) ⟨s.env, s.σ ++ objs, s.nx + objs.length⟩) : aw C n ds (.region id ops false) Q s :=
 aw_region hd ho (h _ _ (fun _ h => h) (fun _ _ _ h env => h env))
theorem CallP.ret {own tot : Bool} {g : FuncId} {args : List AV} {σ : Sto} {nx : Nat} {K KP : AV → Sto → Nat → Prop} {r : AV} (h : PCall C g args (· = .ret r)) (hf : RFL args) (hk : K r σ nx) : CallP C own tot g args σ nx K KP :=
 ⟨_, h.acall hf σ nx, (by rintro v σ' nx' ⟨hq, rfl, rfl⟩; cases hq; exact hk), (by rintro v σ' nx' ⟨hq, _, _⟩; cases hq), .inr ⟨r, σ, nx, rfl, rfl, rfl⟩, .inr ⟨hf, _, h, fun _ _ _ => Iff.rfl⟩⟩
theorem CallP.pan {own : Bool} {g : FuncId} {args : List AV} {σ : Sto} {nx : Nat} {K KP : AV → Sto → Nat → Prop} {r : AV} (h : PCall C g args (· = .pan r)) (hf : RFL args) (hk : KP r σ nx) : CallP C own true g args σ nx K KP :=
 ⟨_, h.acall hf σ nx, (by rintro v σ' nx' ⟨hq, _, _⟩; cases hq), (by rintro v σ' nx' ⟨hq, rfl, rfl⟩; cases hq; exact hk), .inl rfl, .inr ⟨hf, _, h, fun _ _ _ => Iff.rfl⟩⟩
end
end Go.Ab

namespace Go.Ab
open Go Go.RowKit
attribute [go_sem] fadA fieldA indexA bndA empA sliceish bfun maxA storeA spliceA extA nilckA assertA abinInt abinStr aun aconv isNilConst fillA bslF bslE bslA makeA rowsA rangeA nextA
section
variable {P : Program} {T t : TypeId} {σ : Sto} {k : IntKind} {n : Int}
@[go_sem] theorem sget_zero (n m : Nat) (o : AObj) (r : Sto) : sget ((n, o) :: r) 0 m = if n = m then some o else none := rfl
@[go_sem] theorem sget_succ (p m : Nat) (a : Nat × AObj) (r : Sto) : sget (a :: r) (p + 1) m = sget r p m := by simp [sget]
@[go_sem] theorem readA_rptr (cs : List AV) : readA P T σ (.rptr cs) = loadC P T cs := rfl
@[go_sem] theorem readA_ref (p m off : Nat) : readA P T σ (.ref p m off) = match sget σ p m with
  | some (.cells _ cs) => loadC P T (cs.drop off)
  | _ => none := rfl
@[go_sem] theorem readA_eref (p m i off : Nat) : readA P T σ (.eref p m i off) = match sget σ p m with
  | some (.gvec _ _ rows) => match rows[i]? with
   | some row => loadC P T (row.drop off)
   | none => none
  | some (.tg e _ l) => if i < l.length then loadC P T ((e.cells (l.getD i e.dflt)).drop off) else none
  | _ => none := rfl
@[go_sem low] theorem loadC_eq (cs : List AV) : loadC P T cs = match aggT P T, szT P T with
  | some true, some n => if n ≤ cs.length then some (.agg (cs.take n)) else none
  | some false, _ => cs.head?
  | _, _ => none := rfl
@[go_sem] theorem lenA_str (l : List UInt8) : lenA P t (.str l) = if strT P t = true then some (.int .i64 l.length) else none := rfl
@[go_sem] theorem lenA_vec (e : Nat) (rows : List (List AV)) : lenA P t (.vec e rows) = if slcT P t = true then some (.int .i64 rows.length) else none := rfl
@[go_sem] theorem lenA_sref (p m e o l : Nat) : lenA P t (.sref p m e o l) = if slcT P t = true then some (.int .i64 l) else none := rfl
@[go_sem] theorem lenA_emp : lenA P t .emp = if slcT P t = true then some (.int .i64 0) else none := rfl
@[go_sem] theorem lenA_nil : lenA P t (.base (.slice none 0 0)) = if slcT P t = true then some (.int .i64 0) else none := rfl
@[go_sem] theorem idxA_vec (e : Nat) (rows : List (List AV)) : idxA P t (.vec e rows) (.int k n) = match elmT P t with
  | some (_, sz, _) => if e = sz ∧ 0 ≤ n ∧ n < rows.length then some (.rptr (rows.getD n.toNat [])) else none
  | none => none := by
  unfold idxA
  cases elmT P t with
  | some q => rfl
  | none => simp only; cases arrT P t with
   | none => rfl
   | some q => simp only; split <;> rfl
@[go_sem] theorem idxA_sref (p m e o l : Nat) : idxA P t (.sref p m e o l) (.int k n) = match elmT P t with
  | some (_, sz, _) => if e = sz ∧ 0 ≤ n ∧ n < l then some (.eref p m (o + n.toNat) 0) else none
  | none => none := by
  unfold idxA
  cases elmT P t with
  | some q => rfl
  | none => simp only; cases arrT P t with
   | none => rfl
   | some q => simp only; split <;> rfl
@[go_sem] theorem idxA_rptr (cs : List AV) : idxA P t (.rptr cs) (.int k n) = match elmT P t, arrT P t with
  | none, some (len, _, sz) => if 0 ≤ n ∧ n < len then some (.rptr (cs.drop (n.toNat * sz))) else none
  | _, _ => none := by
  unfold idxA
  cases elmT P t <;> cases arrT P t <;> rfl
@[go_sem] theorem idxA_ref (p m o : Nat) : idxA P t (.ref p m o) (.int k n) = match elmT P t, arrT P t with
  | none, some (len, _, sz) => if 0 ≤ n ∧ n < len then some (.ref p m (o + n.toNat * sz)) else none
  | _, _ => none := by
  unfold idxA
  cases elmT P t <;> cases arrT P t <;> rfl
@[go_sem] theorem cellsA_int : cellsA (.int k n) = some [.int k n] := rfl
@[go_sem] theorem cellsA_bool (b : Bool) : cellsA (.bool b) = some [.bool b] := rfl
@[go_sem] theorem cellsA_str (l : List UInt8) : cellsA (.str l) = some [.str l] := rfl
@[go_sem] theorem cellsA_agg (l : List AV) : cellsA (.agg l) = some l := rfl
@[go_sem] theorem cellsA_vec (e : Nat) (l : List (List AV)) : cellsA (.vec e l) = some [.vec e l] := rfl
@[go_sem] theorem cellsA_emp : cellsA .emp = some [.emp] := rfl
@[go_sem] theorem cellsA_rptr (l : List AV) : cellsA (.rptr l) = some [.rptr l] := rfl
@[go_sem] theorem cellsA_ref (p m o : Nat) : cellsA (.ref p m o) = some [.ref p m o] := rfl
@[go_sem] theorem cellsA_eref (p m i o : Nat) : cellsA (.eref p m i o) = some [.eref p m i o] := rfl
@[go_sem] theorem cellsA_sref (p m e o l : Nat) : cellsA (.sref p m e o l) = some [.sref p m e o l] := rfl
@[go_sem] theorem cellsA_fn (f : Fn) (a b : List AV) : cellsA (.fn f a b) = some [.fn f a b] := rfl
@[go_sem] theorem cellsA_iface (u : TypeId) (v : AV) : cellsA (.iface u v) = some [.iface u v] := rfl
@[go_sem] theorem cellsA_slice (a : Option Addr) (l c : Nat) : cellsA (.base (.slice a l c)) = some [.base (.slice a l c)] := rfl
@[go_sem] theorem cellsA_pointer (a : Option Addr) : cellsA (.base (.pointer a)) = some [.base (.pointer a)] := rfl
@[go_sem] theorem cellsA_nilIface : cellsA (.base .nilIface) = some [.base .nilIface] := rfl
@[go_sem] theorem cellsA_nilFunc : cellsA (.base .nilFunc) = some [.base .nilFunc] := rfl
@[go_sem] theorem cellsA_mapv (a : Option Nat) : cellsA (.base (.map a)) = some [.base (.map a)] := rfl
@[go_sem] theorem cellsA_baseAgg (a : Array Value) : cellsA (.base (.agg a)) = if a.toList.all (·.oneCell') = true then some (a.toList.map ofVal) else none := rfl
def nilU (o : Option TypeDesc) (x : AV) : Option Bool := match o with
 | some d => if nilT d x then nilA x else none
 | none => none
@[go_sem low] theorem nilTest_eq (x : AV) : nilTest P t x = nilU (P.underlying t) x := rfl
attribute [go_sem] nilU nilT nilA
@[go_sem] theorem sliceA_str (l : List UInt8) (lo hi : Option AV) : sliceA P t (.str l) lo hi none = if strT P t then (match bndA l.length lo hi with
  | some (a, h) => if 0 ≤ a ∧ a ≤ h ∧ h ≤ l.length then some (.str ((l.drop a.toNat).take (h.toNat - a.toNat))) else none
  | none => none) else none := rfl
@[go_sem] theorem sliceA_vec (e : Nat) (rows : List (List AV)) (lo hi : Option AV) : sliceA P t (.vec e rows) lo hi none = match elmT P t, bndA rows.length lo hi with
  | some (_, sz, _), some (l, h) => if e = sz ∧ 0 ≤ l ∧ l ≤ h ∧ h ≤ rows.length then some (.vec e ((rows.drop l.toNat).take (h.toNat - l.toNat))) else none
  | _, _ => none := rfl
@[go_sem] theorem sliceA_sref (p m e o n : Nat) (lo hi : Option AV) : sliceA P t (.sref p m e o n) lo hi none = match elmT P t, bndA n lo hi with
  | some (_, sz, _), some (l, h) => if e = sz ∧ 0 ≤ l ∧ l ≤ h ∧ h ≤ n then (if l = 0 ∨ l < h then some (.sref p m e (o + l.toNat) (h.toNat - l.toNat)) else some (.vec e [])) else none
  | _, _ => none := rfl
@[go_sem] theorem sliceA_nil (lo hi : Option AV) : sliceA P t (.base (.slice none 0 0)) lo hi none = match elmT P t, bndA 0 lo hi with
  | some _, some (l, h) => if l = 0 ∧ h = 0 then some (.base (.slice none 0 0)) else none
  | _, _ => none := rfl
@[go_sem] theorem sliceA_three (a : AV) (lo hi : Option AV) : sliceA P t a lo hi (some (.int k n)) = match elmT P t, bndA 0 lo hi with
  | some _, some (l, h) => if hi.isSome = true ∧ n = 0 ∧ l = 0 ∧ h = 0 ∧ sliceish a = true then some (empA a) else none
  | _, _ => none := by
  cases a with
  | base v =>
   unfold sliceA
   split
   all_goals first
    | rfl
    | (rename_i h; cases h; done)
    | (rename_i h; cases h; rfl)
    | (rename_i h _; cases h; rfl)
    | (rename_i h; exact absurd rfl (h _))
    | (exfalso; simp_all; done)
    | simp_all
  | _ => rfl
@[go_sem] theorem elemsA_vec (sz e : Nat) (rows : List (List AV)) : elemsA sz σ (.vec e rows) = if e = sz ∨ rows = [] then some rows else none := rfl
@[go_sem] theorem elemsA_nil (sz : Nat) : elemsA sz σ (.base (.slice none 0 0)) = some [] := rfl
@[go_sem] theorem elemsA_emp (sz : Nat) : elemsA sz σ .emp = some [] := rfl
@[go_sem] theorem elemsA_sref (sz p m e o l : Nat) : elemsA sz σ (.sref p m e o l) = match sget σ p m with
  | some (.gvec esz' _ rows) => if e = sz ∧ esz' = sz ∧ o + l ≤ rows.length then some ((rows.drop o).take l) else none
  | _ => none := rfl
end
def appYs (P : Program) (t' sz : Nat) (σ : Sto) (y : AV) : Option (List (List AV)) :=
 match y with
 | .str l => if strT P t' ∧ sz = 1 then some (strElems l) else none
 | y => if slcT P t' then elemsA sz σ y else none
def appX (e sz bytes : Nat) (σ : Sto) (nx : Nat) (x : AV) (ys : Option (List (List AV))) : Option (AV × Sto × Nat) :=
 match ys with
 | some ys => (match x with
   | .base (.slice none 0 0) => if ys.length * bytes ≤ limB ∧ ys.length ≤ 4611686018427387904 then (if ys.length = 0 then some (.base (.slice none 0 0), σ, nx) else some (.sref σ.length nx sz 0 ys.length, σ ++ [(nx, .gvec sz e ys)], nx + 1)) else none
   | .emp => if ys.length * bytes ≤ limB ∧ ys.length ≤ 4611686018427387904 then (if ys.length = 0 then some (.emp, σ, nx) else some (.sref σ.length nx sz 0 ys.length, σ ++ [(nx, .gvec sz e ys)], nx + 1)) else none
   | .sref p nm esz off len => match sget σ p nm with
    | some (.gvec esz' e' rows) => if esz = sz ∧ esz' = sz ∧ e' = e ∧ off + len ≤ rows.length ∧ (len + ys.length) * bytes ≤ limB ∧ len + ys.length ≤ 4611686018427387904 then
      some (.sref p nx sz 0 (len + ys.length), σ.set p (nx, .gvec sz e ((rows.drop off).take len ++ ys)), nx + 1) else none
    | _ => none
   | _ => none)
 | none => none
@[go_sem] theorem appendA_eq (P : Program) (t t' : Nat) (σ : Sto) (nx : Nat) (x y : AV) : appendA P t t' σ nx x y = match elmT P t with
  | some (e, sz, bytes) => if 0 < sz ∧ ((zeroCells P e).map (·.length)) = some sz then appX e sz bytes σ nx x (appYs P t' sz σ y) else none
  | none => none := rfl
section
variable {P : Program} {t' sz e bytes : Nat} {σ : Sto} {nx : Nat}
@[go_sem] theorem appYs_str (l : List UInt8) : appYs P t' sz σ (.str l) = if strT P t' ∧ sz = 1 then some (strElems l) else none := rfl
@[go_sem] theorem appYs_vec (n : Nat) (r : List (List AV)) : appYs P t' sz σ (.vec n r) = if slcT P t' then elemsA sz σ (.vec n r) else none := rfl
@[go_sem] theorem appYs_nil : appYs P t' sz σ (.base (.slice none 0 0)) = if slcT P t' then some [] else none := rfl
@[go_sem] theorem appYs_emp : appYs P t' sz σ .emp = if slcT P t' then some [] else none := rfl
@[go_sem] theorem appYs_sref (p m n o l : Nat) : appYs P t' sz σ (.sref p m n o l) = if slcT P t' then elemsA sz σ (.sref p m n o l) else none := rfl
@[go_sem] theorem appX_nil (ys : List (List AV)) : appX e sz bytes σ nx (.base (.slice none 0 0)) (some ys) = if ys.length * bytes ≤ limB ∧ ys.length ≤ 4611686018427387904 then (if ys.length = 0 then some (.base (.slice none 0 0), σ, nx) else some (.sref σ.length nx sz 0 ys.length, σ ++ [(nx, .gvec sz e ys)], nx + 1)) else none := rfl
@[go_sem] theorem appX_sref (ys : List (List AV)) (p nm esz off len : Nat) : appX e sz bytes σ nx (.sref p nm esz off len) (some ys) = match sget σ p nm with
    | some (.gvec esz' e' rows) => if esz = sz ∧ esz' = sz ∧ e' = e ∧ off + len ≤ rows.length ∧ (len + ys.length) * bytes ≤ limB ∧ len + ys.length ≤ 4611686018427387904 then
      some (.sref p nx sz 0 (len + ys.length), σ.set p (nx, .gvec sz e ((rows.drop off).take len ++ ys)), nx + 1) else none
    | _ => none := rfl
end
attribute [go_sem] decide_true decide_false beq_true beq_false Bool.not_eq_true Bool.and_true Bool.true_and Bool.and_false Bool.false_and Bool.or_true Bool.true_or Bool.or_false Bool.false_or Int.natCast_nonneg Int.ofNat_lt Int.ofNat_le Int.toNat_natCast List.length_map Bool.decide_eq_true
attribute [go_sem] List.append_nil List.nil_append List.cons_append List.length_nil List.length_cons List.length_append List.drop_zero List.drop_succ_cons List.take_zero List.take_succ_cons List.take_nil List.drop_nil List.head?_cons List.map_cons List.map_nil List.getElem?_cons_zero List.getElem?_cons_succ
 Option.map_some Option.map_none Option.bind_some Option.bind_none Nat.add_zero Nat.zero_add Bool.false_eq_true Bool.true_eq_false if_true if_false true_and and_true false_and and_false ite_true ite_false List.set_cons_zero List.set_cons_succ
 eq_self not_true_eq_false not_false_eq_true Bool.not_true Bool.not_false List.toList_toArray true_or or_true false_or or_false
@[go_sem] theorem decide_false_eq (b : Bool) : decide (b = false) = !b := by cases b <;> rfl
@[go_sem] theorem dstIn_nil (d : Option Nat) : dstIn [] d = false := by cases d <;> rfl
@[go_sem] theorem dstIn_none (l : List Nat) : dstIn l none = false := rfl
@[go_sem] theorem dstIn_cons (a d : Nat) (l : List Nat) : dstIn (a :: l) (some d) = if d = a then true else dstIn l (some d) := by
  unfold dstIn
  by_cases h : d = a <;> simp [h]
section
variable {C : Cx} {t : TypeId} {x y : Operand} {k : IntKind} {a b : Int}
@[go_sem] theorem abin_add : abin C .add t x y (.int k a) (.int k b) = some (.int k (k.wrap (a + b))) := by simp [abin, abinInt]
@[go_sem] theorem abin_sub : abin C .sub t x y (.int k a) (.int k b) = some (.int k (k.wrap (a - b))) := by simp [abin, abinInt]
@[go_sem] theorem abin_mul : abin C .mul t x y (.int k a) (.int k b) = some (.int k (k.wrap (a * b))) := by simp [abin, abinInt]
@[go_sem] theorem abin_quo : abin C .quo t x y (.int k a) (.int k b) = if b = 0 then none else some (.int k (k.wrap (a.tdiv b))) := by simp [abin, abinInt]
@[go_sem] theorem abin_rem : abin C .rem t x y (.int k a) (.int k b) = if b = 0 then none else some (.int k (a.tmod b)) := by simp [abin, abinInt]
@[go_sem] theorem abin_eql : abin C .eql t x y (.int k a) (.int k b) = some (.bool (decide (a = b))) := by simp [abin, abinInt]
@[go_sem] theorem abin_neq : abin C .neq t x y (.int k a) (.int k b) = some (.bool (!decide (a = b))) := by simp [abin, abinInt]
@[go_sem] theorem abin_lss : abin C .lss t x y (.int k a) (.int k b) = some (.bool (decide (a < b))) := by simp [abin, abinInt]
@[go_sem] theorem abin_leq : abin C .leq t x y (.int k a) (.int k b) = some (.bool (decide (a ≤ b))) := by simp [abin, abinInt]
@[go_sem] theorem abin_gtr : abin C .gtr t x y (.int k a) (.int k b) = some (.bool (decide (b < a))) := by simp [abin, abinInt]
@[go_sem] theorem abin_geq : abin C .geq t x y (.int k a) (.int k b) = some (.bool (decide (b ≤ a))) := by simp [abin, abinInt]
@[go_sem] theorem abin_and : abin C .and t x y (.int k a) (.int k b) = some (.int k (Go.bits .and k a b)) := by simp [abin, abinInt]
@[go_sem] theorem abin_shr : abin C .shr t x y (.int k a) (.int k b) = if 0 ≤ b ∧ b ≤ k.bits then some (.int k (a / 2 ^ b.toNat)) else none := by simp [abin]
@[go_sem] theorem abin_shl : abin C .shl t x y (.int k a) (.int k b) = if 0 ≤ b ∧ b ≤ k.bits then some (.int k (k.wrap (a * 2 ^ b.toNat))) else none := by simp [abin]
@[go_sem] theorem abin_str {op : BinOp} {p q : List UInt8} : abin C op t x y (.str p) (.str q) = abinStr op p q := by simp [abin]
@[go_sem] theorem abin_beq {p q : Bool} : abin C .eql t x y (.bool p) (.bool q) = if isBoolT C.P t = true then some (.bool (p == q)) else none := by simp [abin]
@[go_sem] theorem abin_bne {p q : Bool} : abin C .neq t x y (.bool p) (.bool q) = if isBoolT C.P t = true then some (.bool (!(p == q))) else none := by simp [abin]
def nilR (neg : Bool) : Option Bool → Option Bool → Option AV
 | some r, some true => some (.bool (if neg = true then !r else r))
 | _, _ => none
@[go_sem] theorem nilR_some (neg r : Bool) : nilR neg (some r) (some true) = some (.bool (if neg = true then !r else r)) := rfl
@[go_sem] theorem abin_slice_eql {p : AV} : abin C .eql t x (.const (.slice none 0 0)) p (.base (.slice none 0 0)) = nilR false (nilTest C.P t p) (nilTest C.P t (.base (.slice none 0 0))) := by
  have : ∀ o : Option Bool, ∀ o' : Option Bool, (match BinOp.eql, o, o' with
    | .eql, some r, some true => some (AV.bool r)
    | .neq, some r, some true => some (.bool (!r))
    | _, _, _ => none) = nilR false o o' := by
   intro o o'
   cases o <;> cases o' <;> try rfl
   rename_i r' ; cases r' <;> rfl
  cases p <;> exact this _ _
@[go_sem] theorem abin_slice_neq {p : AV} : abin C .neq t x (.const (.slice none 0 0)) p (.base (.slice none 0 0)) = nilR true (nilTest C.P t p) (nilTest C.P t (.base (.slice none 0 0))) := by
  have : ∀ o : Option Bool, ∀ o' : Option Bool, (match BinOp.neq, o, o' with
    | .eql, some r, some true => some (AV.bool r)
    | .neq, some r, some true => some (.bool (!r))
    | _, _, _ => none) = nilR true o o' := by
   intro o o'
   cases o <;> cases o' <;> try rfl
   rename_i r' ; cases r' <;> rfl
  cases p <;> exact this _ _
@[go_sem] theorem abin_pointer_eql {p : AV} : abin C .eql t x (.const (.pointer none)) p (.base (.pointer none)) = nilR false (nilTest C.P t p) (nilTest C.P t (.base (.pointer none))) := by
  have : ∀ o : Option Bool, ∀ o' : Option Bool, (match BinOp.eql, o, o' with
    | .eql, some r, some true => some (AV.bool r)
    | .neq, some r, some true => some (.bool (!r))
    | _, _, _ => none) = nilR false o o' := by
   intro o o'
   cases o <;> cases o' <;> try rfl
   rename_i r' ; cases r' <;> rfl
  cases p <;> exact this _ _
@[go_sem] theorem abin_pointer_neq {p : AV} : abin C .neq t x (.const (.pointer none)) p (.base (.pointer none)) = nilR true (nilTest C.P t p) (nilTest C.P t (.base (.pointer none))) := by
  have : ∀ o : Option Bool, ∀ o' : Option Bool, (match BinOp.neq, o, o' with
    | .eql, some r, some true => some (AV.bool r)
    | .neq, some r, some true => some (.bool (!r))
    | _, _, _ => none) = nilR true o o' := by
   intro o o'
   cases o <;> cases o' <;> try rfl
   rename_i r' ; cases r' <;> rfl
  cases p <;> exact this _ _
@[go_sem] theorem abin_map_eql {p : AV} : abin C .eql t x (.const (.map none)) p (.base (.map none)) = nilR false (nilTest C.P t p) (nilTest C.P t (.base (.map none))) := by
  have : ∀ o : Option Bool, ∀ o' : Option Bool, (match BinOp.eql, o, o' with
    | .eql, some r, some true => some (AV.bool r)
    | .neq, some r, some true => some (.bool (!r))
    | _, _, _ => none) = nilR false o o' := by
   intro o o'
   cases o <;> cases o' <;> try rfl
   rename_i r' ; cases r' <;> rfl
  cases p <;> exact this _ _
@[go_sem] theorem abin_map_neq {p : AV} : abin C .neq t x (.const (.map none)) p (.base (.map none)) = nilR true (nilTest C.P t p) (nilTest C.P t (.base (.map none))) := by
  have : ∀ o : Option Bool, ∀ o' : Option Bool, (match BinOp.neq, o, o' with
    | .eql, some r, some true => some (AV.bool r)
    | .neq, some r, some true => some (.bool (!r))
    | _, _, _ => none) = nilR true o o' := by
   intro o o'
   cases o <;> cases o' <;> try rfl
   rename_i r' ; cases r' <;> rfl
  cases p <;> exact this _ _
@[go_sem] theorem abin_func_eql {p : AV} : abin C .eql t x (.const .nilFunc) p (.base .nilFunc) = nilR false (nilTest C.P t p) (nilTest C.P t (.base .nilFunc)) := by
  have : ∀ o : Option Bool, ∀ o' : Option Bool, (match BinOp.eql, o, o' with
    | .eql, some r, some true => some (AV.bool r)
    | .neq, some r, some true => some (.bool (!r))
    | _, _, _ => none) = nilR false o o' := by
   intro o o'
   cases o <;> cases o' <;> try rfl
   rename_i r' ; cases r' <;> rfl
  cases p <;> exact this _ _
@[go_sem] theorem abin_func_neq {p : AV} : abin C .neq t x (.const .nilFunc) p (.base .nilFunc) = nilR true (nilTest C.P t p) (nilTest C.P t (.base .nilFunc)) := by
  have : ∀ o : Option Bool, ∀ o' : Option Bool, (match BinOp.neq, o, o' with
    | .eql, some r, some true => some (AV.bool r)
    | .neq, some r, some true => some (.bool (!r))
    | _, _, _ => none) = nilR true o o' := by
   intro o o'
   cases o <;> cases o' <;> try rfl
   rename_i r' ; cases r' <;> rfl
  cases p <;> exact this _ _
@[go_sem] theorem abin_iface_eql {p : AV} : abin C .eql t x (.const .nilIface) p (.base .nilIface) = nilR false (nilTest C.P t p) (nilTest C.P t (.base .nilIface)) := by
  have : ∀ o : Option Bool, ∀ o' : Option Bool, (match BinOp.eql, o, o' with
    | .eql, some r, some true => some (AV.bool r)
    | .neq, some r, some true => some (.bool (!r))
    | _, _, _ => none) = nilR false o o' := by
   intro o o'
   cases o <;> cases o' <;> try rfl
   rename_i r' ; cases r' <;> rfl
  cases p <;> exact this _ _
@[go_sem] theorem abin_iface_neq {p : AV} : abin C .neq t x (.const .nilIface) p (.base .nilIface) = nilR true (nilTest C.P t p) (nilTest C.P t (.base .nilIface)) := by
  have : ∀ o : Option Bool, ∀ o' : Option Bool, (match BinOp.neq, o, o' with
    | .eql, some r, some true => some (AV.bool r)
    | .neq, some r, some true => some (.bool (!r))
    | _, _, _ => none) = nilR true o o' := by
   intro o o'
   cases o <;> cases o' <;> try rfl
   rename_i r' ; cases r' <;> rfl
  cases p <;> exact this _ _
theorem wrap64 {z : Int} (h : -9223372036854775808 ≤ z) (h' : z ≤ 9223372036854775807) : IntKind.wrap .i64 z = z := by
 simp [IntKind.wrap, IntKind.bits, IntKind.signed] <;> omega
end
section
variable {K : St → Prop} {Q : AExit → St → Prop} {s : St}
@[go_sem] theorem athen_normal : athen K Q .normal s ↔ K s := Iff.rfl
@[go_sem] theorem athen_exit {i : Nat} : athen K Q (.exit i) s ↔ Q (.exit i) s := Iff.rfl
@[go_sem] theorem athen_ret : athen K Q .ret s ↔ Q .ret s := Iff.rfl
@[go_sem] theorem athen_pan {v : AV} : athen K Q (.pan v) s ↔ Q (.pan v) s := Iff.rfl
@[go_sem] theorem athen_goto {l : Nat} : athen K Q (.goto l) s ↔ Q (.goto l) s := Iff.rfl
@[go_sem] theorem ablock_normal {id : Nat} : ablock id Q .normal s ↔ Q .normal s := Iff.rfl
@[go_sem] theorem ablock_exit {id i : Nat} : ablock id Q (.exit i) s ↔ if i = id then Q .normal s else Q (.exit i) s := Iff.rfl
@[go_sem] theorem ablock_ret {id : Nat} : ablock id Q .ret s ↔ Q .ret s := Iff.rfl
@[go_sem] theorem ablock_pan {id : Nat} {v : AV} : ablock id Q (.pan v) s ↔ Q (.pan v) s := Iff.rfl
@[go_sem] theorem ablock_goto {id : Nat} {l : Nat} : ablock id Q (.goto l) s ↔ Q (.goto l) s := Iff.rfl
end
@[go_sem ↓] theorem resA_tmp (P : Program) (t : Nat) (env : Nat → AV) (σ : Sto) (nx : Nat) : resA P [.tmp t] ⟨env, σ, nx⟩ = some (env t) := rfl
@[go_sem ↓] theorem resA_cell (P : Program) (a T : Nat) (env : Nat → AV) (σ : Sto) (nx : Nat) : resA P [.cell a T] ⟨env, σ, nx⟩ = readA P T σ (env a) := rfl
def two : Option AV → Option AV → Option AV
 | some a, some b => some (.tup [a, b])
 | _, _ => none
def three : Option AV → Option AV → Option AV → Option AV
 | some a, some b, some c => some (.tup [a, b, c])
 | _, _, _ => none
@[go_sem] theorem two_some (a b : AV) : two (some a) (some b) = some (.tup [a, b]) := rfl
@[go_sem] theorem three_some (a b c : AV) : three (some a) (some b) (some c) = some (.tup [a, b, c]) := rfl
@[go_sem ↓] theorem resA_two (P : Program) (r q : ResultVar) (s : St) : resA P [r, q] s = two (res1 P s r) (res1 P s q) := by
  unfold resA two
  simp only [List.mapM_cons, List.mapM_nil]
  cases res1 P s r <;> cases res1 P s q <;> rfl
@[go_sem ↓] theorem resA_three (P : Program) (r q p : ResultVar) (s : St) : resA P [r, q, p] s = three (res1 P s r) (res1 P s q) (res1 P s p) := by
  unfold resA three
  simp only [List.mapM_cons, List.mapM_nil]
  cases res1 P s r <;> cases res1 P s q <;> cases res1 P s p <;> rfl
@[go_sem] theorem res1_tmp (P : Program) (t : Nat) (env : Nat → AV) (σ : Sto) (nx : Nat) : res1 P ⟨env, σ, nx⟩ (.tmp t) = some (env t) := rfl
@[go_sem] theorem res1_cell (P : Program) (a T : Nat) (env : Nat → AV) (σ : Sto) (nx : Nat) : res1 P ⟨env, σ, nx⟩ (.cell a T) = readA P T σ (env a) := rfl
def pfin (F : Nat) (σ : Sto) (Q : AOut → Prop) : Option AV → Prop
 | some r => RF (frzF σ F r) ∧ Q (.ret (frzF σ F r))
 | none => False
@[go_sem] theorem pfin_some (F : Nat) (σ : Sto) (Q : AOut → Prop) (r : AV) : pfin F σ Q (some r) ↔ RF (frzF σ F r) ∧ Q (.ret (frzF σ F r)) := Iff.rfl
theorem pfin_iff (F : Nat) (σ : Sto) (Q : AOut → Prop) (o : Option AV) : pfin F σ Q o ↔ ∃ r, o = some r ∧ RF (frzF σ F r) ∧ Q (.ret (frzF σ F r)) := by
 cases o <;> simp [pfin]
@[go_sem] theorem PPost_ret (C : Cx) (F : Nat) (rs : List ResultVar) (Q : AOut → Prop) (env : Nat → AV) (σ : Sto) (nx : Nat) : PPost C F rs Q .ret ⟨env, σ, nx⟩ ↔ pfin F σ Q (resA C.P rs ⟨env, σ, nx⟩) := (pfin_iff _ _ _ _).symm
@[go_sem] theorem PPost_normal (C : Cx) (F : Nat) (rs : List ResultVar) (Q : AOut → Prop) (env : Nat → AV) (σ : Sto) (nx : Nat) : PPost C F rs Q .normal ⟨env, σ, nx⟩ ↔ pfin F σ Q (resA C.P rs ⟨env, σ, nx⟩) := (pfin_iff _ _ _ _).symm
@[go_sem] theorem PPost_pan (C : Cx) (F : Nat) (rs : List ResultVar) (Q : AOut → Prop) (v : AV) (s : St) : PPost C F rs Q (.pan v) s ↔ RF (frzF s.σ F v) ∧ Q (.pan (frzF s.σ F v)) := Iff.rfl
@[go_sem] theorem frzF_zero (σ : Sto) (v : AV) : frzF σ 0 v = v := rfl
@[go_sem] theorem RF_int (k : IntKind) (n : Int) : RF (.int k n) ↔ True := Iff.rfl
@[go_sem] theorem RF_bool (b : Bool) : RF (.bool b) ↔ True := Iff.rfl
@[go_sem] theorem RF_str (l : List UInt8) : RF (.str l) ↔ True := Iff.rfl
@[go_sem] theorem RF_base (v : Value) : RF (.base v) ↔ True := Iff.rfl
@[go_sem] theorem RF_emp : RF .emp ↔ True := Iff.rfl
@[go_sem] theorem RF_any : RF .any ↔ True := Iff.rfl
@[go_sem] theorem RF_agg (l : List AV) : RF (.agg l) ↔ RFL l := by simp only [RF]
@[go_sem] theorem RF_tup (l : List AV) : RF (.tup l) ↔ RFL l := by simp only [RF]
@[go_sem] theorem RF_vec (n : Nat) (l : List (List AV)) : RF (.vec n l) ↔ RFLL l := by simp only [RF]
@[go_sem] theorem RF_rptr (l : List AV) : RF (.rptr l) ↔ RFL l := by simp only [RF]
@[go_sem] theorem RF_iface (t : TypeId) (v : AV) : RF (.iface t v) ↔ RF v := by simp only [RF]
@[go_sem] theorem RF_fn (f : Fn) (a b : List AV) : RF (.fn f a b) ↔ RFL a ∧ RFL b := by simp only [RF]
@[go_sem] theorem RFL_nil : RFL [] ↔ True := by simp only [RFL]
@[go_sem] theorem RFL_cons (a : AV) (l : List AV) : RFL (a :: l) ↔ RF a ∧ RFL l := by simp only [RFL]
@[go_sem] theorem RFLL_nil : RFLL [] ↔ True := by simp only [RFLL]
@[go_sem] theorem RFLL_cons (a : List AV) (l : List (List AV)) : RFLL (a :: l) ↔ RFL a ∧ RFLL l := by simp only [RFLL]
def afin (σ : Sto) (nx : Nat) (Q : AOut → Sto → Nat → Prop) : Option AV → Prop
 | some r => Q (.ret r) σ nx
 | none => False
@[go_sem] theorem afin_some (σ : Sto) (nx : Nat) (Q : AOut → Sto → Nat → Prop) (r : AV) : afin σ nx Q (some r) ↔ Q (.ret r) σ nx := Iff.rfl
theorem afin_iff (σ : Sto) (nx : Nat) (Q : AOut → Sto → Nat → Prop) (o : Option AV) : afin σ nx Q o ↔ ∃ r, o = some r ∧ Q (.ret r) σ nx := by
 cases o <;> simp [afin]
@[go_sem] theorem APost_ret (C : Cx) (rs : List ResultVar) (Q : AOut → Sto → Nat → Prop) (env : Nat → AV) (σ : Sto) (nx : Nat) : APost C rs Q .ret ⟨env, σ, nx⟩ ↔ afin σ nx Q (resA C.P rs ⟨env, σ, nx⟩) := (afin_iff _ _ _ _).symm
@[go_sem] theorem APost_normal (C : Cx) (rs : List ResultVar) (Q : AOut → Sto → Nat → Prop) (env : Nat → AV) (σ : Sto) (nx : Nat) : APost C rs Q .normal ⟨env, σ, nx⟩ ↔ afin σ nx Q (resA C.P rs ⟨env, σ, nx⟩) := (afin_iff _ _ _ _).symm
@[go_sem] theorem APost_pan (C : Cx) (rs : List ResultVar) (Q : AOut → Sto → Nat → Prop) (v : AV) (env : Nat → AV) (σ : Sto) (nx : Nat) : APost C rs Q (.pan v) ⟨env, σ, nx⟩ ↔ Q (.pan v) σ nx := Iff.rfl
abbrev Gets (r : AV) (σ : Sto) (nx : Nat) : AOut → Sto → Nat → Prop := fun o σ' nx' => o = .ret r ∧ σ' = σ ∧ nx' = nx
@[go_sem] theorem Gets_iff (r : AV) (σ σ' : Sto) (nx nx' : Nat) (o : AOut) : Gets r σ nx o σ' nx' ↔ o = .ret r ∧ σ' = σ ∧ nx' = nx := Iff.rfl
theorem CallP.acall {C : Cx} {tot : Bool} {g : FuncId} {args : List AV} {σ σ1 : Sto} {nx nx1 : Nat} {K KP : AV → Sto → Nat → Prop} {r : AV} (h : ACall C g args σ nx (Gets r σ1 nx1)) (hk : K r σ1 nx1) : CallP C true tot g args σ nx K KP :=
 ⟨_, h, (by rintro v σ' nx' ⟨hq, rfl, rfl⟩; cases hq; exact hk), (by rintro v σ' nx' ⟨hq, _, _⟩; cases hq), .inr ⟨r, σ1, nx1, rfl, rfl, rfl⟩, .inl rfl⟩
abbrev GetsN (r : AV) (σ : Sto) : AOut → Sto → Nat → Prop := fun o σ' _ => o = .ret r ∧ σ' = σ
@[go_sem] theorem GetsN_iff (r : AV) (σ σ' : Sto) (nx' : Nat) (o : AOut) : GetsN r σ o σ' nx' ↔ o = .ret r ∧ σ' = σ := Iff.rfl
attribute [go_sem] Nat.lt_irrefl Nat.zero_lt_succ decide_not List.take_length List.length_replicate List.drop_replicate List.take_replicate List.replicate_zero Nat.sub_self Nat.le_refl Nat.add_sub_cancel Int.natCast_pos Int.natCast_eq_zero Int.natCast_inj Int.le_refl Int.toNat_zero Nat.sub_zero
@[go_sem] theorem frzF_int (σ : Sto) (F : Nat) (k : IntKind) (n : Int) : frzF σ F (.int k n) = .int k n := by cases F <;> rfl
@[go_sem] theorem frzF_bool (σ : Sto) (F : Nat) (b : Bool) : frzF σ F (.bool b) = .bool b := by cases F <;> rfl
@[go_sem] theorem frzF_str (σ : Sto) (F : Nat) (l : List UInt8) : frzF σ F (.str l) = .str l := by cases F <;> rfl
@[go_sem] theorem frzF_base (σ : Sto) (F : Nat) (v : Value) : frzF σ F (.base v) = .base v := by cases F <;> rfl
@[go_sem] theorem frzF_emp (σ : Sto) (F : Nat) : frzF σ F .emp = .emp := by cases F <;> rfl
@[go_sem] theorem frzF_vec (σ : Sto) (F : Nat) (e : Nat) (r : List (List AV)) : frzF σ F (.vec e r) = .vec e r := by cases F <;> rfl
@[go_sem] theorem frzF_rptr (σ : Sto) (F : Nat) (r : List AV) : frzF σ F (.rptr r) = .rptr r := by cases F <;> rfl
@[go_sem] theorem frzF_agg (σ : Sto) (F : Nat) (r : List AV) : frzF σ (F + 1) (.agg r) = .agg (r.map (frzF σ F)) := by simp only [frzF]
@[go_sem] theorem frzF_tup (σ : Sto) (F : Nat) (r : List AV) : frzF σ (F + 1) (.tup r) = .tup (r.map (frzF σ F)) := by simp only [frzF]
@[go_sem] theorem frzF_sref (σ : Sto) (F p nm e o l : Nat) : frzF σ (F + 1) (.sref p nm e o l) = match sget σ p nm with
  | some (.gvec esz' _ rows) => if esz' = e ∧ o + l ≤ rows.length then .vec e (((rows.drop o).take l).map fun r => r.map (frzF σ F)) else .sref p nm e o l
  | _ => .sref p nm e o l := by
  simp only [frzF]
  cases sget σ p nm with
  | none => rfl
  | some ob => cases ob <;> rfl
@[go_sem] theorem frz_rows (σ : Sto) (r : List (List AV)) : (r.map fun x => x.map (frzF σ 0)) = r := by
  have : (fun x : List AV => x.map (frzF σ 0)) = id := by
   funext x
   have : frzF σ 0 = id := rfl
   rw [this, List.map_id]; rfl
  rw [this, List.map_id]
theorem pcall_mk {C : Cx} {g : FuncId} {fn : Func} {c : Code} {args : List AV} (F n : Nat) (rs : List ResultVar) (hf : C.P.funcs[g]? = some fn) (hb : fn.body = some c) (hname : (fn.name == "runtime.NumGoroutine") = false) (hn : fn.ntmps = n) (hr : fn.results.toList = rs) (hl : Nat.ble args.length n = true) {Q : AOut → Prop}
  (h : aw C n [] c (PPost C F rs Q) ⟨argEnv args, [], 0⟩) : PCall C g args Q := by
 subst hn; subst hr
 exact pcall_intro F hf hb hname (Nat.le_of_ble_eq_true hl) h
theorem acall_mk {C : Cx} {g : FuncId} {fn : Func} {c : Code} {args : List AV} {σ : Sto} {nx : Nat} (n : Nat) (rs : List ResultVar) (hf : C.P.funcs[g]? = some fn) (hb : fn.body = some c) (hname : (fn.name == "runtime.NumGoroutine") = false) (hn : fn.ntmps = n) (hr : fn.results.toList = rs) (hl : Nat.ble args.length n = true) {Q : AOut → Sto → Nat → Prop}
  (h : aw C n [] c (APost C rs Q) ⟨argEnv args, σ, nx⟩) : ACall C g args σ nx Q := by
 subst hn; subst hr
 exact acall_intro hf hb hname (Nat.le_of_ble_eq_true hl) h
theorem aw_if {C : Cx} {n : Nat} {ds : List Deferred} {Q : AExit → St → Prop} {s : St} {c : Operand} {x y : Code} (p : Prop) [Decidable p] (hc : opv C s.env c = .bool (decide p)) (ht : p → aw C n ds x Q s) (hf : ¬p → aw C n ds y Q s) : aw C n ds (.cond c x y) Q s :=
 aw_cond hc (fun h => ht (of_decide_eq_true h)) (fun h => hf (of_decide_eq_false h))
section
variable {C : Cx} {n : Nat} {ds : List Deferred} {K : St → Prop} {Q : AExit → St → Prop} {s : St} {e : AExit}
theorem ablock_here {id : Nat} (h : Q .normal s) : ablock id Q (.exit id) s := by simp only [ablock, if_true]; exact h
theorem ablock_pass {id i : Nat} (hne : Nat.beq i id = false) (h : Q (.exit i) s) : ablock id Q (.exit i) s := by
 have : i ≠ id := fun e => by subst e; simp at hne
 simp only [ablock, if_neg this]; exact h
def afor (k : Nat) (Q : AExit → St → Prop) : AExit → St → Prop := fun e s => Q e ⟨s.env, s.σ.take k, s.nx⟩
theorem aw_forget' {c : Code} (k : Nat) (hk : s.σ.length = k) (h : aw C n ds c (afor k Q) s) : aw C n ds c Q s :=
 aw_forget (aw_mono h fun e s' hq => ⟨k, by omega, hq⟩)
theorem afor_one {env : Nat → AV} {a : Nat × AObj} {σ : Sto} {nx : Nat} (h : Q e ⟨env, [a], nx⟩) : afor 1 Q e ⟨env, a :: σ, nx⟩ := by simpa [afor] using h
theorem aw_loop' {c : Code} (J : Nat → St → Prop) (round : ∀ d s, J d s → aw C n ds c (athen (fun s' => ∃ d', d' < d ∧ J d' s') Q) s) (h₀ : ∃ d, J d s) : aw C n ds (.loop c) Q s :=
 h₀.elim fun _ h => aw_loop J round h
end
theorem acall_cut {C : Cx} {g : FuncId} {args : List AV} {σ : Sto} {nx : Nat} {Q : AOut → Sto → Nat → Prop} (h : ACall C g args σ nx (fun o σ' nx' => Q o (σ'.take σ.length) nx')) : ACall C g args σ nx Q := by
 intro B kn m w vs hI hr
 refine (h B kn m w vs hI hr).mono ?_
 rintro e w' ⟨out, kn', m', σ', nx', hq, ho, hk, hI', hkp⟩
 refine ⟨out, kn', m', σ'.take σ.length, nx', hq, ho, hk, hI'.take _, hkp.le, hkp.ag, fun p nm ob e e' => ?_⟩
 have hp : p < σ.length := (List.getElem?_eq_some_iff.1 e).1
 rw [List.getElem?_take, if_pos hp]
 exact hkp.pend p nm ob e e'
theorem sget_end (σ l : Sto) (n : Nat) (o : AObj) : sget (σ ++ (n, o) :: l) σ.length n = some o := by simp [sget]
theorem set_end (σ l : Sto) (a b : Nat × AObj) : (σ ++ a :: l).set σ.length b = σ ++ b :: l := by simp
theorem take_end (σ l : Sto) : (σ ++ l).take σ.length = σ := by simp
attribute [go_sem] sget_end set_end take_end
end Go.Ab

namespace Go.Ab
open Go Go.RowKit
def DRel (kn : Kn) (m : Mp) (x : FuncId × List AV) (d : Deferred) : Prop :=
 ∃ cap, d.target = .fn (.func x.1) cap ∧ RelL kn m x.2 (d.args ++ cap).toList
def DRelL (kn : Kn) (m : Mp) : List (FuncId × List AV) → List Deferred → Prop
 | [], ds => ds = []
 | x :: l, ds => ∃ d ds', ds = d :: ds' ∧ DRel kn m x d ∧ DRelL kn m l ds'
theorem DRelL.mono {kn kn' : Kn} {m m' : Mp} (hk : KnLe kn kn') (hm : MpLe m m') : ∀ {l : List (FuncId × List AV)} {ds : List Deferred}, DRelL kn m l ds → DRelL kn' m' l ds
 | [], ds, h => h
 | x :: l, ds, ⟨d, ds', h1, ⟨cap, h2, h3⟩, h4⟩ => ⟨d, ds', h1, ⟨cap, h2, h3.mono hk hm⟩, DRelL.mono hk hm h4⟩
def RelMode (kn : Kn) (m : Mp) : Option AV → FrameMode → Prop
 | none, u => u = .returning
 | some x, u => ∃ v, u = .panicking [{ v := v, recovered := false }] ∧ Rel kn m x v
theorem RelMode.run {kn : Kn} {m : Mp} {x : Option AV} {u : FrameMode} (h : RelMode kn m x u) : u ≠ .run := by
 cases x with
 | none => simp only [RelMode] at h; subst h; simp
 | some x => obtain ⟨v, rfl, _⟩ := h; simp
def DCall (C : Cx) (g : FuncId) (args : List AV) (σ : Sto) (nx : Nat) (u : Option AV) (R : Option AV → Sto → Nat → Prop) : Prop :=
 bodyOK C.P g = true ∧ ∀ (B : Base) (kn : Kn) (m : Mp) (w : World) (vs : List Value) (um : FrameMode), Inv C B kn m σ nx w → RelL kn m args vs → RelMode kn m u um →
  CallsD C.P g vs.toArray um w fun e u' w' => (∃ v, e = .returned v) ∧ ∃ x kn' m' σ' nx', R x σ' nx' ∧ RelMode kn' m' x (settle u') ∧ KnLe kn kn' ∧ Inv C B kn' m' σ' nx' w' ∧ Keep m σ nx m' σ' nx'
def LeavesA (C : Cx) (rs : List ResultVar) (Q : AOut → Sto → Nat → Prop) : List (FuncId × List AV) → Option AV → St → Prop
 | [], none, s => ∃ r, resA C.P rs s = some r ∧ Q (.ret r) s.σ s.nx
 | [], some v, s => Q (.pan v) s.σ s.nx
 | x :: l, u, s => ∃ R, DCall C x.1 x.2 s.σ s.nx u R ∧ ∀ u' σ' nx', R u' σ' nx' → LeavesA C rs Q l u' ⟨s.env, σ', nx'⟩
theorem leaves_sound {C : Cx} {fn : Func} {Q : AOut → Sto → Nat → Prop} {B : Base} {kn₀ : Kn} {m₀ : Mp} {σ₀ : Sto} {nx₀ : Nat} (hlt₀ : ∀ (p nm : Nat) (ob : AObj), σ₀[p]? = some (nm, ob) → nm < nx₀) {n : Nat} {act : Act} :
  ∀ (l : List (FuncId × List AV)) (u : Option AV) (s : St) (ds : List Deferred) (um : FrameMode) (kn : Kn) (m : Mp) (w : World), DRelL kn m l ds → RelMode kn m u um → RelEnv kn m s.env n act → Inv C B kn m s.σ s.nx w → KnLe kn₀ kn → Keep m₀ σ₀ nx₀ m s.σ s.nx →
   LeavesA C fn.results.toList Q l u s → Leaves C.P fn act.tmps (fun e w' => ∃ out kn' m' σ' nx', Q out σ' nx' ∧ RelOut kn' m' out e ∧ KnLe kn₀ kn' ∧ Inv C B kn' m' σ' nx' w' ∧ Keep m₀ σ₀ nx₀ m' σ' nx') ds um w
 | [], none, s, ds, um, kn, m, w, hd, hu, hE, hI, hk, hkp, h => by
  simp only [DRelL] at hd; subst hd
  simp only [RelMode] at hu; subst hu
  obtain ⟨r, h1, h2⟩ := h
  obtain ⟨v, q1, q2⟩ := results_sound hI hE h1
  exact ⟨v, q1, _, kn, m, _, _, h2, q2, hk, hI, hkp⟩
 | [], some x, s, ds, um, kn, m, w, hd, hu, hE, hI, hk, hkp, h => by
  simp only [DRelL] at hd; subst hd
  obtain ⟨v, rfl, hv⟩ := hu
  exact ⟨_, kn, m, _, _, h, ⟨v, rfl, hv⟩, hk, hI, hkp⟩
 | (g, ags) :: l, u, s, ds, um, kn, m, w, hd, hu, hE, hI, hk, hkp, h => by
  obtain ⟨d, ds', rfl, ⟨cap, h2, h3⟩, h4⟩ := hd
  obtain ⟨R, ⟨hbo, hD⟩, hR⟩ := h
  obtain ⟨tg, dargs⟩ := d
  simp only at h2 h3; subst h2
  refine leaves_cons (f := g) (args := dargs ++ cap) hu.run ?_ ?_
  ·simp only [invoke]; exact calls_of_bodyOK hbo _ w
  ·have := hD B kn m w _ um hI h3 hu
   rw [show (dargs ++ cap).toList.toArray = dargs ++ cap by simp] at this
   refine this.mono ?_
   rintro e u' w' ⟨⟨v, rfl⟩, x, kn', m', σ', nx', hr, hx, hkl, hI', hkp'⟩
   exact leaves_sound hlt₀ l x ⟨s.env, σ', nx'⟩ ds' (settle u') kn' m' w' (h4.mono hkl (hkp'.mple hI)) hx (hE.mono hkl (hkp'.mple hI)) hI' (hk.trans hkl) (hkp.trans hkp' hlt₀) (hR _ _ _ hr)
def awD (C : Cx) (n : Nat) (dl : List (FuncId × List AV)) (c : Code) (Q : AExit → List (FuncId × List AV) → St → Prop) (s : St) : Prop :=
 ∀ (B : Base) (kn : Kn) (m : Mp) (act : Act) (w : World), RelEnv kn m s.env n act → DRelL kn m dl act.defers → Inv C B kn m s.σ s.nx w →
  c.wp C.P (fun e act' w' => ∃ ae s' kn' m' dl', RelExit kn' m' ae e ∧ RelEnv kn' m' s'.env n act' ∧ DRelL kn' m' dl' act'.defers ∧ Inv C B kn' m' s'.σ s'.nx w' ∧ KnLe kn kn' ∧ Keep m s.σ s.nx m' s'.σ s'.nx ∧ Q ae dl' s') act w
section
variable {C : Cx} {n : Nat} {dl : List (FuncId × List AV)} {Q : AExit → List (FuncId × List AV) → St → Prop} {s : St} {x y : Code}
theorem awD_rest (h : ∀ ds, aw C n ds x (fun e s' => Q e dl s') s) : awD C n dl x Q s := by
 intro B kn m act w h1 h2 h3
 refine wp_mono (h act.defers B kn m act w h1 rfl h3) ?_
 rintro e act' w' ⟨ae, s', kn', m', hx, hR, hq⟩
 exact ⟨ae, s', kn', m', dl, hx, hR.env, by rw [hR.defs]; exact h2.mono hR.knle (hR.keep.mple h3), hR.inv, hR.knle, hR.keep, hq⟩
def athenD (K : List (FuncId × List AV) → St → Prop) (Q : AExit → List (FuncId × List AV) → St → Prop) : AExit → List (FuncId × List AV) → St → Prop
 | .normal, dl, s => K dl s
 | e, dl, s => Q e dl s
theorem awD_seq (h : awD C n dl x (athenD (fun dl' s' => awD C n dl' y Q s') Q) s) : awD C n dl (.seq x y) Q s := by
 intro B kn m act w h1 h2 h3
 refine wp_seq (wp_mono (h B kn m act w h1 h2 h3) ?_)
 rintro e a1 w1 ⟨ae, s1, kn1, m1, dl1, hx, hE, hD, hI, hk, hkp, hq⟩
 cases e with
 | normal =>
  cases ae <;> first | (simp only [RelExit] at hx; done) | skip
  refine wp_mono (hq B kn1 m1 a1 w1 hE hD hI) ?_
  rintro e2 a2 w2 ⟨ae2, s2, kn2, m2, dl2, hx2, hE2, hD2, hI2, hk2, hkp2, hq2⟩
  exact ⟨ae2, s2, kn2, m2, dl2, hx2, hE2, hD2, hI2, hk.trans hk2, hkp.trans hkp2 h3.lt, hq2⟩
 | exit id => cases ae <;> first | (simp only [RelExit] at hx; done) | exact ⟨_, s1, kn1, m1, dl1, hx, hE, hD, hI, hk, hkp, hq⟩
 | goto l => cases ae <;> first | (simp only [RelExit] at hx; done) | exact ⟨_, s1, kn1, m1, dl1, hx, hE, hD, hI, hk, hkp, hq⟩
 | ret => cases ae <;> first | (simp only [RelExit] at hx; done) | exact ⟨_, s1, kn1, m1, dl1, hx, hE, hD, hI, hk, hkp, hq⟩
 | panic ch => cases ae <;> first | (simp only [RelExit] at hx; done) | exact ⟨_, s1, kn1, m1, dl1, hx, hE, hD, hI, hk, hkp, hq⟩
 | outgrown => cases ae <;> (simp only [RelExit] at hx)
end
theorem wpOps_append {P : Program} {ops : Array Oper} {Q : Exit → Act → World → Prop} (l2 : List Nat) : ∀ (l1 : List Nat) (a : Act) (w : World), wpOps P ops (fun e a w => match e with | .normal => wpOps P ops Q l2 a w | e => Q e a w) l1 a w → wpOps P ops Q (l1 ++ l2) a w
 | [], a, w, h => h
 | i :: rest, a, w, h => by
  rw [List.cons_append, wpOps_cons]
  rw [wpOps_cons] at h
  unfold wpOp at h ⊢
  split
  ·rename_i e; rw [e] at h; exact wpOps_append l2 rest a w h
  ·rename_i o e
   rw [e] at h
   simp only at h
   split
   ·rename_i hw
    rw [if_pos hw] at h
    rcases h with h | ⟨h1, h2⟩
    ·refine .inl ?_
     unfold Oper.wp at h ⊢
     generalize (execOp a.eval o).run P w = r at h ⊢
     unfold Oper.upon at h ⊢
     split at h
     all_goals first
      | exact wpOps_append l2 rest _ _ h
      | exact h
      | (refine h.mono fun e w' he => ?_
         cases e with
         | returned v => exact wpOps_append l2 rest _ _ he
         | panicked ch => exact he
         | outgrown => exact he)
      | (refine Rows.mono h fun v w' he => ?_; exact wpOps_append l2 rest _ _ he)
      | exact h.elim
    ·exact .inr ⟨h1, h2⟩
   ·rename_i hw
    rw [if_neg hw] at h
    exact wpOps_append l2 rest _ _ h
theorem aseq_of_areg' {C : Cx} {H : Hints} {tt : Nat → Bool} {ops : Array Oper} {K : St → Prop} {KP : AV → Sto → Nat → Prop} {p₀ n₀ : Nat} : ∀ (l : List Oper) (k : Nat) (s : St), (∀ j : Nat, j < l.length → l[j]? = ops[k + j]?) →
  areg C H tt ops K KP l k (p₀ + rk ops.toList k, n₀ + rk ops.toList k) s → aseq C H tt ops p₀ n₀ K KP (List.range' k l.length) s
 | [], k, s, hl, h => h
 | o :: rest, k, s, hl, h => by
  have h0 : ops[k]? = some o := by simpa using (hl 0 (by simp)).symm
  have hrest : ∀ j : Nat, j < rest.length → rest[j]? = ops[k + 1 + j]? := fun j hj => by have := hl (j + 1) (by simpa using hj); simpa [Nat.add_assoc, Nat.add_comm 1 j] using this
  have hrk := rk_succ (l := ops.toList) (i := k) (o := o) (by simpa using h0)
  have hal : (if isAlloc o.op = true then (p₀ + rk ops.toList k + 1, n₀ + rk ops.toList k + 1) else (p₀ + rk ops.toList k, n₀ + rk ops.toList k)) = (p₀ + rk ops.toList (k + 1), n₀ + rk ops.toList (k + 1)) := by
   rw [hrk]; split <;> simp [Nat.add_assoc]
  simp only [areg, hal] at h
  simp only [List.length_cons, List.range'_succ, aseq, aopAt, h0]
  obtain ⟨t, a, b, c⟩ := h
  exact ⟨t, a, fun ht => aop_mono (b ht) (fun v σ nx hh => aseq_of_areg' rest (k + 1) _ hrest hh) (fun _ _ _ hh => hh), fun ht => aseq_of_areg' rest (k + 1) _ hrest (c ht)⟩
section
variable {C : Cx} {n : Nat} {dl : List (FuncId × List AV)} {Q : AExit → List (FuncId × List AV) → St → Prop} {s : St}
theorem awD_defer (H : Hints) {id : Nat} {ops : Array Oper} {objs : Sto} {pre : List Oper} {o : Oper} {c : Call} (hl : ops.toList = pre ++ [o]) (hop : o.op = .defer c) (hg : o.guard = none) (hd : dstOK n ops = true) (ho : allocObjs C.P ops.toList s.nx = some objs)
  (h : ∀ (K : St → Prop) (KP : AV → Sto → Nat → Prop), (∀ s', (∃ g ags, calleeA C c s'.env = some (g, ags) ∧ Q .normal ((g, ags) :: dl) ⟨updo s'.env o.dst .undef, s'.σ, s'.nx⟩) → K s') → (∀ v σ nx, (∀ env, Q (.pan v) dl ⟨env, σ, nx⟩) → KP v σ nx) →
   areg C H (fun _ => true) ops K KP pre 0 (s.σ.length, s.nx) ⟨s.env, s.σ ++ objs, s.nx + objs.length⟩) : awD C n dl (.region id ops false) Q s := by
 intro B kn m act w h1 h2 h3
 obtain ⟨hI', hk'⟩ := h3.ahead ho
 refine wp_region ?_
 have hsz : ops.size = pre.length + 1 := by rw [← Array.length_toList, hl]; simp
 have hlast : ops[pre.length]? = some o := by rw [← Array.getElem?_toList, hl]; simp
 have hrange : List.range ops.size = List.range' 0 pre.length ++ [pre.length] := by
  rw [hsz, List.range_succ, List.range_eq_range']
 rw [hrange]
 refine wpOps_append _ _ _ _ ?_
 have h' := h (fun s' => ∃ g ags, calleeA C c s'.env = some (g, ags) ∧ Q .normal ((g, ags) :: dl) ⟨updo s'.env o.dst .undef, s'.σ, s'.nx⟩) (fun v σ nx => ∀ env, Q (.pan v) dl ⟨env, σ, nx⟩) (fun _ h => h) (fun _ _ _ h => h)
 have hs := aseq_of_areg' (ops := ops) (p₀ := s.σ.length) (n₀ := s.nx) pre 0 ⟨s.env, s.σ ++ objs, s.nx + objs.length⟩ (fun j hj => by rw [← Array.getElem?_toList, hl]; simp [List.getElem?_append_left hj]) (by simpa [rk] using h')
 refine aseq_sound (KP := fun v σ nx => ∀ env, Q (.pan v) dl ⟨env, σ, nx⟩) (B := B) (n := n) (ds := act.defers) (kn₀ := kn) (m₀ := m) (σ₀ := s.σ) (nx₀ := s.nx) h3.lt (dstOK_sound hd) (fun s' kn' m' act' w' hK hR => ?_)
  (fun v u env' kn' m' σ' nx' act' w' hKP hv hR => ⟨.pan v, ⟨env', σ', nx'⟩, kn', m', dl, ⟨u, rfl, hv⟩, hR.env, by rw [hR.defs]; exact h2.mono hR.knle (hR.keep.mple h3), hR.inv, hR.knle, hR.keep, hKP env'⟩) (List.range' 0 pre.length) (fun _ => false) ⟨s.env, s.σ ++ objs, s.nx + objs.length⟩ kn m act w List.nodup_range' (fun _ _ => rfl) ⟨⟨h1, rfl, hI', KnLe.refl _, hk'⟩, ?_⟩ hs
 ·obtain ⟨g, ags, hc, hq⟩ := hK
  simp only
  rw [wpOps_cons]
  unfold wpOp
  rw [hlast]
  simp only
  have hwt : Region.wanted o (yielded ops act'.tmps) = true := by unfold Region.wanted; rw [hg]
  rw [if_pos hwt]
  refine .inl ?_
  unfold calleeA at hc
  split at hc
  ·rename_i f hcal
   split at hc
   ·rename_i g' first caps hf
    cases hc
    have hfr := rel_opv hR.inv hR.env f
    rw [hf] at hfr
    generalize hfv : act'.eval f = fv at hfr
    cases hfr with
    | fn _ _ _ first' caps' hl1 hl2 hr1 hr2 =>
     have hargs := rel_map hR.inv hR.env c.args
     have hrel : RelL kn' m' (first ++ (c.args.toList.map (opv C s'.env) ++ caps)) (first'.toList ++ ((c.args.map act'.eval).toList ++ caps'.toList)) := by
      refine RelL.append ⟨by simpa using hl1, fun i x v a b => hr1 i x v a (by simpa using b)⟩ (RelL.append ⟨by simp, fun i x v a b => hargs.2 i x v a (by rw [← Array.getElem?_toList]; exact b)⟩ ⟨by simpa using hl2, fun i x v a b => hr2 i x v a (by simpa using b)⟩)
     have hexec : (execOp act'.eval o).run C.P w' = .ok (.defer { target := .fn (.func g) caps', args := first' ++ c.args.map act'.eval }) w' := by
      obtain ⟨dst, op, type, pos, after, guard⟩ := o
      simp only at hop
      subst hop
      simp [execOp, resolve, hcal, hfv, Deferred.ofValue]
     unfold Oper.wp
     rw [hexec, Oper.upon_defer]
     simp only [wpOps]
     have hE : RelEnv kn' m' s'.env n { act' with defers := { target := .fn (.func g) caps', args := first' ++ c.args.map act'.eval } :: act'.defers } := ⟨hR.env.size, hR.env.tmp⟩
     refine ⟨.normal, ⟨updo s'.env o.dst .undef, s'.σ, s'.nx⟩, kn', m', _, trivial, hE.put o.dst (fun d => dstOK_sound hd _ _ d hlast) (.base _), ?_, hR.inv, hR.knle, hR.keep, hq⟩
     have hdd : ∀ (a : Act) (d : Option Tmp) (v : Value), (a.put d v).defers = a.defers := fun a d v => by cases d <;> rfl
     rw [hdd]
     refine ⟨_, _, rfl, ⟨caps', rfl, ?_⟩, ?_⟩
     ·simpa using hrel
     ·rw [hR.defs]; exact h2.mono hR.knle (hR.keep.mple h3)
   ·cases hc
  ·cases hc
 ·intro j o' T hj hT _
  obtain ⟨z, hz, hgt⟩ := allocObjs_get ho (j := j) (by simpa using hj) hT
  refine ⟨h3.dom _ (Nat.le_add_right _ _), ?_, Nat.le_add_right _ _, z, hz, ?_⟩
  ·have := (List.getElem?_eq_some_iff.1 hgt).1; simp; omega
  ·rw [List.getElem?_append_right (Nat.le_add_right _ _), Nat.add_sub_cancel_left]; exact hgt
theorem awD_sdefer (H : Hints) {id : Nat} {ops : Array Oper} {objs : Sto} {y : Code} {pre : List Oper} {o : Oper} {c : Call} (hl : ops.toList = pre ++ [o]) (hop : o.op = .defer c) (hg : o.guard = none) (hd : dstOK n ops = true) (ho : allocObjs C.P ops.toList s.nx = some objs)
  (h : ∀ (K : St → Prop) (KP : AV → Sto → Nat → Prop), (∀ s', (∃ g ags, calleeA C c s'.env = some (g, ags) ∧ awD C n ((g, ags) :: dl) y Q ⟨updo s'.env o.dst .undef, s'.σ, s'.nx⟩) → K s') → (∀ v σ nx, (∀ env, Q (.pan v) dl ⟨env, σ, nx⟩) → KP v σ nx) →
   areg C H (fun _ => true) ops K KP pre 0 (s.σ.length, s.nx) ⟨s.env, s.σ ++ objs, s.nx + objs.length⟩) : awD C n dl (.seq (.region id ops false) y) Q s :=
 awD_seq (awD_defer H hl hop hg hd ho fun K KP hK hP => h K KP hK hP)
theorem awD_sreg (H : Hints) {id : Nat} {ops : Array Oper} {objs : Sto} {y : Code} (hd : dstOK n ops = true) (ho : allocObjs C.P ops.toList s.nx = some objs)
  (h : ∀ (K : St → Prop) (KP : AV → Sto → Nat → Prop), (∀ s, awD C n dl y Q s → K s) → (∀ v σ nx, (∀ env, Q (.pan v) dl ⟨env, σ, nx⟩) → KP v σ nx) →
   areg C H (fun _ => true) ops K KP ops.toList 0 (s.σ.length, s.nx) ⟨s.env, s.σ ++ objs, s.nx + objs.length⟩) : awD C n dl (.seq (.region id ops false) y) Q s :=
 awD_seq (awD_rest fun ds => aw_region hd ho (h _ _ (fun _ h => h) (fun _ _ _ h env => h env)))
end
def DPost (C : Cx) (rs : List ResultVar) (Q : AOut → Sto → Nat → Prop) : AExit → List (FuncId × List AV) → St → Prop
 | .normal, dl, s => LeavesA C rs Q dl none s
 | .ret, dl, s => LeavesA C rs Q dl none s
 | .pan v, dl, s => LeavesA C rs Q dl (some v) s
 | _, _, _ => False
theorem acall_introD {C : Cx} {g : FuncId} {fn : Func} {c : Code} {args : List AV} {σ : Sto} {nx : Nat} (hf : C.P.funcs[g]? = some fn) (hb : fn.body = some c) (hname : (fn.name == "runtime.NumGoroutine") = false) (hn : args.length ≤ fn.ntmps) {Q : AOut → Sto → Nat → Prop}
  (h : awD C fn.ntmps [] c (DPost C fn.results.toList Q) ⟨argEnv args, σ, nx⟩) : ACall C g args σ nx Q := by
 refine fun B kn m w vs hI hr => .inl ⟨bodyOK_mk hf hb hname, ?_⟩
 refine calls_of_wp_defers hf hb (wp_mono (h B kn m _ w (argEnv_rel hr hn) rfl hI) ?_)
 rintro e act' w' ⟨ae, s', kn', m', dl', hx, hE, hD, hI', hk, hkp, hq⟩
 cases e with
 | normal =>
  cases ae <;> first | (simp only [RelExit] at hx; done) | skip
  exact leaves_sound hI.lt dl' none s' _ _ kn' m' w' hD rfl hE hI' hk hkp hq
 | ret =>
  cases ae <;> first | (simp only [RelExit] at hx; done) | skip
  exact leaves_sound hI.lt dl' none s' _ _ kn' m' w' hD rfl hE hI' hk hkp hq
 | panic ch =>
  cases ae <;> first | (simp only [RelExit] at hx; done) | skip
  obtain ⟨u, rfl, hu⟩ := hx
  exact leaves_sound hI.lt dl' (some _) s' _ _ kn' m' w' hD ⟨u, rfl, hu⟩ hE hI' hk hkp hq
 | exit id => cases ae <;> first | (simp only [RelExit] at hx; done) | exact hq.elim
 | goto l => cases ae <;> first | (simp only [RelExit] at hx; done) | exact hq.elim
 | outgrown => cases ae <;> (simp only [RelExit] at hx)
theorem acall_mkD {C : Cx} {g : FuncId} {fn : Func} {c : Code} {args : List AV} {σ : Sto} {nx : Nat} (n : Nat) (rs : List ResultVar) (hf : C.P.funcs[g]? = some fn) (hb : fn.body = some c) (hname : (fn.name == "runtime.NumGoroutine") = false) (hn : fn.ntmps = n) (hr : fn.results.toList = rs) (hl : Nat.ble args.length n = true) {Q : AOut → Sto → Nat → Prop}
  (h : awD C n [] c (DPost C rs Q) ⟨argEnv args, σ, nx⟩) : ACall C g args σ nx Q := by
 subst hn; subst hr
 exact acall_introD hf hb hname (Nat.le_of_ble_eq_true hl) h
theorem wpOpsS_cons {P : Program} {ops : Array Oper} {Q : Exit → Act → List Frame → World → Prop} {i : Nat} {rest : List Nat} {a : Act} {cs : List Frame} {w : World} (hno : ¬ LetsOut (fun e a w => Q e a cs w)) (h : wpOp P ops (fun e a w => Q e a cs w) i (fun a w => wpOpsS P ops Q rest a cs w) a w) :
  wpOpsS P ops Q (i :: rest) a cs w := by
 unfold wpOp at h
 simp only [wpOpsS]
 split
 ·rename_i e; rw [e] at h; exact h
 ·rename_i o e
  rw [e] at h
  simp only at h
  split
  ·rename_i hw
   rw [if_pos hw] at h
   rcases h with h | ⟨_, h⟩
   ·unfold Oper.wp at h
    split
    ·rename_i w' hr; rw [hr] at h; exact h.elim
    ·exact h
   ·exact absurd h hno
  ·rename_i hw; rw [if_neg hw] at h; exact h
section
variable {C : Cx} {B : Base} {n : Nat} {ds : List Deferred} {kn₀ : Kn} {m₀ : Mp} {σ₀ : Sto} {nx₀ : Nat} {ops : Array Oper} {p₀ n₀ : Nat}
theorem aseqS_sound {H : Hints} {tt : Nat → Bool} {K : St → Prop} {KP : AV → Sto → Nat → Prop} (hlt₀ : ∀ (p nm : Nat) (ob : AObj), σ₀[p]? = some (nm, ob) → nm < nx₀)
  (hd : ∀ (i : Nat) (o : Oper) (d : Nat), ops[i]? = some o → o.dst = some d → d < n) {Q : Exit → Act → List Frame → World → Prop} {cs : List Frame} (hno : ¬ LetsOut (fun e a w => Q e a cs w))
  (hend : ∀ s' kn' m' act' w', K s' → RS C B n ds kn₀ m₀ σ₀ nx₀ kn' m' s' act' w' → Q .normal act' cs w')
  (hpan : ∀ v u env' kn' m' σ' nx' act' w', KP v σ' nx' → Rel kn' m' v u → RS C B n ds kn₀ m₀ σ₀ nx₀ kn' m' ⟨env', σ', nx'⟩ act' w' → Q (.panic [{ v := u, recovered := false }]) act' cs w') :
  ∀ (l : List Nat) (listed : Nat → Bool) (s : St) (kn : Kn) (m : Mp) (act : Act) (w : World), l.Nodup → (∀ i ∈ l, listed i = false) → RR C B n ds kn₀ m₀ σ₀ nx₀ ops p₀ n₀ listed kn m s act w → aseq C H tt ops p₀ n₀ K KP l s →
   wpOpsS C.P ops Q l act cs w
 | [], listed, s, kn, m, act, w, _, _, hR, h => by simpa [wpOpsS] using hend s kn m act w h hR.rs
 | i :: rest, listed, s, kn, m, act, w, hnd, hl, hR, h => by
  refine wpOpsS_cons hno (aopAt_sound hlt₀ hd hR (hl i (by simp)) h (fun s' kn' m' act' w' hK hR' => ?_) hpan)
  refine aseqS_sound hlt₀ hd hno hend hpan rest (lput listed i) s' kn' m' act' w' (List.nodup_cons.1 hnd).2 (fun j hj => ?_) hR' hK
  unfold lput
  rw [if_neg (show ¬ j = i from fun e => (List.nodup_cons.1 hnd).1 (by rw [← e]; exact hj))]
  exact hl j (by simp [hj])
end
def CPost (C : Cx) (rs : List ResultVar) (R : Option AV → Sto → Nat → Prop) : AExit → St → Prop
 | .normal, s => (∃ r, resA C.P rs s = some r) ∧ R none s.σ s.nx
 | .ret, s => (∃ r, resA C.P rs s = some r) ∧ R none s.σ s.nx
 | _, _ => False
def recA : Option AV → AV
 | none => .base .nilIface
 | some x => x
theorem dcall_mk {C : Cx} (H : Hints) {g : FuncId} {fn : Func} {id : Nat} {ops : Array Oper} {y : Code} {args : List AV} {σ : Sto} {nx : Nat} {u : Option AV} {R : Option AV → Sto → Nat → Prop} (n : Nat) (rs : List ResultVar) (hf : C.P.funcs[g]? = some fn) (hb : fn.body = some (.seq (.region id ops false) y))
  (hname : (fn.name == "runtime.NumGoroutine") = false) (hn : fn.ntmps = n) (hr : fn.results.toList = rs) (hl : Nat.ble args.length n = true)
  {o : Oper} {l : List Oper} {ts : Array TypeId} {objs : Sto} (hol : ops.toList = o :: l) (hop : o.op = .call ⟨.builtin .recover, #[], ts⟩) (hg : o.guard = none) (hd : dstOK n ops = true) (ho : allocObjs C.P ops.toList nx = some objs)
  (h : ∀ (K : St → Prop), (∀ s, aw C n [] y (CPost C rs R) s → K s) → areg C H (fun _ => true) ops K (fun _ _ _ => False) l 1 (σ.length, nx) ⟨updo (argEnv args) o.dst (recA u), σ ++ objs, nx + objs.length⟩) : DCall C g args σ nx u R := by
 subst hn; subst hr
 refine ⟨bodyOK_mk hf hb hname, fun B kn m w vs um hI hrel hmode => ?_⟩
 refine callsD_of_wpS hf hb fun c₀ cs hc₀ => ?_
 refine wpS_seq (wpS_region ?_)
 have hE := argEnv_rel hrel (Nat.le_of_ble_eq_true hl)
 obtain ⟨hI', hk'⟩ := hI.ahead ho
 have hsz : ops.size = l.length + 1 := by rw [← Array.length_toList, hol]; simp
 have h0 : ops[0]? = some o := by rw [← Array.getElem?_toList, hol]; simp
 have hrange : List.range ops.size = 0 :: List.range' 1 l.length := by
  rw [hsz, List.range_eq_range', List.range'_succ]
 rw [hrange]
 simp only [wpOpsS, h0]
 have hwt : ∀ ts, Region.wanted o (yielded ops ts) = true := fun ts => by unfold Region.wanted; rw [hg]
 rw [if_pos (hwt _)]
 have hexec : ∀ (a : Act) (w : World), (execOp a.eval o).run C.P w = .ok .recover w := by
  intro a w
  obtain ⟨dst, op, type, pos, after, guard⟩ := o
  simp only at hop
  subst hop
  rfl
 rw [hexec]
 simp only
 have hrk : rk ops.toList 1 = 0 := by rw [hol]; simp [rk, hop, isAlloc]
 have key : ∀ (rv : Value) (u' : FrameMode), Rel kn m (recA u) rv → settle u' = .returning →
   wpOpsS C.P ops (Exit.thenS (y.wpS C.P (bodyPostS C.P fn c₀ cs fun e u' w' => (∃ v, e = .returned v) ∧ ∃ x kn' m' σ' nx', R x σ' nx' ∧ RelMode kn' m' x (settle u') ∧ KnLe kn kn' ∧ Inv C B kn' m' σ' nx' w' ∧ Keep m σ nx m' σ' nx'))
    (bodyPostS C.P fn c₀ cs fun e u' w' => (∃ v, e = .returned v) ∧ ∃ x kn' m' σ' nx', R x σ' nx' ∧ RelMode kn' m' x (settle u') ∧ KnLe kn kn' ∧ Inv C B kn' m' σ' nx' w' ∧ Keep m σ nx m' σ' nx')) (List.range' 1 l.length)
    (({ tmps := vs.toArray ++ Array.replicate (fn.ntmps - vs.toArray.size) undef, defers := [] } : Act).put o.dst rv) ({ c₀ with mode := u' } :: cs) w := by
  intro rv u' hrv hset
  have hs := aseq_of_areg' (C := C) (H := H) (ops := ops) (p₀ := σ.length) (n₀ := nx) l 1 ⟨updo (argEnv args) o.dst (recA u), σ ++ objs, nx + objs.length⟩ (fun j hj => by rw [← Array.getElem?_toList, hol, Nat.add_comm 1 j]; simp) (by rw [hrk]; exact h _ (fun s hs => hs))
  refine aseqS_sound (KP := fun _ _ _ => False) (B := B) (n := fn.ntmps) (ds := []) (kn₀ := kn) (m₀ := m) (σ₀ := σ) (nx₀ := nx) hI.lt (dstOK_sound hd) ?_ (fun s' kn' m' act' w' hK hR => ?_) (fun _ _ _ _ _ _ _ _ _ hf => hf.elim)
   (List.range' 1 l.length) (fun j => decide (j = 0)) ⟨updo (argEnv args) o.dst (recA u), σ ++ objs, nx + objs.length⟩ kn m _ w List.nodup_range' (fun i hi => by have := List.mem_range'_1.1 hi; simp; omega) ⟨⟨hE.put o.dst (fun d => dstOK_sound hd _ _ d h0) hrv, by cases o.dst <;> rfl, hI', KnLe.refl _, hk'⟩, ?_⟩ hs
  ·rintro ⟨a, w, u'', hq, _⟩
   simp at hq
  ·refine wpS_of_wp (wp_mono (hK B kn' m' act' w' hR.env hR.defs hR.inv) ?_)
   rintro e act2 w2 ⟨ae, s2, kn2, m2, hx, hR2, hq⟩
   have fin : (∃ r, resA C.P fn.results.toList s2 = some r) ∧ R none s2.σ s2.nx → act2.defers = [] ∧ ∃ u'', ({ c₀ with mode := u' } :: cs : List Frame) = { c₀ with mode := u'' } :: cs ∧ ∃ v, (results fn act2.tmps).run C.P w2 = .ok v w2 ∧ (∃ v', Ending.returned v = .returned v') ∧ ∃ x kn' m' σ' nx', R x σ' nx' ∧ RelMode kn' m' x (settle u'') ∧ KnLe kn kn' ∧ Inv C B kn' m' σ' nx' w2 ∧ Keep m σ nx m' σ' nx' := by
    rintro ⟨⟨r, hr⟩, hRn⟩
    obtain ⟨v, q1, q2⟩ := results_sound hR2.inv hR2.env hr
    exact ⟨hR2.defs, u', rfl, v, q1, ⟨v, rfl⟩, none, kn2, m2, s2.σ, s2.nx, hRn, hset, hR.knle.trans hR2.knle, hR2.inv, hR.keep.trans hR2.keep hI.lt⟩
   cases e with
   | normal => cases ae <;> first | (simp only [RelExit] at hx; done) | exact fin hq
   | ret => cases ae <;> first | (simp only [RelExit] at hx; done) | exact fin hq
   | panic ch => cases ae <;> first | (simp only [RelExit] at hx; done) | exact hq.elim
   | exit id => cases ae <;> first | (simp only [RelExit] at hx; done) | exact hq.elim
   | goto l => cases ae <;> first | (simp only [RelExit] at hx; done) | exact hq.elim
   | outgrown => cases ae <;> (simp only [RelExit] at hx)
  ·intro j o' T hj hT hlj
   obtain ⟨z, hz, hgt⟩ := allocObjs_get ho (j := j) (by simpa using hj) hT
   refine ⟨hI.dom _ (Nat.le_add_right _ _), ?_, Nat.le_add_right _ _, z, hz, ?_⟩
   ·have := (List.getElem?_eq_some_iff.1 hgt).1; simp; omega
   ·rw [List.getElem?_append_right (Nat.le_add_right _ _), Nat.add_sub_cancel_left]; exact hgt
 cases u with
 | none =>
  simp only [RelMode] at hmode
  subst hmode
  have hrec : recoverD (c₀ :: cs) = none := by simp only [recoverD, hc₀]
  rw [hrec]
  have hsame : ({ c₀ with mode := .returning } : Frame) = c₀ := by rw [← hc₀]
  have := key .nilIface .returning (.base _) rfl
  rw [hsame] at this
  exact this
 | some x =>
  obtain ⟨v, rfl, hv⟩ := hmode
  have hrec : recoverD (c₀ :: cs) = some (v, { c₀ with mode := .panicking [{ v := v, recovered := true }] } :: cs) := by simp only [recoverD, hc₀]
  rw [hrec]
  exact key v (.panicking [{ v := v, recovered := true }]) hv rfl
end Go.Ab
