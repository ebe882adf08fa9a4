/-
  RULES BY WHICH SIMP EVALUATES A REGION, and rules of code for a walk.
-/
import Derived.Test.YtmompmackgknbaaDoorAb15
set_option linter.unusedVariables false
set_option linter.unusedSimpArgs false
namespace Go.Ab
open Go Go.RowKit

/-- A token whose type names a term: simp leaves what it names as it is. -/
inductive Tok {α : Sort _} (a : α) : Type
  | mk : Tok a
/-- What follows a value, if there is one. -/
def seen (o : Option AV) (K : AV → Prop) (t : Tok K) : Prop := ∃ v, o = some v ∧ K v
def seen3 (o : Option (AV × Sto × Nat)) (K : AV → Sto → Nat → Prop) (t : Tok K) : Prop := ∃ v σ nx, o = some (v, σ, nx) ∧ K v σ nx
@[go_sem] theorem seen_some (v : AV) (K : AV → Prop) (t : Tok K) : seen (some v) K t ↔ K v := by simp [seen]
@[go_sem] theorem seen3_some (v : AV) (σ : Sto) (nx : Nat) (K : AV → Sto → Nat → Prop) (t : Tok K) : seen3 (some (v, σ, nx)) K t ↔ K v σ nx := by
  constructor
  · rintro ⟨v', σ', nx', h, hk⟩; cases h; exact hk
  · intro h; exact ⟨v, σ, nx, rfl, h⟩
def callP (C : Cx) (own tot : Bool) (g : FuncId) (args : List AV) (σ : Sto) (nx : Nat) (K KP : AV → Sto → Nat → Prop) (t : Tok K) (t' : Tok KP) : Prop := CallP C own tot g args σ nx K KP
/-- Whether a guarded operation is carried out. -/
def gsel (o : Option Bool) (A B : Prop) (t : Tok A) (t' : Tok B) : Prop := match o with
  | some true => A
  | some false => B
  | none => False
@[go_sem] theorem gsel_true (A B : Prop) (t : Tok A) (t' : Tok B) : gsel (some true) A B t t' ↔ A := Iff.rfl
@[go_sem] theorem gsel_false (A B : Prop) (t : Tok A) (t' : Tok B) : gsel (some false) A B t t' ↔ B := Iff.rfl
section
variable {C : Cx} {H : Hints} {tt : Nat → Bool} {ops : Array Oper} {K : St → Prop} {KP : AV → Sto → Nat → Prop} {rest : List Oper} {k : Nat} {al : Nat × Nat} {env : Nat → AV} {σ : Sto} {nx : Nat} {d : Option Tmp} {ty : TypeId} {pos : String} {af : Array Edge}

@[go_sem ↓] theorem areg_nil {s : St} : areg C H tt ops K KP [] k al s ↔ K s := Iff.rfl
theorem areg_one {o : Oper} {s : St} (hg : o.guard = none) : areg C H tt ops K KP (o :: rest) k al s ↔ aop C H (tt k) al o (fun v σ nx => areg C H tt ops K KP rest (k + 1) (if isAlloc o.op = true then (al.1 + 1, al.2 + 1) else al) ⟨updo s.env o.dst v, σ, nx⟩) KP s := by
  constructor
  · rintro ⟨t, h1, h2, h3⟩
    unfold wantedA at h1
    rw [hg] at h1
    simp only [Option.some.injEq] at h1
    exact h2 h1.symm
  · intro h
    refine ⟨true, by unfold wantedA; rw [hg], fun _ => h, fun e => by cases e⟩
@[go_sem ↓] theorem areg_guard {j : Nat} {w : Bool} {op : Op} {s : St} : areg C H tt ops K KP (⟨d, op, ty, pos, af, some (j, w)⟩ :: rest) k al s ↔
    gsel (wantedA ops s.env ⟨d, op, ty, pos, af, some (j, w)⟩) (areg C H tt ops K KP (⟨d, op, ty, pos, af, none⟩ :: rest) k al s) (areg C H tt ops K KP rest (k + 1) (if isAlloc op = true then (al.1 + 1, al.2 + 1) else al) ⟨updo s.env d .undef, s.σ, s.nx⟩) .mk .mk := by
  rw [areg_one (o := ⟨d, op, ty, pos, af, none⟩) rfl]
  constructor
  · rintro ⟨t, h1, h2, h3⟩
    rw [h1]
    cases t
    · exact h3 rfl
    · exact h2 rfl
  · intro h
    cases hw : wantedA ops s.env ⟨d, op, ty, pos, af, some (j, w)⟩ with
    | none => rw [hw] at h; exact h.elim
    | some t =>
      rw [hw] at h
      refine ⟨t, hw, fun ht => ?_, fun ht => ?_⟩ <;> subst ht <;> exact h
theorem areg_fn {op : Op} (hk : kindOf H ⟨d, op, ty, pos, af, none⟩ = .fn) (ha : isAlloc op = false) : areg C H tt ops K KP (⟨d, op, ty, pos, af, none⟩ :: rest) k al ⟨env, σ, nx⟩ ↔
    seen (fop C al op env (if dstIn H.pl d = true then [] else σ)) (fun v => areg C H tt ops K KP rest (k + 1) al ⟨updo env d v, σ, nx⟩) .mk := by
  rw [areg_one rfl, aop_fn hk]
  simp only [ha, Bool.false_eq_true, if_false]
  rfl
theorem areg_eff {op : Op} (hk : kindOf H ⟨d, op, ty, pos, af, none⟩ = .eff) (ha : isAlloc op = false) : areg C H tt ops K KP (⟨d, op, ty, pos, af, none⟩ :: rest) k al ⟨env, σ, nx⟩ ↔
    seen3 (eop C op env σ nx) (fun v σ nx => areg C H tt ops K KP rest (k + 1) al ⟨updo env d v, σ, nx⟩) .mk := by
  rw [areg_one rfl, aop_eff hk]
  simp only [ha, Bool.false_eq_true, if_false]
  rfl
@[go_sem ↓] theorem areg_move {x : Operand} : areg C H tt ops K KP (⟨d, .move x, ty, pos, af, none⟩ :: rest) k al ⟨env, σ, nx⟩ ↔ seen (some (opv C env x)) (fun v => areg C H tt ops K KP rest (k + 1) al ⟨updo env d v, σ, nx⟩) .mk := areg_fn rfl rfl
@[go_sem ↓] theorem areg_assign {x : Operand} : areg C H tt ops K KP (⟨d, .assign x, ty, pos, af, none⟩ :: rest) k al ⟨env, σ, nx⟩ ↔ seen (some (opv C env x)) (fun v => areg C H tt ops K KP rest (k + 1) al ⟨updo env d v, σ, nx⟩) .mk := areg_fn rfl rfl
def pickA : AV → AV → AV → Option AV
  | .bool t, a, b => some (if t = true then a else b)
  | _, _, _ => none
@[go_sem] theorem pickA_bool (t : Bool) (a b : AV) : pickA (.bool t) a b = some (if t = true then a else b) := rfl
@[go_sem ↓] theorem areg_pick {c a b : Operand} : areg C H tt ops K KP (⟨d, .pick c a b, ty, pos, af, none⟩ :: rest) k al ⟨env, σ, nx⟩ ↔ seen (pickA (opv C env c) (opv C env a) (opv C env b)) (fun v => areg C H tt ops K KP rest (k + 1) al ⟨updo env d v, σ, nx⟩) .mk := by
  rw [areg_fn rfl rfl]
  simp only [fop, pickA]
  cases opv C env c <;> rfl
theorem zc_seen {T : TypeId} {z : List AV} (hz : zeroCells C.P T = some z) {p n : Nat} : areg C H tt ops K KP (⟨d, .alloc T, ty, pos, af, none⟩ :: rest) k (p, n) ⟨env, σ, nx⟩ ↔ areg C H tt ops K KP rest (k + 1) (p + 1, n + 1) ⟨updo env d (.ref p n 0), σ, nx⟩ := by
  rw [areg_one rfl, aop_fn rfl]
  simp [fval, fop, hz, isAlloc]
def allocA : Option (List AV) → Nat × Nat → Option AV
  | some _, al => some (.ref al.1 al.2 0)
  | none, _ => none
@[go_sem] theorem allocA_some (z : List AV) (p n : Nat) : allocA (some z) (p, n) = some (.ref p n 0) := rfl
@[go_sem ↓] theorem areg_alloc {T : TypeId} {p n : Nat} : areg C H tt ops K KP (⟨d, .alloc T, ty, pos, af, none⟩ :: rest) k (p, n) ⟨env, σ, nx⟩ ↔ seen (allocA (zeroCells C.P T) (p, n)) (fun v => areg C H tt ops K KP rest (k + 1) (p + 1, n + 1) ⟨updo env d v, σ, nx⟩) .mk := by
  rw [areg_one rfl, aop_fn rfl]
  simp only [fval, fop, isAlloc, if_true]
  unfold allocA
  cases zeroCells C.P T <;> rfl
@[go_sem ↓] theorem areg_box {T : TypeId} {x : Operand} : areg C H tt ops K KP (⟨d, .box T x, ty, pos, af, none⟩ :: rest) k al ⟨env, σ, nx⟩ ↔
    if dstIn H.mb d = true then seen3 ((cellsA (opv C env x)).map fun cs => (.ref σ.length nx 0, σ ++ [(nx, .cells T cs)], nx + 1)) (fun v σ nx => areg C H tt ops K KP rest (k + 1) al ⟨updo env d v, σ, nx⟩) .mk
    else seen ((cellsA (opv C env x)).map .rptr) (fun v => areg C H tt ops K KP rest (k + 1) al ⟨updo env d v, σ, nx⟩) .mk := by
  split
  · rename_i h; exact areg_eff (by simp [kindOf, h]) rfl
  · rename_i h; rw [areg_fn (by simp [kindOf, h]) rfl]; rfl
def buildA (z : Option (List AV)) (pl : Option (List (Nat × Nat))) (parts : List (Nat × AV)) : Option AV :=
  match z, pl with
  | some z, some pl => (fillA (pl[·]?) z parts).map .agg
  | _, _ => none
@[go_sem] theorem buildA_some (z : List AV) (pl : List (Nat × Nat)) (parts : List (Nat × AV)) : buildA (some z) (some pl) parts = (fillA (pl[·]?) z parts).map .agg := rfl
@[go_sem ↓] theorem areg_build {t : TypeId} {ps : Array (Nat × Operand)} : areg C H tt ops K KP (⟨d, .build t ps, ty, pos, af, none⟩ :: rest) k al ⟨env, σ, nx⟩ ↔ seen (buildA (zeroCells C.P t) (bldT C.P t) (ps.toList.map fun p => (p.1, opv C env p.2))) (fun v => areg C H tt ops K KP rest (k + 1) al ⟨updo env d v, σ, nx⟩) .mk := by
  rw [areg_fn rfl rfl]
  have : fop C al (.build t ps) env (if dstIn H.pl d = true then [] else σ) = buildA (zeroCells C.P t) (bldT C.P t) (ps.toList.map fun p => (p.1, opv C env p.2)) := by
    simp only [fop, buildA]
    cases zeroCells C.P t <;> cases bldT C.P t <;> rfl
  rw [this]
def bslA (sz len : Nat) (z : Option (List AV)) (parts : List (Nat × AV)) : Option (List (List AV)) :=
  match z with
  | some z => if 0 < sz ∧ z.length = sz ∧ len * sz ≤ 16777216 then rowsA sz (List.replicate len z) parts else none
  | none => none
def bslF (P : Program) (t : TypeId) (len : Nat) (parts : List (Nat × AV)) : Option AV :=
  match elmT P t with
  | some (e, sz, _) => (bslA sz len (zeroCells P e) parts).map (.vec sz)
  | none => none
def bslE (P : Program) (t : TypeId) (len : Nat) (parts : List (Nat × AV)) (σ : Sto) (nx : Nat) : Option (AV × Sto × Nat) :=
  match elmT P t with
  | some (e, sz, _) => (bslA sz len (zeroCells P e) parts).map fun rows => (.sref σ.length nx sz 0 len, σ ++ [(nx, .gvec sz e rows)], nx + 1)
  | none => none
@[go_sem ↓] theorem areg_buildSlice {t : TypeId} {len : Nat} {ps : Array (Nat × Operand)} : areg C H tt ops K KP (⟨d, .buildSlice t len ps, ty, pos, af, none⟩ :: rest) k al ⟨env, σ, nx⟩ ↔
    if dstIn H.mb d = true then seen3 (bslE C.P t len (ps.toList.map fun p => (p.1, opv C env p.2)) σ nx) (fun v σ nx => areg C H tt ops K KP rest (k + 1) al ⟨updo env d v, σ, nx⟩) .mk
    else seen (bslF C.P t len (ps.toList.map fun p => (p.1, opv C env p.2))) (fun v => areg C H tt ops K KP rest (k + 1) al ⟨updo env d v, σ, nx⟩) .mk := by
  split
  · rename_i h
    rw [areg_eff (by simp [kindOf, h]) rfl]
    have : eop C (.buildSlice t len ps) env σ nx = bslE C.P t len (ps.toList.map fun p => (p.1, opv C env p.2)) σ nx := by
      simp only [eop, bslE]
      cases elmT C.P t with
      | none => rfl
      | some q =>
        obtain ⟨e, sz, b⟩ := q
        simp only [bslA]
        cases zeroCells C.P e with
        | none => rfl
        | some z => simp only; split <;> rfl
    rw [this]
  · rename_i h
    rw [areg_fn (by simp [kindOf, h]) rfl]
    have : fop C al (.buildSlice t len ps) env (if dstIn H.pl d = true then [] else σ) = bslF C.P t len (ps.toList.map fun p => (p.1, opv C env p.2)) := by
      simp only [fop, bslF]
      cases elmT C.P t with
      | none => rfl
      | some q =>
        obtain ⟨e, sz, b⟩ := q
        simp only [bslA]
        cases zeroCells C.P e with
        | none => rfl
        | some z => simp only; split <;> rfl
    rw [this]
@[go_sem ↓] theorem areg_load {T : TypeId} {x : Operand} : areg C H tt ops K KP (⟨d, .load T x, ty, pos, af, none⟩ :: rest) k al ⟨env, σ, nx⟩ ↔ seen (readA C.P T (if dstIn H.pl d = true then [] else σ) (opv C env x)) (fun v => areg C H tt ops K KP rest (k + 1) al ⟨updo env d v, σ, nx⟩) .mk := areg_fn rfl rfl
@[go_sem ↓] theorem areg_nilCheck {x : Operand} : areg C H tt ops K KP (⟨d, .nilCheck x, ty, pos, af, none⟩ :: rest) k al ⟨env, σ, nx⟩ ↔ seen (nilckA (opv C env x)) (fun v => areg C H tt ops K KP rest (k + 1) al ⟨updo env d v, σ, nx⟩) .mk := areg_fn rfl rfl
@[go_sem ↓] theorem areg_binOp {op : BinOp} {t u : TypeId} {x y : Operand} : areg C H tt ops K KP (⟨d, .binOp op t x y u, ty, pos, af, none⟩ :: rest) k al ⟨env, σ, nx⟩ ↔ seen (abin C op t x y (opv C env x) (opv C env y)) (fun v => areg C H tt ops K KP rest (k + 1) al ⟨updo env d v, σ, nx⟩) .mk := areg_fn rfl rfl
@[go_sem ↓] theorem areg_unOp {op : UnOp} {t : TypeId} {x : Operand} : areg C H tt ops K KP (⟨d, .unOp op t x, ty, pos, af, none⟩ :: rest) k al ⟨env, σ, nx⟩ ↔ seen (aun op (opv C env x)) (fun v => areg C H tt ops K KP rest (k + 1) al ⟨updo env d v, σ, nx⟩) .mk := areg_fn rfl rfl
@[go_sem ↓] theorem areg_convert {s t : TypeId} {x : Operand} : areg C H tt ops K KP (⟨d, .convert s t x, ty, pos, af, none⟩ :: rest) k al ⟨env, σ, nx⟩ ↔ seen (aconv C.P s t (opv C env x)) (fun v => areg C H tt ops K KP rest (k + 1) al ⟨updo env d v, σ, nx⟩) .mk := areg_fn rfl rfl
@[go_sem ↓] theorem areg_makeInterface {t : TypeId} {x : Operand} : areg C H tt ops K KP (⟨d, .makeInterface t x, ty, pos, af, none⟩ :: rest) k al ⟨env, σ, nx⟩ ↔ seen (if conT C.P t then some (.iface t (opv C env x)) else none) (fun v => areg C H tt ops K KP rest (k + 1) al ⟨updo env d v, σ, nx⟩) .mk := areg_fn rfl rfl
@[go_sem ↓] theorem areg_makeFunc {f : Fn} {a b : Array Operand} : areg C H tt ops K KP (⟨d, .makeFunc f a b, ty, pos, af, none⟩ :: rest) k al ⟨env, σ, nx⟩ ↔ seen (some (.fn f (a.toList.map (opv C env)) (b.toList.map (opv C env)))) (fun v => areg C H tt ops K KP rest (k + 1) al ⟨updo env d v, σ, nx⟩) .mk := areg_fn rfl rfl
@[go_sem ↓] theorem areg_fieldAddr {s f : Nat} {x : Operand} : areg C H tt ops K KP (⟨d, .fieldAddr s x f, ty, pos, af, none⟩ :: rest) k al ⟨env, σ, nx⟩ ↔ seen (fadA C.P s f (opv C env x)) (fun v => areg C H tt ops K KP rest (k + 1) al ⟨updo env d v, σ, nx⟩) .mk := areg_fn rfl rfl
@[go_sem ↓] theorem areg_field {s f : Nat} {x : Operand} : areg C H tt ops K KP (⟨d, .field s x f, ty, pos, af, none⟩ :: rest) k al ⟨env, σ, nx⟩ ↔ seen (fieldA C.P s f (opv C env x)) (fun v => areg C H tt ops K KP rest (k + 1) al ⟨updo env d v, σ, nx⟩) .mk := areg_fn rfl rfl
@[go_sem ↓] theorem areg_indexAddr {t : TypeId} {x i : Operand} : areg C H tt ops K KP (⟨d, .indexAddr t x i, ty, pos, af, none⟩ :: rest) k al ⟨env, σ, nx⟩ ↔ seen (idxA C.P t (opv C env x) (opv C env i)) (fun v => areg C H tt ops K KP rest (k + 1) al ⟨updo env d v, σ, nx⟩) .mk := areg_fn rfl rfl
@[go_sem ↓] theorem areg_index {t : TypeId} {x i : Operand} : areg C H tt ops K KP (⟨d, .index t x i, ty, pos, af, none⟩ :: rest) k al ⟨env, σ, nx⟩ ↔ seen (indexA C.P t (opv C env x) (opv C env i)) (fun v => areg C H tt ops K KP rest (k + 1) al ⟨updo env d v, σ, nx⟩) .mk := areg_fn rfl rfl
@[go_sem ↓] theorem areg_slice {t : TypeId} {x : Operand} {lo hi mx : Option Operand} : areg C H tt ops K KP (⟨d, .slice t x lo hi mx, ty, pos, af, none⟩ :: rest) k al ⟨env, σ, nx⟩ ↔ seen (sliceA C.P t (opv C env x) (lo.map (opv C env)) (hi.map (opv C env)) (mx.map (opv C env))) (fun v => areg C H tt ops K KP rest (k + 1) al ⟨updo env d v, σ, nx⟩) .mk := areg_fn rfl rfl
@[go_sem ↓] theorem areg_extract {x : Operand} {i : Nat} : areg C H tt ops K KP (⟨d, .extract x i, ty, pos, af, none⟩ :: rest) k al ⟨env, σ, nx⟩ ↔ seen (extA (opv C env x) i) (fun v => areg C H tt ops K KP rest (k + 1) al ⟨updo env d v, σ, nx⟩) .mk := areg_fn rfl rfl
@[go_sem ↓] theorem areg_typeAssert {x : Operand} {t u : TypeId} {ok : Bool} : areg C H tt ops K KP (⟨d, .typeAssert x t u ok, ty, pos, af, none⟩ :: rest) k al ⟨env, σ, nx⟩ ↔ seen (assertA C.P (opv C env x) u ok) (fun v => areg C H tt ops K KP rest (k + 1) al ⟨updo env d v, σ, nx⟩) .mk := areg_fn rfl rfl
@[go_sem ↓] theorem areg_store {T : TypeId} {a x : Operand} : areg C H tt ops K KP (⟨d, .store T a x, ty, pos, af, none⟩ :: rest) k al ⟨env, σ, nx⟩ ↔ seen3 ((storeA C.P T σ (opv C env a) (opv C env x)).map fun σ' => (.undef, σ', nx)) (fun v σ nx => areg C H tt ops K KP rest (k + 1) al ⟨updo env d v, σ, nx⟩) .mk := areg_eff rfl rfl
@[go_sem ↓] theorem areg_makeSlice {t : TypeId} {l c : Operand} : areg C H tt ops K KP (⟨d, .makeSlice t l c, ty, pos, af, none⟩ :: rest) k al ⟨env, σ, nx⟩ ↔ seen3 (makeA C.P t σ nx (opv C env l) (opv C env c)) (fun v σ nx => areg C H tt ops K KP rest (k + 1) al ⟨updo env d v, σ, nx⟩) .mk := areg_eff rfl rfl
@[go_sem ↓] theorem areg_range {t : TypeId} {x : Operand} : areg C H tt ops K KP (⟨d, .range t x, ty, pos, af, none⟩ :: rest) k al ⟨env, σ, nx⟩ ↔ seen3 (rangeA C.P t σ nx (opv C env x)) (fun v σ nx => areg C H tt ops K KP rest (k + 1) al ⟨updo env d v, σ, nx⟩) .mk := areg_eff rfl rfl
@[go_sem ↓] theorem areg_next {x : Operand} : areg C H tt ops K KP (⟨d, .next x true, ty, pos, af, none⟩ :: rest) k al ⟨env, σ, nx⟩ ↔ seen3 (nextA σ nx (opv C env x)) (fun v σ nx => areg C H tt ops K KP rest (k + 1) al ⟨updo env d v, σ, nx⟩) .mk := areg_eff rfl rfl
@[go_sem ↓] theorem areg_append {as : Array Operand} {ts : Array TypeId} : areg C H tt ops K KP (⟨d, .call ⟨.builtin .append, as, ts⟩, ty, pos, af, none⟩ :: rest) k al ⟨env, σ, nx⟩ ↔
    seen3 (eop C (.call ⟨.builtin .append, as, ts⟩) env σ nx) (fun v σ nx => areg C H tt ops K KP rest (k + 1) al ⟨updo env d v, σ, nx⟩) .mk := areg_eff rfl rfl
@[go_sem] theorem eop_append {as : Array Operand} {t t' : TypeId} {x y : Operand} : eop C (.call ⟨.builtin .append, #[x, y], #[t, t']⟩) env σ nx = appendA C.P t t' σ nx (opv C env x) (opv C env y) := rfl
theorem areg_builtin {b : Builtin} {as : Array Operand} {ts : Array TypeId} (hb : kindOf H ⟨d, .call ⟨.builtin b, as, ts⟩, ty, pos, af, none⟩ = .fn) : areg C H tt ops K KP (⟨d, .call ⟨.builtin b, as, ts⟩, ty, pos, af, none⟩ :: rest) k al ⟨env, σ, nx⟩ ↔
    seen (bfun C.P b ts.toList (as.toList.map (opv C env))) (fun v => areg C H tt ops K KP rest (k + 1) al ⟨updo env d v, σ, nx⟩) .mk := areg_fn hb rfl
@[go_sem ↓] theorem areg_len {as : Array Operand} {ts : Array TypeId} : areg C H tt ops K KP (⟨d, .call ⟨.builtin .len, as, ts⟩, ty, pos, af, none⟩ :: rest) k al ⟨env, σ, nx⟩ ↔
    seen (bfun C.P .len ts.toList (as.toList.map (opv C env))) (fun v => areg C H tt ops K KP rest (k + 1) al ⟨updo env d v, σ, nx⟩) .mk := areg_builtin rfl
@[go_sem ↓] theorem areg_max {as : Array Operand} {ts : Array TypeId} : areg C H tt ops K KP (⟨d, .call ⟨.builtin .max, as, ts⟩, ty, pos, af, none⟩ :: rest) k al ⟨env, σ, nx⟩ ↔
    seen (bfun C.P .max ts.toList (as.toList.map (opv C env))) (fun v => areg C H tt ops K KP rest (k + 1) al ⟨updo env d v, σ, nx⟩) .mk := areg_builtin rfl
@[go_sem ↓] theorem areg_min {as : Array Operand} {ts : Array TypeId} : areg C H tt ops K KP (⟨d, .call ⟨.builtin .min, as, ts⟩, ty, pos, af, none⟩ :: rest) k al ⟨env, σ, nx⟩ ↔
    seen (bfun C.P .min ts.toList (as.toList.map (opv C env))) (fun v => areg C H tt ops K KP rest (k + 1) al ⟨updo env d v, σ, nx⟩) .mk := areg_builtin rfl
/-- A call of a closure or a named function. -/
def callA (C : Cx) (own tot : Bool) (f : AV) (args : List AV) (σ : Sto) (nx : Nat) (K KP : AV → Sto → Nat → Prop) (t : Tok K) (t' : Tok KP) : Prop :=
  match f with
  | .fn (.func g) first caps => CallP C own tot g (first ++ (args ++ caps)) σ nx K KP
  | _ => False
@[go_sem] theorem callA_fn {own tot : Bool} {g : FuncId} {first caps args : List AV} {K KP : AV → Sto → Nat → Prop} {t : Tok K} {t' : Tok KP} : callA C own tot (.fn (.func g) first caps) args σ nx K KP t t' ↔ callP C own tot g (first ++ (args ++ caps)) σ nx K KP t t' := Iff.rfl
@[go_sem ↓] theorem areg_call {f : Operand} {as : Array Operand} {ts : Array TypeId} : areg C H tt ops K KP (⟨d, .call ⟨.value f, as, ts⟩, ty, pos, af, none⟩ :: rest) k al ⟨env, σ, nx⟩ ↔
    callA C (dstIn H.ac d) (tt k) (opv C env f) (as.toList.map (opv C env)) σ nx (fun v σ nx => areg C H tt ops K KP rest (k + 1) al ⟨updo env d v, σ, nx⟩) KP .mk .mk := by
  rw [areg_one rfl, aop_call rfl rfl]
  simp only [isAlloc, Bool.false_eq_true, if_false, calleeA]
  constructor
  · rintro ⟨g, args, h1, h2⟩
    split at h1
    · rename_i g' first caps hf; cases h1; rw [hf]; exact h2
    · cases h1
  · intro h
    unfold callA at h
    split at h
    · rename_i g first caps hf; rw [hf]; exact ⟨g, _, rfl, h⟩
    · exact h.elim
@[go_sem ↓] theorem areg_panic {x : Operand} : areg C H tt ops K KP (⟨d, .panic x, ty, pos, af, none⟩ :: rest) k al ⟨env, σ, nx⟩ ↔ ∃ t v, opv C env x = .iface t v ∧ KP (.iface t v) σ nx := by
  rw [areg_one rfl]
  unfold aop
  rfl
end

/-! ### Where values lie -/
@[go_sem ↓] theorem opv_tmp (C : Cx) (env : Nat → AV) (t : Nat) : opv C env (.tmp t) = env t := rfl
@[go_sem ↓] theorem opv_const (C : Cx) (env : Nat → AV) (v : Value) : opv C env (.const v) = ofVal v := rfl
@[go_sem ↓] theorem opv_global (C : Cx) (env : Nat → AV) (g : Nat) : opv C env (.global g) = C.gl g := rfl
@[go_sem ↓] theorem opv_func (C : Cx) (env : Nat → AV) (f : FuncId) : opv C env (.func f) = .fn (.func f) [] [] := rfl
@[go_sem] theorem ofVal_int (k : IntKind) (n : Int) : ofVal (.int k n) = .int k n := rfl
@[go_sem] theorem ofVal_bool (b : Bool) : ofVal (.bool b) = .bool b := rfl
@[go_sem] theorem ofVal_slice (a : Option Addr) (l c : Nat) : ofVal (.slice a l c) = .base (.slice a l c) := rfl
@[go_sem] theorem ofVal_pointer (a : Option Addr) : ofVal (.pointer a) = .base (.pointer a) := rfl
@[go_sem] theorem ofVal_agg (a : Array Value) : ofVal (.agg a) = .base (.agg a) := rfl
@[go_sem] theorem ofVal_nilIface : ofVal .nilIface = .base .nilIface := rfl
@[go_sem] theorem ofVal_nilFunc : ofVal .nilFunc = .base .nilFunc := rfl
@[go_sem] theorem ofVal_map (a : Option Nat) : ofVal (.map a) = .base (.map a) := rfl
@[go_sem ↓] theorem updo_none (env : Nat → AV) (v : AV) : updo env none v = env := rfl
@[go_sem ↓] theorem updo_some (env : Nat → AV) (d t : Nat) (v : AV) : updo env (some d) v t = if t = d then v else env t := rfl
@[go_sem ↓] theorem argEnv_zero (a : AV) (l : List AV) : argEnv (a :: l) 0 = a := rfl
theorem argEnv_succ (a : AV) (l : List AV) (n : Nat) : argEnv (a :: l) (n + 1) = argEnv l n := rfl
@[go_sem ↓] theorem argEnv_one (a b : AV) (l : List AV) : argEnv (a :: b :: l) 1 = b := rfl
@[go_sem ↓] theorem argEnv_two (a b c : AV) (l : List AV) : argEnv (a :: b :: c :: l) 2 = c := rfl
@[go_sem ↓] theorem argEnv_three (a b c d : AV) (l : List AV) : argEnv (a :: b :: c :: d :: l) 3 = d := rfl
def boolW (w : Bool) : AV → Option Bool
  | .bool b => some (b == w)
  | .base (.tuple _) => some false
  | _ => none
def gdv (env : Nat → AV) (w : Bool) : List Oper → Nat → Option Bool
  | [], _ => some false
  | o :: _, 0 => (match o.dst with
    | some t => boolW w (env t)
    | none => some false)
  | _ :: r, j + 1 => gdv env w r j
theorem gdv_get (env : Nat → AV) (w : Bool) : ∀ (l : List Oper) (j : Nat), gdv env w l j = match (l[j]?).bind (·.dst) with
    | some t => boolW w (env t)
    | none => some false
  | [], _ => rfl
  | o :: _, 0 => rfl
  | _ :: r, j + 1 => by
    rw [gdv, gdv_get env w r j]
    simp only [List.getElem?_cons_succ]
@[go_sem ↓] theorem wantedA_some {ops : List Oper} {env : Nat → AV} {d : Option Tmp} {op : Op} {ty : TypeId} {pos : String} {af : Array Edge} {j : Nat} {w : Bool} : wantedA ops.toArray env ⟨d, op, ty, pos, af, some (j, w)⟩ = gdv env w ops j := by
  unfold wantedA
  rw [gdv_get]
  simp only [List.getElem?_toArray]
  cases (ops[j]?).bind (·.dst) <;> rfl
@[go_sem ↓] theorem gdv_zero (env : Nat → AV) (w : Bool) (t : Tmp) (op : Op) (ty : TypeId) (pos : String) (af : Array Edge) (g : Option (Nat × Bool)) (r : List Oper) : gdv env w (⟨some t, op, ty, pos, af, g⟩ :: r) 0 = boolW w (env t) := rfl
@[go_sem ↓] theorem gdv_succ (env : Nat → AV) (w : Bool) (o : Oper) (j : Nat) (r : List Oper) : gdv env w (o :: r) (j + 1) = gdv env w r j := rfl
@[go_sem] theorem boolW_bool (w b : Bool) : boolW w (.bool b) = some (b == w) := rfl
@[go_sem] theorem boolW_undef (w : Bool) (vs : Array Value) : boolW w (.base (.tuple vs)) = some false := rfl

/-! ### Code -/
section
variable {C : Cx} {n : Nat} {ds : List Deferred} {Q : AExit → St → Prop} {s : St} {id : Nat} {ops : Array Oper} {y : Code} {objs : Sto}
/-- A region, and what stands behind it, hidden. -/
theorem aw_sreg (H : Hints) (hd : dstOK n ops = true) (ho : allocObjs C.P ops.toList s.nx = some objs)
    (h : ∀ (K : St → Prop) (KP : AV → Sto → Nat → Prop), (∀ s, aw C n ds y Q s → K s) → (∀ v σ nx, (∀ env, Q (.pan v) ⟨env, σ, nx⟩) → KP v σ nx) →
      areg C H (fun _ => true) ops K KP ops.toList 0 (s.σ.length, s.nx) ⟨s.env, s.σ ++ objs, s.nx + objs.length⟩) : aw C n ds (.seq (.region id ops false) y) Q s :=
  aw_seq (aw_region hd ho (h _ _ (fun _ h => h) (fun _ _ _ h env => h env)))
theorem aw_lreg (H : Hints) (hd : dstOK n ops = true) (ho : allocObjs C.P ops.toList s.nx = some objs)
    (h : ∀ (K : St → Prop) (KP : AV → Sto → Nat → Prop), (∀ s, Q .normal s → K s) → (∀ v σ nx, (∀ env, Q (.pan v) ⟨env, σ, nx⟩) → KP v σ nx) →
      areg C H (fun _ => true) ops K KP ops.toList 0 (s.σ.length, s.nx) ⟨s.env, s.σ ++ objs, s.nx + objs.length⟩) : aw C n ds (.region id ops false) Q s :=
  aw_region hd ho (h _ _ (fun _ h => h) (fun _ _ _ h env => h env))
theorem aw_sdraw (H : Hints) (tl ms : List Nat) (hm : C.P.follows .mixedOrders = true) (hB : drawOK C.P H (fun i => tl.contains i) ops ms = true) (hd : dstOK n ops = true) (ho : allocObjs C.P ops.toList s.nx = some objs)
    (h : ∀ (K : St → Prop) (KP : AV → Sto → Nat → Prop), (∀ s, aw C n ds y Q s → K s) → (∀ v σ nx, (∀ env, Q (.pan v) ⟨env, σ, nx⟩) → KP v σ nx) →
      areg C H (fun i => tl.contains i) ops K KP ops.toList 0 (s.σ.length, s.nx) ⟨s.env, s.σ ++ objs, s.nx + objs.length⟩) : aw C n ds (.seq (.region id ops true) y) Q s :=
  aw_seq (aw_draw hm hB hd ho (h _ _ (fun _ h => h) (fun _ _ _ h env => h env)))
theorem aw_ldraw (H : Hints) (tl ms : List Nat) (hm : C.P.follows .mixedOrders = true) (hB : drawOK C.P H (fun i => tl.contains i) ops ms = true) (hd : dstOK n ops = true) (ho : allocObjs C.P ops.toList s.nx = some objs)
    (h : ∀ (K : St → Prop) (KP : AV → Sto → Nat → Prop), (∀ s, Q .normal s → K s) → (∀ v σ nx, (∀ env, Q (.pan v) ⟨env, σ, nx⟩) → KP v σ nx) →
      areg C H (fun i => tl.contains i) ops K KP ops.toList 0 (s.σ.length, s.nx) ⟨s.env, s.σ ++ objs, s.nx + objs.length⟩) : aw C n ds (.region id ops true) Q s :=
  aw_draw hm hB hd ho (h _ _ (fun _ h => h) (fun _ _ _ h env => h env))

theorem CallP.ret {own tot : Bool} {g : FuncId} {args : List AV} {σ : Sto} {nx : Nat} {K KP : AV → Sto → Nat → Prop} {r : AV} (h : PCall C g args (· = .ret r)) (hf : RFL args) (hk : K r σ nx) : CallP C own tot g args σ nx K KP :=
  ⟨_, h.acall hf σ nx, (by rintro v σ' nx' ⟨hq, rfl, rfl⟩; cases hq; exact hk), (by rintro v σ' nx' ⟨hq, _, _⟩; cases hq), .inr ⟨r, σ, nx, rfl, rfl, rfl⟩, .inr ⟨hf, _, h, fun _ _ _ => Iff.rfl⟩⟩
theorem CallP.pan {own : Bool} {g : FuncId} {args : List AV} {σ : Sto} {nx : Nat} {K KP : AV → Sto → Nat → Prop} {r : AV} (h : PCall C g args (· = .pan r)) (hf : RFL args) (hk : KP r σ nx) : CallP C own true g args σ nx K KP :=
  ⟨_, h.acall hf σ nx, (by rintro v σ' nx' ⟨hq, _, _⟩; cases hq), (by rintro v σ' nx' ⟨hq, rfl, rfl⟩; cases hq; exact hk), .inl rfl, .inr ⟨hf, _, h, fun _ _ _ => Iff.rfl⟩⟩
end
end Go.Ab
