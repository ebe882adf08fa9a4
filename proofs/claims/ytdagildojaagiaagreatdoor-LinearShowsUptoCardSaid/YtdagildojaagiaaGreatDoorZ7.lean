/-
  A STATE TOLD BY PLAIN DATA is the state: places and names are told anew.
-/
import Derived.Test.YtdagildojaagiaaGreatDoorZ6
import Derived.Test.YtdagildojaagiaaGreatDoorProg
import Derived.Test.YtdagildojaagiaaGreatDoorZ5
set_option linter.unusedVariables false
set_option linter.unusedSimpArgs false
namespace Go.Ab
open Go Go.RowKit
section
variable {C : Cx} {n : Nat} {ds : List Deferred} {Q : AExit → St → Prop} {s : St} {id : Nat} {ops : Array Oper} {y : Code} {objs : Sto}
end
@[go_sem] theorem CPost_nil_ret (C : Cx) (R : Option AV → Sto → Nat → Prop) (env : Nat → AV) (σ : Sto) (nx : Nat) : CPost C [] R .ret ⟨env, σ, nx⟩ ↔ R none σ nx := ⟨fun h => h.2, fun h => ⟨⟨.tup [], rfl⟩, h⟩⟩
@[go_sem] theorem CPost_nil_normal (C : Cx) (R : Option AV → Sto → Nat → Prop) (env : Nat → AV) (σ : Sto) (nx : Nat) : CPost C [] R .normal ⟨env, σ, nx⟩ ↔ R none σ nx := ⟨fun h => h.2, fun h => ⟨⟨.tup [], rfl⟩, h⟩⟩
@[go_sem] theorem DPost_ret (C : Cx) (rs : List ResultVar) (Q : AOut → Sto → Nat → Prop) (dl : List (FuncId × List AV)) (s : St) : DPost C rs Q .ret dl s ↔ LeavesA C rs Q dl none s := Iff.rfl
@[go_sem] theorem DPost_normal (C : Cx) (rs : List ResultVar) (Q : AOut → Sto → Nat → Prop) (dl : List (FuncId × List AV)) (s : St) : DPost C rs Q .normal dl s ↔ LeavesA C rs Q dl none s := Iff.rfl
@[go_sem] theorem DPost_pan (C : Cx) (rs : List ResultVar) (Q : AOut → Sto → Nat → Prop) (dl : List (FuncId × List AV)) (s : St) (v : AV) : DPost C rs Q (.pan v) dl s ↔ LeavesA C rs Q dl (some v) s := Iff.rfl
def isIfcT (P : Program) (t : TypeId) : Bool := match P.underlying t with | some (.interface _) => true | _ => false
def isFncT (P : Program) (t : TypeId) : Bool := match P.underlying t with | some (.func _ _ _) => true | _ => false
@[go_sem high] theorem nilTest_iface {P : Program} {t : TypeId} (h : isIfcT P t = true) (a : TypeId) (v : AV) : nilTest P t (.iface a v) = some false := by
  unfold isIfcT at h
  unfold nilTest
  split at h
  ·rename_i m e; rw [e]; rfl
  ·cases h
@[go_sem high] theorem nilTest_nilIface {P : Program} {t : TypeId} (h : isIfcT P t = true) : nilTest P t (.base .nilIface) = some true := by
  unfold isIfcT at h
  unfold nilTest
  split at h
  ·rename_i m e; rw [e]; rfl
  ·cases h
@[go_sem high] theorem nilTest_fn {P : Program} {t : TypeId} (h : isFncT P t = true) (f : Fn) (a c : List AV) : nilTest P t (.fn f a c) = some false := by
  unfold isFncT at h
  unfold nilTest
  split at h
  ·rename_i m e; rw [e]; rfl
  ·cases h
@[go_sem high] theorem nilTest_nilFunc {P : Program} {t : TypeId} (h : isFncT P t = true) : nilTest P t (.base .nilFunc) = some true := by
  unfold isFncT at h
  unfold nilTest
  split at h
  ·rename_i m e; rw [e]; rfl
  ·cases h
@[go_sem] theorem sto_assoc (a b c : Sto) : a ++ b ++ c = a ++ (b ++ c) := List.append_assoc a b c
theorem sget_appk (σ l : Sto) (k n : Nat) : sget (σ ++ l) (σ.length + k) n = sget l k n := by unfold sget; rw [List.getElem?_append_right (by omega), Nat.add_sub_cancel_left]
@[go_sem] theorem sget_app0 (σ l : Sto) (n : Nat) : sget (σ ++ l) (σ.length) n = sget l 0 n := sget_appk σ l 0 n
@[go_sem] theorem sget_app1 (σ l : Sto) (n : Nat) : sget (σ ++ l) (σ.length + 1) n = sget l 1 n := sget_appk σ l 1 n
@[go_sem] theorem sget_app2 (σ l : Sto) (n : Nat) : sget (σ ++ l) (σ.length + 1 + 1) n = sget l 2 n := sget_appk σ l 2 n
@[go_sem] theorem sget_app3 (σ l : Sto) (n : Nat) : sget (σ ++ l) (σ.length + 1 + 1 + 1) n = sget l 3 n := sget_appk σ l 3 n
@[go_sem] theorem sget_app4 (σ l : Sto) (n : Nat) : sget (σ ++ l) (σ.length + 1 + 1 + 1 + 1) n = sget l 4 n := sget_appk σ l 4 n
@[go_sem] theorem set_app1 (σ l : Sto) (x : Nat × AObj) : (σ ++ l).set (σ.length + 1) x = σ ++ l.set 1 x := by rw [List.set_append_right _ _ (by omega)]; congr 2; omega
@[go_sem] theorem set_app2 (σ l : Sto) (x : Nat × AObj) : (σ ++ l).set (σ.length + 1 + 1) x = σ ++ l.set 2 x := by rw [List.set_append_right _ _ (by omega)]; congr 2; omega
@[go_sem] theorem set_app3 (σ l : Sto) (x : Nat × AObj) : (σ ++ l).set (σ.length + 1 + 1 + 1) x = σ ++ l.set 3 x := by rw [List.set_append_right _ _ (by omega)]; congr 2; omega
@[go_sem] theorem set_app4 (σ l : Sto) (x : Nat × AObj) : (σ ++ l).set (σ.length + 1 + 1 + 1 + 1) x = σ ++ l.set 4 x := by rw [List.set_append_right _ _ (by omega)]; congr 2; omega
end Go.Ab

namespace Go.Ab
open Go Go.RowKit
def Agr (D : List Nat) (a a' : Act) : Prop := ∀ t, t ∉ D → a'.tmps.getD t undef = a.tmps.getD t undef
theorem Agr.put {D : List Nat} {a a' : Act} (h : Agr D a a') {dst : Option Tmp} (hd : ∀ d, dst = some d → d ∈ D) (v : Value) : Agr D a (a'.put dst v) := by
 intro t ht
 rw [← h t ht]
 cases dst with
 | none => rfl
 | some d =>
  have hne : d ≠ t := fun e => ht (e ▸ hd d rfl)
  simp only [Act.put, Array.getD_eq_getD_getElem?]
  rw [Array.getElem?_setIfInBounds_ne hne]
def QF (D : List Nat) (a₀ : Act) (Q : Exit → Act → World → Prop) : Exit → Act → World → Prop := fun e a w => Q e a w ∧ (e ≠ .outgrown → Agr D a₀ a)
section
variable {P : Program} {ops : Array Oper} {Q : Exit → Act → World → Prop} {D : List Nat} {a₀ : Act}
theorem QF.lets (h : LetsOut Q) : LetsOut (QF D a₀ Q) := let ⟨a, w, h⟩ := h; ⟨a, w, h, fun h => absurd rfl h⟩
theorem wpOp_frame (hD : ∀ (i : Nat) (o : Oper) (d : Nat), ops[i]? = some o → o.dst = some d → d ∈ D) {i : Nat} {K K' : Act → World → Prop} {a : Act} {w : World} (hag : Agr D a₀ a) (h : wpOp P ops Q i K a w) (hk : ∀ a' w', Agr D a₀ a' → K a' w' → K' a' w') :
  wpOp P ops (QF D a₀ Q) i K' a w := by
 unfold wpOp at h ⊢
 split
 ·rename_i e; rw [e] at h; exact hk _ _ hag h
 ·rename_i o e
  rw [e] at h
  simp only at h
  have hd := fun d => hD i o d e
  split
  ·rename_i hw
   rw [if_pos hw] at h
   rcases h with h | ⟨h1, h2⟩
   ·refine .inl ?_
    unfold Oper.wp at h ⊢
    generalize (execOp a.eval o).run P w = r at h ⊢
    unfold Oper.upon at h ⊢
    split at h
    ·exact hk _ _ (hag.put hd _) h
    ·exact hk _ _ (hag.put hd _) h
    ·exact hk _ _ (Agr.put (a' := { a with defers := _ :: a.defers }) hag hd _) h
    ·refine h.mono fun e w' he => ?_
     cases e with
     | returned v => exact hk _ _ (hag.put hd _) he
     | panicked ch => exact ⟨he, fun _ => hag⟩
     | outgrown => exact QF.lets he
    ·exact Rows.mono h fun v w' he => hk _ _ (hag.put hd _) he
    ·exact ⟨h, fun _ => hag⟩
    ·exact h.elim
   ·exact .inr ⟨h1, QF.lets h2⟩
  ·rename_i hw
   rw [if_neg hw] at h
   exact hk _ _ (hag.put hd _) h
theorem wpOps_frame (hD : ∀ (i : Nat) (o : Oper) (d : Nat), ops[i]? = some o → o.dst = some d → d ∈ D) : ∀ (l : List Nat) (a : Act) (w : World), Agr D a₀ a → wpOps P ops Q l a w → wpOps P ops (QF D a₀ Q) l a w
 | [], a, w, hag, h => ⟨h, fun _ => hag⟩
 | i :: rest, a, w, hag, h => by
  rw [wpOps_cons] at h ⊢
  exact wpOp_frame hD hag h fun a' w' ha hh => wpOps_frame hD rest a' w' ha hh
end
@[go_sem] theorem leavesA_nil (C : Cx) (rs : List ResultVar) (Q : AOut → Sto → Nat → Prop) (env : Nat → AV) (σ : Sto) (nx : Nat) : LeavesA C rs Q [] none ⟨env, σ, nx⟩ ↔ afin σ nx Q (resA C.P rs ⟨env, σ, nx⟩) := (afin_iff _ _ _ _).symm
@[go_sem] theorem leavesA_pan (C : Cx) (rs : List ResultVar) (Q : AOut → Sto → Nat → Prop) (v : AV) (env : Nat → AV) (σ : Sto) (nx : Nat) : LeavesA C rs Q [] (some v) ⟨env, σ, nx⟩ ↔ Q (.pan v) σ nx := Iff.rfl
attribute [go_sem] Int.cast_ofNat_Int Int.reduceNeg
def dstsOf (ops : Array Oper) : List Nat := ops.toList.filterMap (·.dst)
theorem dstsOf_spec (ops : Array Oper) : ∀ (i : Nat) (o : Oper) (d : Nat), ops[i]? = some o → o.dst = some d → d ∈ dstsOf ops := fun i o d hi hd =>
 List.mem_filterMap.2 ⟨o, List.mem_of_getElem? (by simpa using hi), hd⟩
section
variable {C : Cx} {n : Nat} {ds : List Deferred} {Q : AExit → St → Prop} {s : St} {id : Nat} {ops : Array Oper} {y : Code} {objs : Sto} {H : Hints}
def QE (D : List Nat) (s : St) (Q : AExit → St → Prop) : AExit → St → Prop
 | .pan v, s' => ∀ env, (∀ t, t ∉ D → env t = s.env t) → Q (.pan v) ⟨env, s'.σ, s'.nx⟩
 | e, s' => Q e s'
theorem QE_done {B : Base} {kn : Kn} {m : Mp} {act : Act} {D : List Nat} (h1 : RelEnv kn m s.env n act) (h3 : ∀ kn' m', KnLe kn kn' → Keep m s.σ s.nx m' s.σ s.nx → True) {e : Exit} {act' : Act} {w w' : World} (hI : Inv C B kn m s.σ s.nx w)
  (h : QF D act (fun e act' w' => ∃ ae s' kn' m', RelExit kn' m' ae e ∧ RS C B n ds kn m s.σ s.nx kn' m' s' act' w' ∧ QE D s Q ae s') e act' w') : ∃ ae s' kn' m', RelExit kn' m' ae e ∧ RS C B n ds kn m s.σ s.nx kn' m' s' act' w' ∧ Q ae s' := by
 obtain ⟨⟨ae, s', kn', m', hx, hR, hq⟩, hag⟩ := h
 cases ae with
 | pan v =>
  have hne : e ≠ .outgrown := by rintro rfl; simp [RelExit] at hx
  have hag := hag hne
  refine ⟨.pan v, ⟨fun t => if t ∈ D then s'.env t else s.env t, s'.σ, s'.nx⟩, kn', m', hx, ⟨⟨hR.env.size, fun t => ?_⟩, hR.defs, hR.inv, hR.knle, hR.keep⟩, hq _ fun t ht => if_neg ht⟩
  by_cases ht : t ∈ D
  ·simp only [if_pos ht]; exact hR.env.tmp t
  ·simp only [if_neg ht]; rw [hag t ht]; exact (h1.tmp t).mono hR.knle (hR.keep.mple hI)
 | normal => exact ⟨_, s', kn', m', hx, hR, hq⟩
 | exit i => exact ⟨_, s', kn', m', hx, hR, hq⟩
 | goto i => exact ⟨_, s', kn', m', hx, hR, hq⟩
 | ret => exact ⟨_, s', kn', m', hx, hR, hq⟩
theorem aw_regionE (hd : dstOK n ops = true) (ho : allocObjs C.P ops.toList s.nx = some objs)
  (h : areg C H (fun _ => true) ops (Q .normal) (fun v σ nx => ∀ env, (∀ t, t ∉ dstsOf ops → env t = s.env t) → Q (.pan v) ⟨env, σ, nx⟩) ops.toList 0 (s.σ.length, s.nx) ⟨s.env, s.σ ++ objs, s.nx + objs.length⟩) : aw C n ds (.region id ops false) Q s := by
 intro B kn m act w h1 h2 h3
 obtain ⟨hI', hk'⟩ := h3.ahead ho
 refine wp_mono (Q := QF (dstsOf ops) act (fun e act' w' => ∃ ae s' kn' m', RelExit kn' m' ae e ∧ RS C B n ds kn m s.σ s.nx kn' m' s' act' w' ∧ QE (dstsOf ops) s Q ae s')) (wp_region (wpOps_frame (dstsOf_spec ops) _ _ _ (fun _ _ => rfl) ?_)) (fun e a w' hq => QE_done h1 (fun _ _ _ _ => trivial) h3 hq)
 have hs := aseq_of_areg (ops := ops) (p₀ := s.σ.length) (n₀ := s.nx) ops.toList 0 ⟨s.env, s.σ ++ objs, s.nx + objs.length⟩ (fun j => by simp) (by simpa [rk] using h)
 have hrange : List.range' 0 ops.toList.length = List.range ops.size := by rw [List.range_eq_range']; simp
 rw [hrange] at hs
 refine aseq_sound (KP := fun v σ nx => ∀ env, (∀ t, t ∉ dstsOf ops → env t = s.env t) → Q (.pan v) ⟨env, σ, nx⟩) (K := Q .normal) (B := B) (n := n) (ds := ds) (kn₀ := kn) (m₀ := m) (σ₀ := s.σ) (nx₀ := s.nx) h3.lt (dstOK_sound hd) (fun s' kn' m' act' w' hK hR => ⟨.normal, s', kn', m', trivial, hR, hK⟩)
  (fun v u env' kn' m' σ' nx' act' w' hKP hv hR => ⟨.pan v, ⟨env', σ', nx'⟩, kn', m', ⟨u, rfl, hv⟩, hR, hKP⟩) (List.range ops.size) (fun _ => false) ⟨s.env, s.σ ++ objs, s.nx + objs.length⟩ kn m act w List.nodup_range (fun _ _ => rfl) ⟨⟨h1, h2, hI', KnLe.refl _, hk'⟩, ?_⟩ hs
 intro j o T hj hT _
 obtain ⟨z, hz, hg⟩ := allocObjs_get ho (j := j) (by simpa using hj) hT
 refine ⟨h3.dom _ (Nat.le_add_right _ _), ?_, Nat.le_add_right _ _, z, hz, ?_⟩
 ·have := (List.getElem?_eq_some_iff.1 hg).1; simp; omega
 ·rw [List.getElem?_append_right (Nat.le_add_right _ _), Nat.add_sub_cancel_left]; exact hg
theorem aw_sregE (H : Hints) (hd : dstOK n ops = true) (ho : allocObjs C.P ops.toList s.nx = some objs)
  (h : ∀ (K : St → Prop) (KP : AV → Sto → Nat → Prop), (∀ s, aw C n ds y Q s → K s) → (∀ v σ nx, (∀ env, (∀ t, t ∉ dstsOf ops → env t = s.env t) → Q (.pan v) ⟨env, σ, nx⟩) → KP v σ nx) →
   areg C H (fun _ => true) ops K KP ops.toList 0 (s.σ.length, s.nx) ⟨s.env, s.σ ++ objs, s.nx + objs.length⟩) : aw C n ds (.seq (.region id ops false) y) Q s :=
 aw_seq (aw_regionE hd ho (h _ _ (fun _ h => h) (fun _ _ _ h env => h env)))
end
end Go.Ab

namespace Go.Ab
open Go Go.RowKit
def mask (lo hi : Nat) (env junk : Nat → AV) : Nat → AV := fun t => if lo ≤ t ∧ t ≤ hi then junk t else env t
@[go_sem] theorem mask_eq (lo hi : Nat) (env junk : Nat → AV) (t : Nat) : mask lo hi env junk t = if lo ≤ t ∧ t ≤ hi then junk t else env t := rfl
attribute [go_sem] true_and and_true and_self false_and and_false
@[go_sem] theorem ite_avbool (p : Prop) [Decidable p] (x y : Bool) : (if p then AV.bool x else AV.bool y) = AV.bool (if p then x else y) := by split <;> rfl
section
variable {C : Cx} {n : Nat} {ds : List Deferred} {Q : AExit → St → Prop} {s : St} {id : Nat} {ops : Array Oper} {y : Code} {H : Hints}
end
attribute [go_sem] Nat.reduceEqDiff Nat.reduceLT Nat.reduceAdd Nat.reduceMul Nat.reduceLeDiff Int.reduceLE Int.reduceLT Int.reduceToNat Int.reduceEq
end Go.Ab

set_option maxRecDepth 100000
namespace Go.Ab
open Go Go.Proofs
@[go_sem] theorem aggT_103 : aggT Tryz.prog 103 = some false := by kernel_rfl
@[go_sem] theorem aggT_104 : aggT Tryz.prog 104 = some false := by kernel_rfl
@[go_sem] theorem aggT_124 : aggT Tryz.prog 124 = some true := by kernel_rfl
@[go_sem] theorem aggT_134 : aggT Tryz.prog 134 = some true := by kernel_rfl
@[go_sem] theorem aggT_171 : aggT Tryz.prog 171 = some false := by kernel_rfl
@[go_sem] theorem aggT_184 : aggT Tryz.prog 184 = some false := by kernel_rfl
@[go_sem] theorem aggT_216 : aggT Tryz.prog 216 = some true := by kernel_rfl
@[go_sem] theorem aggT_23 : aggT Tryz.prog 23 = some false := by kernel_rfl
@[go_sem] theorem aggT_234 : aggT Tryz.prog 234 = some true := by kernel_rfl
@[go_sem] theorem aggT_24 : aggT Tryz.prog 24 = some false := by kernel_rfl
@[go_sem] theorem aggT_242 : aggT Tryz.prog 242 = some false := by kernel_rfl
@[go_sem] theorem aggT_26 : aggT Tryz.prog 26 = some true := by kernel_rfl
@[go_sem] theorem aggT_263 : aggT Tryz.prog 263 = some false := by kernel_rfl
@[go_sem] theorem aggT_267 : aggT Tryz.prog 267 = some false := by kernel_rfl
@[go_sem] theorem aggT_268 : aggT Tryz.prog 268 = some false := by kernel_rfl
@[go_sem] theorem aggT_3 : aggT Tryz.prog 3 = some false := by kernel_rfl
@[go_sem] theorem aggT_30 : aggT Tryz.prog 30 = some false := by kernel_rfl
@[go_sem] theorem aggT_320 : aggT Tryz.prog 320 = some false := by kernel_rfl
@[go_sem] theorem aggT_323 : aggT Tryz.prog 323 = some false := by kernel_rfl
@[go_sem] theorem aggT_33 : aggT Tryz.prog 33 = some false := by kernel_rfl
@[go_sem] theorem aggT_4 : aggT Tryz.prog 4 = some false := by kernel_rfl
@[go_sem] theorem aggT_5 : aggT Tryz.prog 5 = some false := by kernel_rfl
@[go_sem] theorem aggT_61 : aggT Tryz.prog 61 = some false := by kernel_rfl
@[go_sem] theorem aggT_63 : aggT Tryz.prog 63 = some true := by kernel_rfl
@[go_sem] theorem aggT_64 : aggT Tryz.prog 64 = some false := by kernel_rfl
@[go_sem] theorem aggT_66 : aggT Tryz.prog 66 = some true := by kernel_rfl
@[go_sem] theorem aggT_79 : aggT Tryz.prog 79 = some false := by kernel_rfl
@[go_sem] theorem aggT_85 : aggT Tryz.prog 85 = some true := by kernel_rfl
@[go_sem] theorem aggT_88 : aggT Tryz.prog 88 = some false := by kernel_rfl
@[go_sem] theorem aggT_9 : aggT Tryz.prog 9 = some false := by kernel_rfl
@[go_sem] theorem aggT_91 : aggT Tryz.prog 91 = some false := by kernel_rfl
@[go_sem] theorem aggT_92 : aggT Tryz.prog 92 = some false := by kernel_rfl
@[go_sem] theorem aggT_96 : aggT Tryz.prog 96 = some true := by kernel_rfl
@[go_sem] theorem arrT_216 : arrT Tryz.prog 216 = some (256, 4, 1) := by kernel_rfl
@[go_sem] theorem arrT_234 : arrT Tryz.prog 234 = some (256, 5, 1) := by kernel_rfl
@[go_sem] theorem arrT_235 : arrT Tryz.prog 235 = some (256, 5, 1) := by kernel_rfl
@[go_sem] theorem arrT_237 : arrT Tryz.prog 237 = some (256, 104, 1) := by kernel_rfl
@[go_sem] theorem arrT_289 : arrT Tryz.prog 289 = some (256, 3, 1) := by kernel_rfl
@[go_sem] theorem arrT_299 : arrT Tryz.prog 299 = some (32, 5, 1) := by kernel_rfl
@[go_sem] theorem arrT_300 : arrT Tryz.prog 300 = some (64, 5, 1) := by kernel_rfl
@[go_sem] theorem arrT_97 : arrT Tryz.prog 97 = some (2, 3, 1) := by kernel_rfl
@[go_sem] theorem bldT_124 : bldT Tryz.prog 124 = some [(0, 1), (1, 4)] := by kernel_rfl
@[go_sem] theorem bldT_132 : bldT Tryz.prog 132 = some [(0, 1), (1, 1)] := by kernel_rfl
@[go_sem] theorem bldT_134 : bldT Tryz.prog 134 = some [(0, 1), (1, 4)] := by kernel_rfl
@[go_sem] theorem bldT_142 : bldT Tryz.prog 142 = some [] := by kernel_rfl
@[go_sem] theorem bldT_186 : bldT Tryz.prog 186 = some [(0, 3), (3, 1), (4, 1)] := by kernel_rfl
@[go_sem] theorem bldT_239 : bldT Tryz.prog 239 = some [(0, 256), (256, 1)] := by kernel_rfl
@[go_sem] theorem bldT_26 : bldT Tryz.prog 26 = some [(0, 1), (1, 1), (2, 1), (3, 1)] := by kernel_rfl
@[go_sem] theorem bldT_266 : bldT Tryz.prog 266 = some [(0, 1), (1, 1)] := by kernel_rfl
@[go_sem] theorem bldT_270 : bldT Tryz.prog 270 = some [(0, 1), (1, 1), (2, 1), (3, 1), (4, 1)] := by kernel_rfl
@[go_sem] theorem bldT_291 : bldT Tryz.prog 291 = some [(0, 1), (1, 256), (257, 1)] := by kernel_rfl
@[go_sem] theorem bldT_331 : bldT Tryz.prog 331 = some [(0, 1)] := by kernel_rfl
@[go_sem] theorem bldT_63 : bldT Tryz.prog 63 = some [(0, 1), (1, 1)] := by kernel_rfl
@[go_sem] theorem bldT_66 : bldT Tryz.prog 66 = some [(0, 1), (1, 1)] := by kernel_rfl
@[go_sem] theorem bldT_81 : bldT Tryz.prog 81 = some [(0, 1), (1, 1), (2, 1), (3, 1), (4, 1)] := by kernel_rfl
@[go_sem] theorem bldT_85 : bldT Tryz.prog 85 = some [(0, 1), (1, 4)] := by kernel_rfl
@[go_sem] theorem bldT_94 : bldT Tryz.prog 94 = some [(0, 1), (1, 1), (2, 1), (3, 1), (4, 1), (5, 1)] := by kernel_rfl
@[go_sem] theorem bldT_96 : bldT Tryz.prog 96 = some [(0, 1), (1, 1)] := by kernel_rfl
@[go_sem] theorem bldT_97 : bldT Tryz.prog 97 = some [(0, 1), (1, 1)] := by kernel_rfl
@[go_sem] theorem conT_142 : conT Tryz.prog 142 = true := by kernel_rfl
@[go_sem] theorem conT_230 : conT Tryz.prog 230 = true := by kernel_rfl
@[go_sem] theorem conT_232 : conT Tryz.prog 232 = true := by kernel_rfl
@[go_sem] theorem conT_236 : conT Tryz.prog 236 = true := by kernel_rfl
@[go_sem] theorem conT_240 : conT Tryz.prog 240 = true := by kernel_rfl
@[go_sem] theorem conT_321 : conT Tryz.prog 321 = true := by kernel_rfl
@[go_sem] theorem conT_325 : conT Tryz.prog 325 = false := by kernel_rfl
@[go_sem] theorem conT_331 : conT Tryz.prog 331 = true := by kernel_rfl
@[go_sem] theorem conT_9 : conT Tryz.prog 9 = true := by kernel_rfl
@[go_sem] theorem elmT_104 : elmT Tryz.prog 104 = some (5, 1, 1) := by kernel_rfl
@[go_sem] theorem elmT_171 : elmT Tryz.prog 171 = some (9, 1, 16) := by kernel_rfl
@[go_sem] theorem elmT_216 : elmT Tryz.prog 216 = none := by kernel_rfl
@[go_sem] theorem elmT_22 : elmT Tryz.prog 22 = some (63, 2, 32) := by kernel_rfl
@[go_sem] theorem elmT_23 : elmT Tryz.prog 23 = some (3, 1, 8) := by kernel_rfl
@[go_sem] theorem elmT_234 : elmT Tryz.prog 234 = none := by kernel_rfl
@[go_sem] theorem elmT_235 : elmT Tryz.prog 235 = none := by kernel_rfl
@[go_sem] theorem elmT_237 : elmT Tryz.prog 237 = none := by kernel_rfl
@[go_sem] theorem elmT_24 : elmT Tryz.prog 24 = some (26, 4, 56) := by kernel_rfl
@[go_sem] theorem elmT_268 : elmT Tryz.prog 268 = some (267, 1, 8) := by kernel_rfl
@[go_sem] theorem elmT_289 : elmT Tryz.prog 289 = none := by kernel_rfl
@[go_sem] theorem elmT_299 : elmT Tryz.prog 299 = none := by kernel_rfl
@[go_sem] theorem elmT_300 : elmT Tryz.prog 300 = none := by kernel_rfl
@[go_sem] theorem elmT_320 : elmT Tryz.prog 320 = some (5, 1, 1) := by kernel_rfl
@[go_sem] theorem elmT_33 : elmT Tryz.prog 33 = some (66, 2, 32) := by kernel_rfl
@[go_sem] theorem elmT_51 : elmT Tryz.prog 51 = some (97, 2, 16) := by kernel_rfl
@[go_sem] theorem elmT_61 : elmT Tryz.prog 61 = some (85, 5, 64) := by kernel_rfl
@[go_sem] theorem elmT_64 : elmT Tryz.prog 64 = some (124, 5, 64) := by kernel_rfl
@[go_sem] theorem elmT_79 : elmT Tryz.prog 79 = some (24, 1, 24) := by kernel_rfl
@[go_sem] theorem elmT_9 : elmT Tryz.prog 9 = none := by kernel_rfl
@[go_sem] theorem elmT_91 : elmT Tryz.prog 91 = some (96, 2, 16) := by kernel_rfl
@[go_sem] theorem elmT_92 : elmT Tryz.prog 92 = some (91, 1, 24) := by kernel_rfl
@[go_sem] theorem elmT_97 : elmT Tryz.prog 97 = none := by kernel_rfl
@[go_sem] theorem fldT_106_0 : fldT Tryz.prog 106 0 = some (0, 1, false) := by kernel_rfl
@[go_sem] theorem fldT_106_1 : fldT Tryz.prog 106 1 = some (1, 1, false) := by kernel_rfl
@[go_sem] theorem fldT_124_0 : fldT Tryz.prog 124 0 = some (0, 1, false) := by kernel_rfl
@[go_sem] theorem fldT_124_1 : fldT Tryz.prog 124 1 = some (1, 4, true) := by kernel_rfl
@[go_sem] theorem fldT_132_0 : fldT Tryz.prog 132 0 = some (0, 1, false) := by kernel_rfl
@[go_sem] theorem fldT_132_1 : fldT Tryz.prog 132 1 = some (1, 1, false) := by kernel_rfl
@[go_sem] theorem fldT_134_0 : fldT Tryz.prog 134 0 = some (0, 1, false) := by kernel_rfl
@[go_sem] theorem fldT_134_1 : fldT Tryz.prog 134 1 = some (1, 4, true) := by kernel_rfl
@[go_sem] theorem fldT_186_0 : fldT Tryz.prog 186 0 = some (0, 3, true) := by kernel_rfl
@[go_sem] theorem fldT_186_1 : fldT Tryz.prog 186 1 = some (3, 1, false) := by kernel_rfl
@[go_sem] theorem fldT_186_2 : fldT Tryz.prog 186 2 = some (4, 1, false) := by kernel_rfl
@[go_sem] theorem fldT_239_0 : fldT Tryz.prog 239 0 = some (0, 256, true) := by kernel_rfl
@[go_sem] theorem fldT_239_1 : fldT Tryz.prog 239 1 = some (256, 1, false) := by kernel_rfl
@[go_sem] theorem fldT_266_0 : fldT Tryz.prog 266 0 = some (0, 1, false) := by kernel_rfl
@[go_sem] theorem fldT_266_1 : fldT Tryz.prog 266 1 = some (1, 1, false) := by kernel_rfl
@[go_sem] theorem fldT_26_0 : fldT Tryz.prog 26 0 = some (0, 1, false) := by kernel_rfl
@[go_sem] theorem fldT_26_1 : fldT Tryz.prog 26 1 = some (1, 1, false) := by kernel_rfl
@[go_sem] theorem fldT_26_2 : fldT Tryz.prog 26 2 = some (2, 1, false) := by kernel_rfl
@[go_sem] theorem fldT_26_3 : fldT Tryz.prog 26 3 = some (3, 1, false) := by kernel_rfl
@[go_sem] theorem fldT_270_0 : fldT Tryz.prog 270 0 = some (0, 1, false) := by kernel_rfl
@[go_sem] theorem fldT_270_1 : fldT Tryz.prog 270 1 = some (1, 1, false) := by kernel_rfl
@[go_sem] theorem fldT_270_2 : fldT Tryz.prog 270 2 = some (2, 1, false) := by kernel_rfl
@[go_sem] theorem fldT_270_3 : fldT Tryz.prog 270 3 = some (3, 1, false) := by kernel_rfl
@[go_sem] theorem fldT_270_4 : fldT Tryz.prog 270 4 = some (4, 1, false) := by kernel_rfl
@[go_sem] theorem fldT_272_0 : fldT Tryz.prog 272 0 = some (0, 5, true) := by kernel_rfl
@[go_sem] theorem fldT_272_1 : fldT Tryz.prog 272 1 = some (5, 1, false) := by kernel_rfl
@[go_sem] theorem fldT_272_2 : fldT Tryz.prog 272 2 = some (6, 256, true) := by kernel_rfl
@[go_sem] theorem fldT_291_0 : fldT Tryz.prog 291 0 = some (0, 1, false) := by kernel_rfl
@[go_sem] theorem fldT_291_1 : fldT Tryz.prog 291 1 = some (1, 256, true) := by kernel_rfl
@[go_sem] theorem fldT_291_2 : fldT Tryz.prog 291 2 = some (257, 1, false) := by kernel_rfl
@[go_sem] theorem fldT_331_0 : fldT Tryz.prog 331 0 = some (0, 1, false) := by kernel_rfl
@[go_sem] theorem fldT_63_0 : fldT Tryz.prog 63 0 = some (0, 1, false) := by kernel_rfl
@[go_sem] theorem fldT_63_1 : fldT Tryz.prog 63 1 = some (1, 1, false) := by kernel_rfl
@[go_sem] theorem fldT_66_0 : fldT Tryz.prog 66 0 = some (0, 1, false) := by kernel_rfl
@[go_sem] theorem fldT_66_1 : fldT Tryz.prog 66 1 = some (1, 1, false) := by kernel_rfl
@[go_sem] theorem fldT_81_0 : fldT Tryz.prog 81 0 = some (0, 1, false) := by kernel_rfl
@[go_sem] theorem fldT_81_1 : fldT Tryz.prog 81 1 = some (1, 1, false) := by kernel_rfl
@[go_sem] theorem fldT_81_2 : fldT Tryz.prog 81 2 = some (2, 1, false) := by kernel_rfl
@[go_sem] theorem fldT_81_3 : fldT Tryz.prog 81 3 = some (3, 1, false) := by kernel_rfl
@[go_sem] theorem fldT_81_4 : fldT Tryz.prog 81 4 = some (4, 1, false) := by kernel_rfl
@[go_sem] theorem fldT_85_0 : fldT Tryz.prog 85 0 = some (0, 1, false) := by kernel_rfl
@[go_sem] theorem fldT_85_1 : fldT Tryz.prog 85 1 = some (1, 4, true) := by kernel_rfl
@[go_sem] theorem fldT_94_0 : fldT Tryz.prog 94 0 = some (0, 1, false) := by kernel_rfl
@[go_sem] theorem fldT_94_1 : fldT Tryz.prog 94 1 = some (1, 1, false) := by kernel_rfl
@[go_sem] theorem fldT_94_2 : fldT Tryz.prog 94 2 = some (2, 1, false) := by kernel_rfl
@[go_sem] theorem fldT_94_3 : fldT Tryz.prog 94 3 = some (3, 1, false) := by kernel_rfl
@[go_sem] theorem fldT_94_4 : fldT Tryz.prog 94 4 = some (4, 1, false) := by kernel_rfl
@[go_sem] theorem fldT_94_5 : fldT Tryz.prog 94 5 = some (5, 1, false) := by kernel_rfl
@[go_sem] theorem fldT_96_0 : fldT Tryz.prog 96 0 = some (0, 1, false) := by kernel_rfl
@[go_sem] theorem fldT_96_1 : fldT Tryz.prog 96 1 = some (1, 1, false) := by kernel_rfl
@[go_sem] theorem intT_103 : intT Tryz.prog 103 = none := by kernel_rfl
@[go_sem] theorem intT_104 : intT Tryz.prog 104 = none := by kernel_rfl
@[go_sem] theorem intT_167 : intT Tryz.prog 167 = some .u64 := by kernel_rfl
@[go_sem] theorem intT_174 : intT Tryz.prog 174 = some .u32 := by kernel_rfl
@[go_sem] theorem intT_190 : intT Tryz.prog 190 = none := by kernel_rfl
@[go_sem] theorem intT_194 : intT Tryz.prog 194 = some .u64 := by kernel_rfl
@[go_sem] theorem intT_21 : intT Tryz.prog 21 = some .i32 := by kernel_rfl
@[go_sem] theorem intT_242 : intT Tryz.prog 242 = some .u64 := by kernel_rfl
@[go_sem] theorem intT_3 : intT Tryz.prog 3 = some .i64 := by kernel_rfl
@[go_sem] theorem intT_5 : intT Tryz.prog 5 = some .u8 := by kernel_rfl
@[go_sem] theorem intT_9 : intT Tryz.prog 9 = none := by kernel_rfl
@[go_sem] theorem isBoolT_103 : isBoolT Tryz.prog 103 = false := by kernel_rfl
@[go_sem] theorem isBoolT_104 : isBoolT Tryz.prog 104 = false := by kernel_rfl
@[go_sem] theorem isBoolT_113 : isBoolT Tryz.prog 113 = false := by kernel_rfl
@[go_sem] theorem isBoolT_167 : isBoolT Tryz.prog 167 = false := by kernel_rfl
@[go_sem] theorem isBoolT_174 : isBoolT Tryz.prog 174 = false := by kernel_rfl
@[go_sem] theorem isBoolT_194 : isBoolT Tryz.prog 194 = false := by kernel_rfl
@[go_sem] theorem isBoolT_20 : isBoolT Tryz.prog 20 = false := by kernel_rfl
@[go_sem] theorem isBoolT_206 : isBoolT Tryz.prog 206 = false := by kernel_rfl
@[go_sem] theorem isBoolT_21 : isBoolT Tryz.prog 21 = false := by kernel_rfl
@[go_sem] theorem isBoolT_24 : isBoolT Tryz.prog 24 = false := by kernel_rfl
@[go_sem] theorem isBoolT_242 : isBoolT Tryz.prog 242 = false := by kernel_rfl
@[go_sem] theorem isBoolT_267 : isBoolT Tryz.prog 267 = false := by kernel_rfl
@[go_sem] theorem isBoolT_268 : isBoolT Tryz.prog 268 = false := by kernel_rfl
@[go_sem] theorem isBoolT_3 : isBoolT Tryz.prog 3 = false := by kernel_rfl
@[go_sem] theorem isBoolT_30 : isBoolT Tryz.prog 30 = false := by kernel_rfl
@[go_sem] theorem isBoolT_33 : isBoolT Tryz.prog 33 = false := by kernel_rfl
@[go_sem] theorem isBoolT_4 : isBoolT Tryz.prog 4 = true := by kernel_rfl
@[go_sem] theorem isBoolT_5 : isBoolT Tryz.prog 5 = false := by kernel_rfl
@[go_sem] theorem isBoolT_9 : isBoolT Tryz.prog 9 = false := by kernel_rfl
@[go_sem] theorem isIfcT_113 : isIfcT Tryz.prog 113 = true := by kernel_rfl
@[go_sem] theorem isIfcT_20 : isIfcT Tryz.prog 20 = true := by kernel_rfl
@[go_sem] theorem slcT_103 : slcT Tryz.prog 103 = false := by kernel_rfl
@[go_sem] theorem slcT_104 : slcT Tryz.prog 104 = true := by kernel_rfl
@[go_sem] theorem slcT_167 : slcT Tryz.prog 167 = false := by kernel_rfl
@[go_sem] theorem slcT_171 : slcT Tryz.prog 171 = true := by kernel_rfl
@[go_sem] theorem slcT_174 : slcT Tryz.prog 174 = false := by kernel_rfl
@[go_sem] theorem slcT_190 : slcT Tryz.prog 190 = false := by kernel_rfl
@[go_sem] theorem slcT_194 : slcT Tryz.prog 194 = false := by kernel_rfl
@[go_sem] theorem slcT_21 : slcT Tryz.prog 21 = false := by kernel_rfl
@[go_sem] theorem slcT_22 : slcT Tryz.prog 22 = true := by kernel_rfl
@[go_sem] theorem slcT_23 : slcT Tryz.prog 23 = true := by kernel_rfl
@[go_sem] theorem slcT_234 : slcT Tryz.prog 234 = false := by kernel_rfl
@[go_sem] theorem slcT_235 : slcT Tryz.prog 235 = false := by kernel_rfl
@[go_sem] theorem slcT_24 : slcT Tryz.prog 24 = true := by kernel_rfl
@[go_sem] theorem slcT_242 : slcT Tryz.prog 242 = false := by kernel_rfl
@[go_sem] theorem slcT_3 : slcT Tryz.prog 3 = false := by kernel_rfl
@[go_sem] theorem slcT_320 : slcT Tryz.prog 320 = true := by kernel_rfl
@[go_sem] theorem slcT_33 : slcT Tryz.prog 33 = true := by kernel_rfl
@[go_sem] theorem slcT_5 : slcT Tryz.prog 5 = false := by kernel_rfl
@[go_sem] theorem slcT_51 : slcT Tryz.prog 51 = true := by kernel_rfl
@[go_sem] theorem slcT_61 : slcT Tryz.prog 61 = true := by kernel_rfl
@[go_sem] theorem slcT_64 : slcT Tryz.prog 64 = true := by kernel_rfl
@[go_sem] theorem slcT_79 : slcT Tryz.prog 79 = true := by kernel_rfl
@[go_sem] theorem slcT_9 : slcT Tryz.prog 9 = false := by kernel_rfl
@[go_sem] theorem slcT_91 : slcT Tryz.prog 91 = true := by kernel_rfl
@[go_sem] theorem slcT_92 : slcT Tryz.prog 92 = true := by kernel_rfl
@[go_sem] theorem strT_103 : strT Tryz.prog 103 = false := by kernel_rfl
@[go_sem] theorem strT_104 : strT Tryz.prog 104 = false := by kernel_rfl
@[go_sem] theorem strT_167 : strT Tryz.prog 167 = false := by kernel_rfl
@[go_sem] theorem strT_171 : strT Tryz.prog 171 = false := by kernel_rfl
@[go_sem] theorem strT_174 : strT Tryz.prog 174 = false := by kernel_rfl
@[go_sem] theorem strT_190 : strT Tryz.prog 190 = false := by kernel_rfl
@[go_sem] theorem strT_194 : strT Tryz.prog 194 = false := by kernel_rfl
@[go_sem] theorem strT_21 : strT Tryz.prog 21 = false := by kernel_rfl
@[go_sem] theorem strT_22 : strT Tryz.prog 22 = false := by kernel_rfl
@[go_sem] theorem strT_23 : strT Tryz.prog 23 = false := by kernel_rfl
@[go_sem] theorem strT_234 : strT Tryz.prog 234 = false := by kernel_rfl
@[go_sem] theorem strT_235 : strT Tryz.prog 235 = false := by kernel_rfl
@[go_sem] theorem strT_24 : strT Tryz.prog 24 = false := by kernel_rfl
@[go_sem] theorem strT_242 : strT Tryz.prog 242 = false := by kernel_rfl
@[go_sem] theorem strT_3 : strT Tryz.prog 3 = false := by kernel_rfl
@[go_sem] theorem strT_320 : strT Tryz.prog 320 = false := by kernel_rfl
@[go_sem] theorem strT_33 : strT Tryz.prog 33 = false := by kernel_rfl
@[go_sem] theorem strT_5 : strT Tryz.prog 5 = false := by kernel_rfl
@[go_sem] theorem strT_51 : strT Tryz.prog 51 = false := by kernel_rfl
@[go_sem] theorem strT_61 : strT Tryz.prog 61 = false := by kernel_rfl
@[go_sem] theorem strT_64 : strT Tryz.prog 64 = false := by kernel_rfl
@[go_sem] theorem strT_79 : strT Tryz.prog 79 = false := by kernel_rfl
@[go_sem] theorem strT_9 : strT Tryz.prog 9 = true := by kernel_rfl
@[go_sem] theorem strT_91 : strT Tryz.prog 91 = false := by kernel_rfl
@[go_sem] theorem strT_92 : strT Tryz.prog 92 = false := by kernel_rfl
@[go_sem] theorem szT_103 : szT Tryz.prog 103 = some 1 := by kernel_rfl
@[go_sem] theorem szT_104 : szT Tryz.prog 104 = some 1 := by kernel_rfl
@[go_sem] theorem szT_124 : szT Tryz.prog 124 = some 5 := by kernel_rfl
@[go_sem] theorem szT_134 : szT Tryz.prog 134 = some 5 := by kernel_rfl
@[go_sem] theorem szT_142 : szT Tryz.prog 142 = some 0 := by kernel_rfl
@[go_sem] theorem szT_171 : szT Tryz.prog 171 = some 1 := by kernel_rfl
@[go_sem] theorem szT_184 : szT Tryz.prog 184 = some 1 := by kernel_rfl
@[go_sem] theorem szT_216 : szT Tryz.prog 216 = some 256 := by kernel_rfl
@[go_sem] theorem szT_23 : szT Tryz.prog 23 = some 1 := by kernel_rfl
@[go_sem] theorem szT_234 : szT Tryz.prog 234 = some 256 := by kernel_rfl
@[go_sem] theorem szT_235 : szT Tryz.prog 235 = some 256 := by kernel_rfl
@[go_sem] theorem szT_239 : szT Tryz.prog 239 = some 257 := by kernel_rfl
@[go_sem] theorem szT_24 : szT Tryz.prog 24 = some 1 := by kernel_rfl
@[go_sem] theorem szT_242 : szT Tryz.prog 242 = some 1 := by kernel_rfl
@[go_sem] theorem szT_26 : szT Tryz.prog 26 = some 4 := by kernel_rfl
@[go_sem] theorem szT_263 : szT Tryz.prog 263 = some 1 := by kernel_rfl
@[go_sem] theorem szT_267 : szT Tryz.prog 267 = some 1 := by kernel_rfl
@[go_sem] theorem szT_268 : szT Tryz.prog 268 = some 1 := by kernel_rfl
@[go_sem] theorem szT_3 : szT Tryz.prog 3 = some 1 := by kernel_rfl
@[go_sem] theorem szT_30 : szT Tryz.prog 30 = some 1 := by kernel_rfl
@[go_sem] theorem szT_320 : szT Tryz.prog 320 = some 1 := by kernel_rfl
@[go_sem] theorem szT_323 : szT Tryz.prog 323 = some 1 := by kernel_rfl
@[go_sem] theorem szT_33 : szT Tryz.prog 33 = some 1 := by kernel_rfl
@[go_sem] theorem szT_4 : szT Tryz.prog 4 = some 1 := by kernel_rfl
@[go_sem] theorem szT_5 : szT Tryz.prog 5 = some 1 := by kernel_rfl
@[go_sem] theorem szT_61 : szT Tryz.prog 61 = some 1 := by kernel_rfl
@[go_sem] theorem szT_63 : szT Tryz.prog 63 = some 2 := by kernel_rfl
@[go_sem] theorem szT_64 : szT Tryz.prog 64 = some 1 := by kernel_rfl
@[go_sem] theorem szT_66 : szT Tryz.prog 66 = some 2 := by kernel_rfl
@[go_sem] theorem szT_79 : szT Tryz.prog 79 = some 1 := by kernel_rfl
@[go_sem] theorem szT_85 : szT Tryz.prog 85 = some 5 := by kernel_rfl
@[go_sem] theorem szT_88 : szT Tryz.prog 88 = some 1 := by kernel_rfl
@[go_sem] theorem szT_9 : szT Tryz.prog 9 = some 1 := by kernel_rfl
@[go_sem] theorem szT_91 : szT Tryz.prog 91 = some 1 := by kernel_rfl
@[go_sem] theorem szT_92 : szT Tryz.prog 92 = some 1 := by kernel_rfl
@[go_sem] theorem szT_96 : szT Tryz.prog 96 = some 2 := by kernel_rfl
@[go_sem] theorem undT_103 : undT Tryz.prog 103 = true := by kernel_rfl
@[go_sem] theorem undT_104 : undT Tryz.prog 104 = true := by kernel_rfl
@[go_sem] theorem undT_167 : undT Tryz.prog 167 = true := by kernel_rfl
@[go_sem] theorem undT_174 : undT Tryz.prog 174 = true := by kernel_rfl
@[go_sem] theorem undT_190 : undT Tryz.prog 190 = true := by kernel_rfl
@[go_sem] theorem undT_194 : undT Tryz.prog 194 = true := by kernel_rfl
@[go_sem] theorem undT_21 : undT Tryz.prog 21 = true := by kernel_rfl
@[go_sem] theorem undT_3 : undT Tryz.prog 3 = true := by kernel_rfl
@[go_sem] theorem undT_320 : undT Tryz.prog 320 = true := by kernel_rfl
@[go_sem] theorem undT_5 : undT Tryz.prog 5 = true := by kernel_rfl
@[go_sem] theorem undT_9 : undT Tryz.prog 9 = true := by kernel_rfl
@[go_sem] theorem und_103 : Tryz.prog.underlying 103 = some (.pointer 106) := by kernel_rfl
@[go_sem] theorem und_104 : Tryz.prog.underlying 104 = some (.slice 5) := by kernel_rfl
@[go_sem] theorem und_24 : Tryz.prog.underlying 24 = some (.slice 26) := by kernel_rfl
@[go_sem] theorem und_267 : Tryz.prog.underlying 267 = some (.pointer 270) := by kernel_rfl
@[go_sem] theorem und_268 : Tryz.prog.underlying 268 = some (.slice 267) := by kernel_rfl
@[go_sem] theorem und_33 : Tryz.prog.underlying 33 = some (.slice 66) := by kernel_rfl
@[go_sem] theorem zeroV_142 : assertA.zeroV Tryz.prog 142 = some (.agg []) := by kernel_rfl
@[go_sem] theorem zeroV_325 : assertA.zeroV Tryz.prog 325 = some (.base (.nilIface)) := by kernel_rfl
@[go_sem] theorem zero_106 : zeroCells Tryz.prog 106 = some [.base (.pointer none), .base (.slice none 0 0)] := by kernel_rfl
@[go_sem] theorem zero_124 : zeroCells Tryz.prog 124 = some [.int .i64 0, .int .i64 0, .int .i64 0, .str [], .base (.slice none 0 0)] := by kernel_rfl
@[go_sem] theorem zero_132 : zeroCells Tryz.prog 132 = some [.str [], .int .i64 0] := by kernel_rfl
@[go_sem] theorem zero_134 : zeroCells Tryz.prog 134 = some [.int .u8 0, .int .i64 0, .int .i64 0, .str [], .base (.slice none 0 0)] := by kernel_rfl
@[go_sem] theorem zero_142 : zeroCells Tryz.prog 142 = some [] := by kernel_rfl
@[go_sem] theorem zero_186 : zeroCells Tryz.prog 186 = some [.int .u32 0, .int .i32 0, .int .u32 0, .base (.nilIface), .base (.slice none 0 0)] := by kernel_rfl
@[go_sem] theorem zero_216 : zeroCells Tryz.prog 216 = some (List.replicate 256 (.bool false)) := by kernel_rfl
@[go_sem] theorem zero_23 : zeroCells Tryz.prog 23 = some [.base (.slice none 0 0)] := by kernel_rfl
@[go_sem] theorem zero_235 : zeroCells Tryz.prog 235 = some (List.replicate 256 (.int .u8 0)) := by kernel_rfl
@[go_sem] theorem zero_239 : zeroCells Tryz.prog 239 = some (List.replicate 257 (.base (.slice none 0 0))) := by kernel_rfl
@[go_sem] theorem zero_24 : zeroCells Tryz.prog 24 = some [.base (.slice none 0 0)] := by kernel_rfl
@[go_sem] theorem zero_242 : zeroCells Tryz.prog 242 = some [.int .u64 0] := by kernel_rfl
@[go_sem] theorem zero_26 : zeroCells Tryz.prog 26 = some [.int .i64 0, .int .i64 0, .str [], .base (.slice none 0 0)] := by kernel_rfl
@[go_sem] theorem zero_266 : zeroCells Tryz.prog 266 = some [.base (.pointer none), .str []] := by kernel_rfl
@[go_sem] theorem zero_267 : zeroCells Tryz.prog 267 = some [.base (.pointer none)] := by kernel_rfl
@[go_sem] theorem zero_270 : zeroCells Tryz.prog 270 = some [.str [], .int .i64 0, .str [], .base (.pointer none), .base (.slice none 0 0)] := by kernel_rfl
@[go_sem] theorem zero_272 : zeroCells Tryz.prog 272 = some [.str [], .int .i64 0, .str [], .base (.pointer none), .base (.slice none 0 0), .int .i64 0, .int .u8 0, .int .u8 0, .int .u8 0, .int .u8 0, .int .u8 0, .int .u8 0, .int .u8 0, .int .u8 0, .int .u8 0, .int .u8 0, .int .u8 0, .int .u8 0, .int .u8 0, .int .u8 0, .int .u8 0, .int .u8 0, .int .u8 0, .int .u8 0, .int .u8 0, .int .u8 0, .int .u8 0, .int .u8 0, .int .u8 0, .int .u8 0, .int .u8 0, .int .u8 0, .int .u8 0, .int .u8 0, .int .u8 0, .int .u8 0, .int .u8 0, .int .u8 0, .int .u8 0, .int .u8 0, .int .u8 0, .int .u8 0, .int .u8 0, .int .u8 0, .int .u8 0, .int .u8 0, .int .u8 0, .int .u8 0, .int .u8 0, .int .u8 0, .int .u8 0, .int .u8 0, .int .u8 0, .int .u8 0, .int .u8 0, .int .u8 0, .int .u8 0, .int .u8 0, .int .u8 0, .int .u8 0, .int .u8 0, .int .u8 0, .int .u8 0, .int .u8 0, .int .u8 0, .int .u8 0, .int .u8 0, .int .u8 0, .int .u8 0, .int .u8 0, .int .u8 0, .int .u8 0, .int .u8 0, .int .u8 0, .int .u8 0, .int .u8 0, .int .u8 0, .int .u8 0, .int .u8 0, .int .u8 0, .int .u8 0, .int .u8 0, .int .u8 0, .int .u8 0, .int .u8 0, .int .u8 0, .int .u8 0, .int .u8 0, .int .u8 0, .int .u8 0, .int .u8 0, .int .u8 0, .int .u8 0, .int .u8 0, .int .u8 0, .int .u8 0, .int .u8 0, .int .u8 0, .int .u8 0, .int .u8 0, .int .u8 0, .int .u8 0, .int .u8 0, .int .u8 0, .int .u8 0, .int .u8 0, .int .u8 0, .int .u8 0, .int .u8 0, .int .u8 0, .int .u8 0, .int .u8 0, .int .u8 0, .int .u8 0, .int .u8 0, .int .u8 0, .int .u8 0, .int .u8 0, .int .u8 0, .int .u8 0, .int .u8 0, .int .u8 0, .int .u8 0, .int .u8 0, .int .u8 0, .int .u8 0, .int .u8 0, .int .u8 0, .int .u8 0, .int .u8 0, .int .u8 0, .int .u8 0, .int .u8 0, .int .u8 0, .int .u8 0, .int .u8 0, .int .u8 0, .int .u8 0, .int .u8 0, .int .u8 0, .int .u8 0, .int .u8 0, .int .u8 0, .int .u8 0, .int .u8 0, .int .u8 0, .int .u8 0, .int .u8 0, .int .u8 0, .int .u8 0, .int .u8 0, .int .u8 0, .int .u8 0, .int .u8 0, .int .u8 0, .int .u8 0, .int .u8 0, .int .u8 0, .int .u8 0, .int .u8 0, .int .u8 0, .int .u8 0, .int .u8 0, .int .u8 0, .int .u8 0, .int .u8 0, .int .u8 0, .int .u8 0, .int .u8 0, .int .u8 0, .int .u8 0, .int .u8 0, .int .u8 0, .int .u8 0, .int .u8 0, .int .u8 0, .int .u8 0, .int .u8 0, .int .u8 0, .int .u8 0, .int .u8 0, .int .u8 0, .int .u8 0, .int .u8 0, .int .u8 0, .int .u8 0, .int .u8 0, .int .u8 0, .int .u8 0, .int .u8 0, .int .u8 0, .int .u8 0, .int .u8 0, .int .u8 0, .int .u8 0, .int .u8 0, .int .u8 0, .int .u8 0, .int .u8 0, .int .u8 0, .int .u8 0, .int .u8 0, .int .u8 0, .int .u8 0, .int .u8 0, .int .u8 0, .int .u8 0, .int .u8 0, .int .u8 0, .int .u8 0, .int .u8 0, .int .u8 0, .int .u8 0, .int .u8 0, .int .u8 0, .int .u8 0, .int .u8 0, .int .u8 0, .int .u8 0, .int .u8 0, .int .u8 0, .int .u8 0, .int .u8 0, .int .u8 0, .int .u8 0, .int .u8 0, .int .u8 0, .int .u8 0, .int .u8 0, .int .u8 0, .int .u8 0, .int .u8 0, .int .u8 0, .int .u8 0, .int .u8 0, .int .u8 0, .int .u8 0, .int .u8 0, .int .u8 0, .int .u8 0, .int .u8 0, .int .u8 0, .int .u8 0, .int .u8 0, .int .u8 0, .int .u8 0, .int .u8 0, .int .u8 0, .int .u8 0, .int .u8 0, .int .u8 0, .int .u8 0, .int .u8 0, .int .u8 0, .int .u8 0, .int .u8 0, .int .u8 0, .int .u8 0, .int .u8 0, .int .u8 0, .int .u8 0, .int .u8 0] := by kernel_rfl
@[go_sem] theorem zero_291 : zeroCells Tryz.prog 291 = some [.str [], .int .i64 0, .int .i64 0, .int .i64 0, .int .i64 0, .int .i64 0, .int .i64 0, .int .i64 0, .int .i64 0, .int .i64 0, .int .i64 0, .int .i64 0, .int .i64 0, .int .i64 0, .int .i64 0, .int .i64 0, .int .i64 0, .int .i64 0, .int .i64 0, .int .i64 0, .int .i64 0, .int .i64 0, .int .i64 0, .int .i64 0, .int .i64 0, .int .i64 0, .int .i64 0, .int .i64 0, .int .i64 0, .int .i64 0, .int .i64 0, .int .i64 0, .int .i64 0, .int .i64 0, .int .i64 0, .int .i64 0, .int .i64 0, .int .i64 0, .int .i64 0, .int .i64 0, .int .i64 0, .int .i64 0, .int .i64 0, .int .i64 0, .int .i64 0, .int .i64 0, .int .i64 0, .int .i64 0, .int .i64 0, .int .i64 0, .int .i64 0, .int .i64 0, .int .i64 0, .int .i64 0, .int .i64 0, .int .i64 0, .int .i64 0, .int .i64 0, .int .i64 0, .int .i64 0, .int .i64 0, .int .i64 0, .int .i64 0, .int .i64 0, .int .i64 0, .int .i64 0, .int .i64 0, .int .i64 0, .int .i64 0, .int .i64 0, .int .i64 0, .int .i64 0, .int .i64 0, .int .i64 0, .int .i64 0, .int .i64 0, .int .i64 0, .int .i64 0, .int .i64 0, .int .i64 0, .int .i64 0, .int .i64 0, .int .i64 0, .int .i64 0, .int .i64 0, .int .i64 0, .int .i64 0, .int .i64 0, .int .i64 0, .int .i64 0, .int .i64 0, .int .i64 0, .int .i64 0, .int .i64 0, .int .i64 0, .int .i64 0, .int .i64 0, .int .i64 0, .int .i64 0, .int .i64 0, .int .i64 0, .int .i64 0, .int .i64 0, .int .i64 0, .int .i64 0, .int .i64 0, .int .i64 0, .int .i64 0, .int .i64 0, .int .i64 0, .int .i64 0, .int .i64 0, .int .i64 0, .int .i64 0, .int .i64 0, .int .i64 0, .int .i64 0, .int .i64 0, .int .i64 0, .int .i64 0, .int .i64 0, .int .i64 0, .int .i64 0, .int .i64 0, .int .i64 0, .int .i64 0, .int .i64 0, .int .i64 0, .int .i64 0, .int .i64 0, .int .i64 0, .int .i64 0, .int .i64 0, .int .i64 0, .int .i64 0, .int .i64 0, .int .i64 0, .int .i64 0, .int .i64 0, .int .i64 0, .int .i64 0, .int .i64 0, .int .i64 0, .int .i64 0, .int .i64 0, .int .i64 0, .int .i64 0, .int .i64 0, .int .i64 0, .int .i64 0, .int .i64 0, .int .i64 0, .int .i64 0, .int .i64 0, .int .i64 0, .int .i64 0, .int .i64 0, .int .i64 0, .int .i64 0, .int .i64 0, .int .i64 0, .int .i64 0, .int .i64 0, .int .i64 0, .int .i64 0, .int .i64 0, .int .i64 0, .int .i64 0, .int .i64 0, .int .i64 0, .int .i64 0, .int .i64 0, .int .i64 0, .int .i64 0, .int .i64 0, .int .i64 0, .int .i64 0, .int .i64 0, .int .i64 0, .int .i64 0, .int .i64 0, .int .i64 0, .int .i64 0, .int .i64 0, .int .i64 0, .int .i64 0, .int .i64 0, .int .i64 0, .int .i64 0, .int .i64 0, .int .i64 0, .int .i64 0, .int .i64 0, .int .i64 0, .int .i64 0, .int .i64 0, .int .i64 0, .int .i64 0, .int .i64 0, .int .i64 0, .int .i64 0, .int .i64 0, .int .i64 0, .int .i64 0, .int .i64 0, .int .i64 0, .int .i64 0, .int .i64 0, .int .i64 0, .int .i64 0, .int .i64 0, .int .i64 0, .int .i64 0, .int .i64 0, .int .i64 0, .int .i64 0, .int .i64 0, .int .i64 0, .int .i64 0, .int .i64 0, .int .i64 0, .int .i64 0, .int .i64 0, .int .i64 0, .int .i64 0, .int .i64 0, .int .i64 0, .int .i64 0, .int .i64 0, .int .i64 0, .int .i64 0, .int .i64 0, .int .i64 0, .int .i64 0, .int .i64 0, .int .i64 0, .int .i64 0, .int .i64 0, .int .i64 0, .int .i64 0, .int .i64 0, .int .i64 0, .int .i64 0, .int .i64 0, .int .i64 0, .int .i64 0, .int .i64 0, .int .i64 0, .int .i64 0, .int .i64 0, .int .i64 0, .int .i64 0, .int .i64 0, .int .i64 0, .int .i64 0, .int .i64 0, .int .i64 0, .base (.slice none 0 0)] := by kernel_rfl
@[go_sem] theorem zero_3 : zeroCells Tryz.prog 3 = some [.int .i64 0] := by kernel_rfl
@[go_sem] theorem zero_320 : zeroCells Tryz.prog 320 = some [.base (.slice none 0 0)] := by kernel_rfl
@[go_sem] theorem zero_331 : zeroCells Tryz.prog 331 = some [.base (.nilIface)] := by kernel_rfl
@[go_sem] theorem zero_4 : zeroCells Tryz.prog 4 = some [.bool false] := by kernel_rfl
@[go_sem] theorem zero_5 : zeroCells Tryz.prog 5 = some [.int .u8 0] := by kernel_rfl
@[go_sem] theorem zero_63 : zeroCells Tryz.prog 63 = some [.int .i64 0, .base (.slice none 0 0)] := by kernel_rfl
@[go_sem] theorem zero_66 : zeroCells Tryz.prog 66 = some [.int .i64 0, .base (.slice none 0 0)] := by kernel_rfl
@[go_sem] theorem zero_81 : zeroCells Tryz.prog 81 = some [.str [], .int .i64 0, .base (.slice none 0 0), .bool false, .int .i64 0] := by kernel_rfl
@[go_sem] theorem zero_85 : zeroCells Tryz.prog 85 = some [.int .i64 0, .int .i64 0, .int .i64 0, .str [], .base (.slice none 0 0)] := by kernel_rfl
@[go_sem] theorem zero_88 : zeroCells Tryz.prog 88 = some [.base (.pointer none)] := by kernel_rfl
@[go_sem] theorem zero_9 : zeroCells Tryz.prog 9 = some [.str []] := by kernel_rfl
@[go_sem] theorem zero_91 : zeroCells Tryz.prog 91 = some [.base (.slice none 0 0)] := by kernel_rfl
@[go_sem] theorem zero_94 : zeroCells Tryz.prog 94 = some [.int .i64 0, .base (.slice none 0 0), .base (.slice none 0 0), .base (.slice none 0 0), .base (.slice none 0 0), .int .i64 0] := by kernel_rfl
@[go_sem] theorem zero_96 : zeroCells Tryz.prog 96 = some [.int .i64 0, .int .i64 0] := by kernel_rfl
@[go_sem] theorem zero_97 : zeroCells Tryz.prog 97 = some [.int .i64 0, .int .i64 0] := by kernel_rfl
end Go.Ab

namespace Go.Ab
open Go Go.RowKit
structure XS where
 env : List AV
 σ : Sto
 nx : Nat
def xenv (l : List AV) : Nat → AV := fun t => l.getD t .undef
def XS.st (x : XS) : St := ⟨xenv x.env, x.σ, x.nx⟩
def E.av : (e : E) → e.den → AV
 | .int k, n => .int k n
 | .bool, b => .bool b
 | .str, l => .str l
 | .erri, b => .erri b
 | .form, f => .agg (E.cells .form f)
 | .un, x => .agg (E.cells .un x)
 | .pr a b, x => .agg (E.cells (.pr a b) x)
 | .slice e, l => .tvec e l
def aggE : E → Bool
 | .form => true
 | .un => true
 | .pr _ _ => true
 | _ => false
def cellsV (e : E) (v : AV) : Option (List AV) :=
 match aggE e with
 | true => match v with
  | .agg cs => some cs
  | _ => none
 | false => match v with
  | .agg _ => none
  | v => some [v]
def absE (e : E) (v : AV) : Option e.den := (cellsV e v).bind (absC absF e)
theorem E.av_rf : ∀ (e : E) (x : e.den), RF (e.av x)
 | .int _, _ => trivial
 | .bool, _ => trivial
 | .str, _ => trivial
 | .erri, _ => trivial
 | .form, f => E.cells_rf .form f
 | .un, x => E.cells_rf .un x
 | .pr a b, x => E.cells_rf (.pr a b) x
 | .slice _, _ => trivial
theorem E.av_agg (e : E) (x : e.den) (h : aggE e = true) : e.av x = .agg (e.cells x) := by cases e <;> first | rfl | (simp [aggE] at h)
theorem E.av_one (e : E) (x : e.den) (h : aggE e = false) : e.cells x = [e.av x] := by cases e <;> first | rfl | (simp [aggE] at h)
theorem rel_agg {kn : Kn} {m : Mp} {cs ds : List AV} {v : Value} (h : Rel kn m (.agg cs) v) (hc : ∀ us, RelL kn m cs us → RelL kn m ds us) : Rel kn m (.agg ds) v := by
 cases h with
 | agg _ vs hl hr h1 =>
  have := hc vs.toList ⟨by simpa using hl, fun i x v a b => hr i x v a (by simpa using b)⟩
  exact .agg ds vs (by simpa using this.1) (fun i x v a b => this.2 i x v a (by simpa using b)) h1
theorem absE_rel {kn : Kn} {m : Mp} {e : E} {v : AV} {x : e.den} (h : absE e v = some x) {u : Value} (hr : Rel kn m v u) : Rel kn m (e.av x) u := by
 unfold absE cellsV at h
 obtain ⟨cs, h1, h2⟩ := Option.bind_eq_some_iff.1 h
 have hcells : ∀ us, RelL kn m cs us → RelL kn m (e.cells x) us := fun us hh => (E.rel_cells e x us).2 (absC_sound absF e cs x h2 us hh)
 split at h1
 ·rename_i he
  split at h1
  ·cases h1
   rw [E.av_agg e x he]
   exact rel_agg hr hcells
  ·cases h1
 ·rename_i he
  split at h1
  ·cases h1
  ·cases h1
   have := hcells [u] (relL_one.2 ⟨u, rfl, hr⟩)
   rw [E.av_one e x he] at this
   obtain ⟨u', e', h'⟩ := relL_one.1 this
   cases e'; exact h'
def eqA : AV → AV → Bool
 | .base .nilIface, .base .nilIface => true
 | .base (.slice none 0 0), .base (.slice none 0 0) => true
 | .base (.pointer none), .base (.pointer none) => true
 | .base (.map none), .base (.map none) => true
 | .base .nilFunc, .base .nilFunc => true
 | .fn (.func f) [] [], .fn (.func g) [] [] => Nat.beq f g
 | .tup [], .tup [] => true
 | .base (.tuple ⟨[]⟩), .base (.tuple ⟨[]⟩) => true
 | _, _ => false
theorem eqA_sound {a b : AV} (h : eqA a b = true) : a = b ∧ RF a := by
 unfold eqA at h
 split at h <;> first | exact ⟨rfl, by simp [RF, RFL]⟩ | (cases h; done) | skip
 have := Nat.eq_of_beq_eq_true h
 subst this
 exact ⟨rfl, by simp [RF, RFL]⟩
inductive Sh where
 | d (e : E)
 | c (v : AV)
 | ref (slot off : Nat)
 | gs (slot : Nat) (e : E)
 | mref (slot off : Nat)
 | gv (slot : Nat) (e : E)
 | agg (l : List Sh)
 | tup (l : List Sh)
 | rptr (l : List Sh)
 | fn (f : Fn) (first caps : List Sh)
 | iface (t : TypeId) (s : Sh)
mutual
def Sh.den : Sh → Type
 | .d e => e.den
 | .c _ => Unit
 | .ref _ _ => Unit
 | .gs _ _ => Unit
 | .mref _ _ => Bool
 | .gv _ _ => Nat × Nat
 | .agg l => Sh.denL l
 | .tup l => Sh.denL l
 | .rptr l => Sh.denL l
 | .fn _ a b => Sh.denL a × Sh.denL b
 | .iface _ s => s.den
def Sh.denL : List Sh → Type
 | [] => Unit
 | s :: l => s.den × Sh.denL l
end
abbrev Pl := Nat → Nat × Nat × Nat
mutual
def patV (ρ : Pl) : (s : Sh) → s.den → AV
 | .d e, x => e.av x
 | .c v, _ => v
 | .ref j off, _ => .ref (ρ j).1 (ρ j).2.1 off
 | .gs j e, _ => .gs (ρ j).1 (ρ j).2.1 e (ρ j).2.2
 | .mref j off, (b : Bool) => .mref (ρ j).1 (ρ j).2.1 off b
 | .gv j e, (x : Nat × Nat) => .gv (ρ j).1 (ρ j).2.1 e x.1 x.2
 | .agg l, x => .agg (patL ρ l x)
 | .tup l, x => .tup (patL ρ l x)
 | .rptr l, x => .rptr (patL ρ l x)
 | .fn f a b, x => .fn f (patL ρ a x.1) (patL ρ b x.2)
 | .iface t s, x => .iface t (patV ρ s x)
def patL (ρ : Pl) : (l : List Sh) → Sh.denL l → List AV
 | [], _ => []
 | s :: l, x => patV ρ s x.1 :: patL ρ l x.2
end
inductive OSh where
 | cells (T : TypeId) (l : List Sh)
 | tg (e : E) (ety : TypeId)
def OSh.den : OSh → Type
 | .cells _ l => Sh.denL l
 | .tg e _ => List e.den
abbrev Slots := List (Bool × OSh)
inductive Bnd where
 | nil
 | at (p nm : Nat)
 deriving DecidableEq
abbrev Binds := List (Nat × Bnd)
def bget : Binds → Nat → Option Bnd
 | [], _ => none
 | (j', b) :: l, j => if j' = j then some b else bget l j
def bfree (p : Nat) : Binds → Bool
 | [] => true
 | (_, .nil) :: l => bfree p l
 | (_, .at p' _) :: l => !(Nat.beq p' p) && bfree p l
def bput (j : Nat) (b : Bnd) (β : Binds) : Option Binds :=
 match bget β j with
 | some b' => if b' = b then some β else none
 | none => match b with
  | .nil => some ((j, .nil) :: β)
  | .at p nm => if bfree p β = true then some ((j, .at p nm) :: β) else none
def slotTg (os : Slots) (j : Nat) (e : E) : Bool :=
 match os[j]? with
 | some (_, .tg e' _) => decide (e' = e)
 | _ => false
def pairO {α β : Type} (b : β) : Option α → Option (α × β)
 | some a => some (a, b)
 | none => none
def unitO {β : Type} : Option β → Option (Unit × β)
 | some b => some ((), b)
 | none => none
mutual
def absV (os : Slots) (β : Binds) : (s : Sh) → AV → Option (s.den × Binds)
 | .d e, v => pairO β (absE e v)
 | .c a, v => if eqA a v = true then some ((), β) else none
 | .ref j off, v => match v with
  | .ref p nm off' => if off' = off ∧ (os[j]?).isSome = true then unitO (bput j (.at p nm) β) else none
  | _ => none
 | .gs j e, v => match v with
  | .gs p nm e' _ => if e' = e ∧ slotTg os j e = true then unitO (bput j (.at p nm) β) else none
  | .base (.slice none 0 0) => if slotTg os j e = true then unitO (bput j .nil β) else none
  | _ => none
 | .mref j off, v => match v with
  | .ref p nm off' => if off' = off ∧ (os[j]?).isSome = true then (match bput j (.at p nm) β with
   | some β' => some (true, β')
   | none => none) else none
  | .mref p nm off' b => if off' = off ∧ bget β j = some (.at p nm) then some (b, β) else none
  | .base (.pointer none) => some (false, β)
  | _ => none
 | .gv j e, v => match v with
  | .gv p nm e' off len => if e' = e ∧ bget β j = some (.at p nm) then some ((off, len), β) else none
  | _ => none
 | .agg l, v => match v with
  | .agg cs => absL os β l cs
  | _ => none
 | .tup l, v => match v with
  | .tup cs => absL os β l cs
  | _ => none
 | .rptr l, v => match v with
  | .rptr cs => absL os β l cs
  | _ => none
 | .fn f a b, v => match v with
  | .fn f' x y => if f' = f then (match absL os β a x with
   | some (a', β1) => match absL os β1 b y with
    | some (b', β2) => some ((a', b'), β2)
    | none => none
   | none => none) else none
  | _ => none
 | .iface t s, v => match v with
  | .iface t' x => if t' = t then absV os β s x else none
  | _ => none
def absL (os : Slots) (β : Binds) : (l : List Sh) → List AV → Option (Sh.denL l × Binds)
 | [], vs => match vs with
  | [] => some ((), β)
  | _ :: _ => none
 | s :: l, vs => match vs with
  | v :: vs => match absV os β s v with
   | some (x, β1) => match absL os β1 l vs with
    | some (y, β2) => some ((x, y), β2)
    | none => none
   | none => none
  | [] => none
end
structure SS where
 env : List (Nat × Sh)
 objs : Slots
def denE : List (Nat × Sh) → Type
 | [] => Unit
 | (_, s) :: l => s.den × denE l
def denO : Slots → Type
 | [] => Unit
 | (_, o) :: l => o.den × denO l
def SS.den (ss : SS) : Type := denE ss.env × denO ss.objs
def absEnv (os : Slots) (β : Binds) : (l : List (Nat × Sh)) → List AV → Option (denE l × Binds)
 | [], _ => some ((), β)
 | (t, s) :: l, env => match absV os β s (env.getD t .undef) with
  | some (x, β1) => match absEnv os β1 l env with
   | some (y, β2) => some ((x, y), β2)
   | none => none
  | none => none
def absCellsO (os : Slots) (β : Binds) (σ : Sto) (T : TypeId) (l : List Sh) (b : Option Bnd) : Option (Sh.denL l × Binds) :=
 match b with
 | some (.at p nm) => match sget σ p nm with
  | some (.cells T' cs) => if T' = T then absL os β l cs else none
  | _ => none
 | _ => none
def absTgO (β : Binds) (σ : Sto) (e : E) (ety : TypeId) (b : Option Bnd) : Option (List e.den × Binds) :=
 match b with
 | some (.at p nm) => match sget σ p nm with
  | some (.tg e' ety' l) => if h : e' = e then (if ety' = ety then some (castL h l, β) else none) else none
  | _ => none
 | some .nil => some ([], β)
 | none => none
def absO (os : Slots) (β : Binds) (σ : Sto) (b : Option Bnd) : (o : OSh) → Option (o.den × Binds)
 | .cells T l => absCellsO os β σ T l b
 | .tg e ety => absTgO β σ e ety b
def absOs (os : Slots) (σ : Sto) (β : Binds) (j : Nat) : (l : Slots) → Option (denO l × Binds)
 | [] => some ((), β)
 | (_, o) :: l => match absO os β σ (bget β j) o with
  | some (x, β1) => match absOs os σ β1 (j + 1) l with
   | some (y, β2) => some ((x, y), β2)
   | none => none
  | none => none
def binds0 (j : Nat) : Slots → Binds
 | [] => []
 | (true, _) :: l => (j, .at j j) :: binds0 (j + 1) l
 | (false, _) :: l => binds0 (j + 1) l
def absS (ss : SS) (x : XS) : Option ss.den :=
 match absEnv ss.objs (binds0 0 ss.objs) ss.env x.env with
 | some (a, β1) => match absOs ss.objs x.σ β1 0 ss.objs with
  | some (o, _) => some (a, o)
  | none => none
 | none => none
def lenO (o : OSh) (x : o.den) : Nat := match o, x with
 | .cells _ _, _ => 0
 | .tg _ _, (l : List _) => l.length
def lensO : (l : Slots) → denO l → Nat → Nat
 | [], _, _ => 0
 | (_, o) :: _, x, 0 => lenO o x.1
 | _ :: l, x, j + 1 => lensO l x.2 j
def nameOf (k j : Nat) (os : Slots) : Nat := match os[j]? with
 | some (true, _) => j
 | _ => k + j
def plO (k : Nat) (os : Slots) (x : denO os) : Pl := fun j => (j, nameOf k j os, lensO os x j)
def patE (ρ : Pl) : (l : List (Nat × Sh)) → denE l → Nat → AV
 | [], _, _ => .any
 | (t', s) :: l, x, t => if t' = t then patV ρ s x.1 else patE ρ l x.2 t
def patO (ρ : Pl) (o : OSh) (x : o.den) : AObj := match o, x with
 | .cells T l, x => .cells T (patL ρ l x)
 | .tg e ety, x => .tg e ety x
def patOs (ρ : Pl) (nm : Nat → Nat) (j : Nat) : (l : Slots) → denO l → Sto
 | [], _ => []
 | (_, o) :: l, x => (nm j, patO ρ o x.1) :: patOs ρ nm (j + 1) l x.2
def listTo (f : Nat → AV) : Nat → Nat → List AV
 | 0, _ => []
 | n + 1, t => f t :: listTo f n (t + 1)
def patS (k n : Nat) (ss : SS) (d : ss.den) : XS :=
 ⟨listTo (patE (plO k ss.objs d.2) ss.env d.1) n 0, patOs (plO k ss.objs d.2) (fun j => nameOf k j ss.objs) 0 ss.objs d.2, k + ss.objs.length⟩
end Go.Ab

namespace Go.Ab
open Go Go.RowKit
def Ext (β β' : Binds) : Prop := ∀ j b, bget β j = some b → bget β' j = some b
theorem Ext.refl (β : Binds) : Ext β β := fun _ _ h => h
theorem Ext.trans {a b c : Binds} (h : Ext a b) (k : Ext b c) : Ext a c := fun j x e => k j x (h j x e)
structure VB (m : Mp) (os : Slots) (β : Binds) : Prop where
 dom : ∀ j b, bget β j = some b → (os[j]?).isSome = true
 laid : ∀ j p nm, bget β j = some (.at p nm) → ∃ loc, m nm = some loc
 one : ∀ j j' p nm nm', bget β j = some (.at p nm) → bget β j' = some (.at p nm') → j = j'
theorem bfree_spec {p : Nat} : ∀ {β : Binds}, bfree p β = true → ∀ j nm, bget β j = some (.at p nm) → False
 | [], _, j, nm, e => by simp [bget] at e
 | (j', .nil) :: l, h, j, nm, e => by
  simp only [bget] at e
  split at e
  ·cases e
  ·exact bfree_spec (β := l) h j nm e
 | (j', .at p' n') :: l, h, j, nm, e => by
  simp only [bfree, Bool.and_eq_true, Bool.not_eq_true'] at h
  simp only [bget] at e
  split at e
  ·cases e; simp at h
  ·exact bfree_spec (β := l) h.2 j nm e
theorem bput_ext {j : Nat} {b : Bnd} {β β' : Binds} (h : bput j b β = some β') : Ext β β' ∧ bget β' j = some b ∧ ∀ j' b', bget β' j' = some b' → bget β j' = some b' ∨ (j' = j ∧ b' = b ∧ bget β j = none ∧ ∀ p nm, b = .at p nm → bfree p β = true) := by
 unfold bput at h
 split at h
 ·rename_i b0 hb
  split at h
  ·rename_i e; subst e; cases h; exact ⟨.refl _, hb, fun j' b' e => .inl e⟩
  ·cases h
 ·rename_i hb
  have key : ∀ b', Ext β ((j, b') :: β) ∧ bget ((j, b') :: β) j = some b' ∧ ∀ j2 b2, bget ((j, b') :: β) j2 = some b2 → bget β j2 = some b2 ∨ (j2 = j ∧ b2 = b') := fun b' => by
   refine ⟨fun j2 b2 e => ?_, by simp [bget], fun j2 b2 e => ?_⟩
   ·simp only [bget]
    split
    ·rename_i e'; subst e'; rw [hb] at e; cases e
    ·exact e
   ·simp only [bget] at e
    split at e
    ·rename_i e'; subst e'; cases e; exact .inr ⟨rfl, rfl⟩
    ·exact .inl e
  split at h
  ·cases h
   obtain ⟨k1, k2, k3⟩ := key .nil
   exact ⟨k1, k2, fun j2 b2 e => (k3 j2 b2 e).imp_right fun q => ⟨q.1, q.2, hb, fun p nm e => by cases e⟩⟩
  ·rename_i p nm
   split at h
   ·rename_i hf
    cases h
    obtain ⟨k1, k2, k3⟩ := key (.at p nm)
    exact ⟨k1, k2, fun j2 b2 e => (k3 j2 b2 e).imp_right fun q => ⟨q.1, q.2, hb, fun p' nm' e => by cases e; exact hf⟩⟩
   ·cases h
theorem bput_vb {m : Mp} {os : Slots} {j : Nat} {b : Bnd} {β β' : Binds} (h : bput j b β = some β') (hj : (os[j]?).isSome = true) (hl : ∀ p nm, b = .at p nm → ∃ loc, m nm = some loc) (hv : VB m os β) : VB m os β' := by
 obtain ⟨h1, h2, h3⟩ := bput_ext h
 refine ⟨fun j' b' e => ?_, fun j' p nm e => ?_, fun j1 j2 p nm nm' e1 e2 => ?_⟩
 ·rcases h3 j' _ e with e | ⟨rfl, e, _⟩
  ·exact hv.dom _ _ e
  ·exact hj
 ·rcases h3 j' _ e with e | ⟨rfl, e, _⟩
  ·exact hv.laid j' p nm e
  ·exact hl p nm e.symm
 ·rcases h3 j1 _ e1 with e1 | ⟨rfl, q1, q2, q3⟩
  ·rcases h3 j2 _ e2 with e2 | ⟨rfl, q1, q2, q3⟩
   ·exact hv.one j1 j2 p nm nm' e1 e2
   ·exact (bfree_spec (q3 p nm' q1.symm) _ _ e1).elim
  ·rcases h3 j2 _ e2 with e2 | ⟨rfl, _, _, _⟩
   ·exact (bfree_spec (q3 p nm q1.symm) _ _ e2).elim
   ·rfl
def Link (m m' : Mp) (ρ : Pl) (os : Slots) (β : Binds) : Prop := ∀ j b, bget β j = some b → match b with
 | .at p nm => m' (ρ j).2.1 = m nm ∧ ∀ e loc, slotTg os j e = true → m nm = some loc → loc.len = (ρ j).2.2
 | .nil => ∃ loc, m' (ρ j).2.1 = some loc ∧ loc.nil = true ∧ loc.len = 0 ∧ (ρ j).2.2 = 0
theorem Link.ext {m m' : Mp} {ρ : Pl} {os : Slots} {β β' : Binds} (h : Link m m' ρ os β') (he : Ext β β') : Link m m' ρ os β := fun j b e => h j b (he j b e)
theorem rel_agg_conv {kn : Kn} {m m' : Mp} {cs ds : List AV} {v : Value} (h : Rel kn m (.agg cs) v) : ∃ us, RelL kn m cs us ∧ (RelL kn m' ds us → Rel kn m' (.agg ds) v) := by
 cases h with
 | agg _ vs hl hr h1 =>
  exact ⟨vs.toList, ⟨by simpa using hl, fun i x v a b => hr i x v a (by simpa using b)⟩, fun this => .agg ds vs (by simpa using this.1) (fun i x v a b => this.2 i x v a (by simpa using b)) h1⟩
theorem rel_tup_conv {kn : Kn} {m m' : Mp} {cs ds : List AV} {v : Value} (h : Rel kn m (.tup cs) v) : ∃ us, RelL kn m cs us ∧ (RelL kn m' ds us → Rel kn m' (.tup ds) v) := by
 cases h with
 | tup _ vs hl hr =>
  exact ⟨vs.toList, ⟨by simpa using hl, fun i x v a b => hr i x v a (by simpa using b)⟩, fun this => .tup ds vs (by simpa using this.1) (fun i x v a b => this.2 i x v a (by simpa using b))⟩
theorem rel_rptr_conv {kn : Kn} {m m' : Mp} {cs ds : List AV} {v : Value} (h : Rel kn m (.rptr cs) v) : ∃ us, RelL kn m cs us ∧ (RelL kn m' ds us → Rel kn m' (.rptr ds) v) := by
 cases h with
 | rptr _ b o vals hk hr h1 =>
  have hget : ∀ j, j < cs.length → ((List.range cs.length).map vals)[j]? = some (vals j) := fun j hj => by simp [hj]
  refine ⟨(List.range cs.length).map vals, ⟨by simp, fun i x v a b => ?_⟩, fun hrl => ?_⟩
  ·have hi := (List.getElem?_eq_some_iff.1 a).1
   rw [hget i hi] at b; cases b; exact hr i x a
  ·have hlen : ds.length = cs.length := by have := hrl.1; simpa using this
   have hlt : ∀ j x, ds[j]? = some x → ∃ y, cs[j]? = some y := fun j x e => by
    have hj := (List.getElem?_eq_some_iff.1 e).1
    exact ⟨cs[j]'(by omega), List.getElem?_eq_getElem (by omega)⟩
   refine .rptr ds b o vals (fun j x e => ?_) (fun j x e => ?_) (fun j x e => ?_)
   ·obtain ⟨y, hy⟩ := hlt j x e; exact hk j y hy
   ·exact hrl.2 j x _ e (hget j (by have := (List.getElem?_eq_some_iff.1 e).1; omega))
   ·obtain ⟨y, hy⟩ := hlt j x e; exact h1 j y hy
theorem rel_fn_conv {kn : Kn} {m m' : Mp} {f : Fn} {a b a' b' : List AV} {v : Value} (h : Rel kn m (.fn f a b) v) : ∃ us ws, RelL kn m a us ∧ RelL kn m b ws ∧ (RelL kn m' a' us → RelL kn m' b' ws → Rel kn m' (.fn f a' b') v) := by
 cases h with
 | fn _ _ _ f1 c1 h1 h2 hf hc =>
  exact ⟨f1.toList, c1.toList, ⟨by simpa using h1, fun i x v a b => hf i x v a (by simpa using b)⟩, ⟨by simpa using h2, fun i x v a b => hc i x v a (by simpa using b)⟩,
   fun p q => .fn f a' b' f1 c1 (by simpa using p.1) (by simpa using q.1) (fun i x v a b => p.2 i x v a (by simpa using b)) (fun i x v a b => q.2 i x v a (by simpa using b))⟩
section
variable {kn : Kn} {m : Mp} {os : Slots}
def OkV (kn : Kn) (m : Mp) (os : Slots) (β β' : Binds) (s : Sh) (v : AV) (x : s.den) : Prop :=
 Ext β β' ∧ ∀ u, Rel kn m v u → (VB m os β → VB m os β') ∧ ∀ m' ρ, Link m m' ρ os β' → Rel kn m' (patV ρ s x) u
def OkL (kn : Kn) (m : Mp) (os : Slots) (β β' : Binds) (l : List Sh) (vs : List AV) (x : Sh.denL l) : Prop :=
 Ext β β' ∧ ∀ us, RelL kn m vs us → (VB m os β → VB m os β') ∧ ∀ m' ρ, Link m m' ρ os β' → RelL kn m' (patL ρ l x) us
theorem slotTg_some {j : Nat} {e : E} (h : slotTg os j e = true) : (os[j]?).isSome = true := by
 unfold slotTg at h
 split at h
 ·rename_i b e' ety he; rw [he]; rfl
 ·cases h
mutual
theorem absV_ok : ∀ (s : Sh) (β β' : Binds) (v : AV) (x : s.den), absV os β s v = some (x, β') → OkV kn m os β β' s v x
 | .d e, β, β', v, x, h => by
  have h : pairO β (absE e v) = some (x, β') := h
  unfold pairO at h
  split at h
  ·rename_i y hy
   cases h
   exact ⟨.refl _, fun u hu => ⟨id, fun m' ρ _ => ((absE_rel hy hu).rf (E.av_rf e _) m')⟩⟩
  ·cases h
 | .c a, β, β', v, x, h => by
  have h : (if eqA a v = true then some ((), β) else none) = some (x, β') := h
  split at h
  ·rename_i he
   cases h
   obtain ⟨rfl, hf⟩ := eqA_sound he
   exact ⟨.refl _, fun u hu => ⟨id, fun m' ρ _ => hu.rf hf m'⟩⟩
  ·cases h
 | .ref j off, β, β', v, x, h => by
  cases v with
  | ref p nm off' =>
   have h : (if off' = off ∧ (os[j]?).isSome = true then unitO (bput j (.at p nm) β) else none) = some (x, β') := h
   split at h
   ·rename_i ho
    obtain ⟨rfl, hoj⟩ := ho
    unfold unitO at h
    split at h
    ·rename_i b hb
     cases h
     obtain ⟨h1, h2, h3⟩ := bput_ext hb
     refine ⟨h1, fun u hu => ?_⟩
     cases hu with
     | ref _ _ _ loc hm =>
      refine ⟨bput_vb hb hoj (fun p' nm' e => by cases e; exact ⟨loc, hm⟩), fun m' ρ hl => ?_⟩
      exact .ref _ _ _ loc ((hl j _ h2).1.trans hm)
    ·cases h
   ·cases h
  | _ => cases h
 | .gs j e, β, β', v, x, h => by
  cases v with
  | gs p nm e' len =>
   have h : (if e' = e ∧ slotTg os j e = true then unitO (bput j (.at p nm) β) else none) = some (x, β') := h
   split at h
   ·rename_i ho
    obtain ⟨rfl, hst⟩ := ho
    unfold unitO at h
    split at h
    ·rename_i b hb
     cases h
     obtain ⟨h1, h2, h3⟩ := bput_ext hb
     refine ⟨h1, fun u hu => ?_⟩
     cases hu with
     | gs _ _ _ _ _ loc hm hll hr =>
      refine ⟨bput_vb hb (slotTg_some hst) (fun p' nm' e => by cases e; exact ⟨loc, hm⟩), fun m' ρ hl => ?_⟩
      obtain ⟨q1, q2⟩ := hl j _ h2
      have hL := q2 e' loc hst hm
      refine .gs _ _ _ _ _ loc (q1.trans hm) hL ?_
      rw [← hL, hll]
      cases hr with
      | srefNil _ _ _ loc' hm' hn => exact .srefNil _ _ _ loc' (q1.trans hm') hn
      | sref _ _ _ _ _ loc' hm' hn he hc hle => exact .sref _ _ _ _ _ loc' (q1.trans hm') hn he hc hle
    ·cases h
   ·cases h
  | base v =>
   have h : (match v with
    | .slice none 0 0 => if slotTg os j e = true then unitO (bput j .nil β) else none
    | _ => none) = some (x, β') := by
    unfold absV at h
    split at h
    ·rename_i e'; cases e'
    ·rename_i e'; cases e'; exact h
    ·cases h
   split at h
   ·by_cases hst : slotTg os j e = true
    ·replace h : unitO (bput j .nil β) = some (x, β') := (if_pos hst).symm.trans h
     unfold unitO at h
     split at h
     ·rename_i b hb
      cases h
      obtain ⟨h1, h2, h3⟩ := bput_ext hb
      refine ⟨h1, fun u hu => ?_⟩
      cases hu
      refine ⟨bput_vb hb (slotTg_some hst) (fun p' nm' e => by cases e), fun m' ρ hl => ?_⟩
      obtain ⟨loc, q1, q2, q3, q4⟩ := hl j _ h2
      refine .gs _ _ _ _ _ loc q1 (by omega) ?_
      rw [q4]
      exact .srefNil _ _ _ loc q1 q2
     ·cases h
    ·replace h : none = some (x, β') := (if_neg hst).symm.trans h
     cases h
   ·cases h
  | _ => cases h
 | .gv j e, β, β', v, x, h => by
  cases v with
  | gv p nm e' off len =>
   have h : (if e' = e ∧ bget β j = some (.at p nm) then some ((off, len), β) else none) = some (x, β') := h
   split at h
   ·rename_i ho
    obtain ⟨rfl, hb⟩ := ho
    cases h
    refine ⟨.refl _, fun u hu => ⟨id, fun m' ρ hl => ?_⟩⟩
    have hq := (hl j _ hb).1
    cases hu with
    | gvE => exact .gvE _ _ _ _ _ _
    | gvS _ _ _ _ _ _ hr =>
     refine .gvS _ _ _ _ _ _ ?_
     cases hr with
     | srefNil _ _ _ loc hm hn => exact .srefNil _ _ _ loc (hq.trans hm) hn
     | sref _ _ _ _ _ loc hm hn he hc hle => exact .sref _ _ _ _ _ loc (hq.trans hm) hn he hc hle
   ·cases h
  | _ => cases h
 | .mref j off, β, β', v, x, h => by
  cases v with
  | ref p nm off' =>
   have h : (if off' = off ∧ (os[j]?).isSome = true then (match bput j (.at p nm) β with
    | some β' => some (true, β')
    | none => none) else none) = some (x, β') := h
   split at h
   ·rename_i ho
    obtain ⟨rfl, hoj⟩ := ho
    split at h
    ·rename_i b hb
     cases h
     obtain ⟨h1, h2, h3⟩ := bput_ext hb
     refine ⟨h1, fun u hu => ?_⟩
     cases hu with
     | ref _ _ _ loc hm =>
      refine ⟨bput_vb hb hoj (fun p' nm' e => by cases e; exact ⟨loc, hm⟩), fun m' ρ hl => ?_⟩
      exact .mrefSome _ _ _ loc ((hl j _ h2).1.trans hm)
    ·cases h
   ·cases h
  | mref p nm off' b =>
   have h : (if off' = off ∧ bget β j = some (.at p nm) then some (b, β) else none) = some (x, β') := h
   split at h
   ·rename_i ho
    obtain ⟨rfl, hb⟩ := ho
    cases h
    refine ⟨.refl _, fun u hu => ⟨id, fun m' ρ hl => ?_⟩⟩
    cases hu with
    | mrefSome _ _ _ loc hm => exact .mrefSome _ _ _ loc ((hl j _ hb).1.trans hm)
    | mrefNil => exact .mrefNil _ _ _
   ·cases h
  | base v =>
   have h : (match v with
    | .pointer none => some (false, β)
    | _ => none) = some (x, β') := by
    unfold absV at h
    split at h
    ·rename_i e'; cases e'
    ·rename_i e'; cases e'
    ·rename_i e'; cases e'; exact h
    ·cases h
   split at h
   ·cases h
    refine ⟨.refl _, fun u hu => ⟨id, fun m' ρ hl => ?_⟩⟩
    cases hu
    exact .mrefNil _ _ _
   ·cases h
  | _ => cases h
 | .agg l, β, β', v, x, h => by
  cases v with
  | agg cs =>
   obtain ⟨h1, h2⟩ := absL_ok l β β' cs x h
   refine ⟨h1, fun u hu => ?_⟩
   obtain ⟨us, q1, _⟩ := rel_agg_conv (m' := m) (ds := cs) hu
   refine ⟨(h2 us q1).1, fun m' ρ hl => ?_⟩
   obtain ⟨us, q1, q2⟩ := rel_agg_conv (m' := m') (ds := patL ρ l x) hu
   exact q2 ((h2 us q1).2 m' ρ hl)
  | _ => cases h
 | .tup l, β, β', v, x, h => by
  cases v with
  | tup cs =>
   obtain ⟨h1, h2⟩ := absL_ok l β β' cs x h
   refine ⟨h1, fun u hu => ?_⟩
   obtain ⟨us, q1, _⟩ := rel_tup_conv (m' := m) (ds := cs) hu
   refine ⟨(h2 us q1).1, fun m' ρ hl => ?_⟩
   obtain ⟨us, q1, q2⟩ := rel_tup_conv (m' := m') (ds := patL ρ l x) hu
   exact q2 ((h2 us q1).2 m' ρ hl)
  | _ => cases h
 | .rptr l, β, β', v, x, h => by
  cases v with
  | rptr cs =>
   obtain ⟨h1, h2⟩ := absL_ok l β β' cs x h
   refine ⟨h1, fun u hu => ?_⟩
   obtain ⟨us, q1, _⟩ := rel_rptr_conv (m' := m) (ds := cs) hu
   refine ⟨(h2 us q1).1, fun m' ρ hl => ?_⟩
   obtain ⟨us, q1, q2⟩ := rel_rptr_conv (m' := m') (ds := patL ρ l x) hu
   exact q2 ((h2 us q1).2 m' ρ hl)
  | _ => cases h
 | .fn f a b, β, β', v, x, h => by
  cases v with
  | fn f' p q =>
   have h : (if f' = f then (match absL os β a p with
    | some (a', β1) => match absL os β1 b q with
     | some (b', β2) => some ((a', b'), β2)
     | none => none
    | none => none) else none) = some (x, β') := h
   split at h
   ·rename_i hf
    subst hf
    split at h
    ·rename_i a' β1 ha
     split at h
     ·rename_i b' β2 hb
      cases h
      obtain ⟨h1, h2⟩ := absL_ok a β β1 p a' ha
      obtain ⟨h3, h4⟩ := absL_ok b β1 _ q b' hb
      refine ⟨h1.trans h3, fun u hu => ?_⟩
      obtain ⟨us, ws, q1, q2, _⟩ := rel_fn_conv (m' := m) (a' := p) (b' := q) hu
      refine ⟨fun hv => (h4 ws q2).1 ((h2 us q1).1 hv), fun m' ρ hl => ?_⟩
      obtain ⟨us, ws, q1, q2, q3⟩ := rel_fn_conv (m' := m') (a' := patL ρ a a') (b' := patL ρ b b') hu
      exact q3 ((h2 us q1).2 m' ρ (hl.ext h3)) ((h4 ws q2).2 m' ρ hl)
     ·cases h
    ·cases h
   ·cases h
  | _ => cases h
 | .iface t s, β, β', v, x, h => by
  cases v with
  | iface t' y =>
   have h : (if t' = t then absV os β s y else none) = some (x, β') := h
   split at h
   ·rename_i ht
    subst ht
    obtain ⟨h1, h2⟩ := absV_ok s β β' y x h
    refine ⟨h1, fun u hu => ?_⟩
    cases hu with
    | iface _ _ v hv => exact ⟨(h2 v hv).1, fun m' ρ hl => .iface _ _ v ((h2 v hv).2 m' ρ hl)⟩
   ·cases h
  | _ => cases h
theorem absL_ok : ∀ (l : List Sh) (β β' : Binds) (vs : List AV) (x : Sh.denL l), absL os β l vs = some (x, β') → OkL kn m os β β' l vs x
 | [], β, β', vs, x, h => by
  cases vs with
  | nil => cases h; exact ⟨.refl _, fun us hu => ⟨id, fun m' ρ _ => ⟨hu.1, fun i x v a => by simp [patL] at a⟩⟩⟩
  | cons v vs => cases h
 | s :: l, β, β', vs, x, h => by
  cases vs with
  | nil => cases h
  | cons v vs =>
   have h : (match absV os β s v with
    | some (x, β1) => match absL os β1 l vs with
     | some (y, β2) => some ((x, y), β2)
     | none => none
    | none => none) = some (x, β') := h
   split at h
   ·rename_i a β1 ha
    split at h
    ·rename_i b β2 hb
     cases h
     obtain ⟨h1, h2⟩ := absV_ok s β β1 v a ha
     obtain ⟨h3, h4⟩ := absL_ok l β1 _ vs b hb
     refine ⟨h1.trans h3, fun us hu => ?_⟩
     obtain ⟨w, ws, rfl, q1, q2⟩ := hu.uncons
     exact ⟨fun hv => (h4 ws q2).1 ((h2 w q1).1 hv), fun m' ρ hl => .cons ((h2 w q1).2 m' ρ (hl.ext h3)) ((h4 ws q2).2 m' ρ hl)⟩
    ·cases h
   ·cases h
end
theorem absEnv_ok {n : Nat} {act : Act} {env : List AV} (hE : RelEnv kn m (xenv env) n act) : ∀ (l : List (Nat × Sh)) (β β' : Binds) (x : denE l), absEnv os β l env = some (x, β') →
  Ext β β' ∧ (VB m os β → VB m os β') ∧ ∀ m' ρ, Link m m' ρ os β' → ∀ t, Rel kn m' (patE ρ l x t) (act.tmps.getD t undef)
 | [], β, β', x, h => by cases h; exact ⟨.refl _, id, fun m' ρ _ t => .any _⟩
 | (t0, s) :: l, β, β', x, h => by
  have h : (match absV os β s (env.getD t0 .undef) with
   | some (x, β1) => match absEnv os β1 l env with
    | some (y, β2) => some ((x, y), β2)
    | none => none
   | none => none) = some (x, β') := h
  split at h
  ·rename_i a β1 ha
   split at h
   ·rename_i b β2 hb
    cases h
    obtain ⟨h1, h2⟩ := absV_ok (kn := kn) (m := m) s β β1 _ a ha
    obtain ⟨h3, h4, h5⟩ := absEnv_ok hE l β1 _ b hb
    refine ⟨h1.trans h3, fun hv => h4 ((h2 _ (hE.tmp t0)).1 hv), fun m' ρ hl t => ?_⟩
    show Rel kn m' (if t0 = t then patV ρ s a else patE ρ l b t) _
    split
    ·rename_i e; subst e; exact (h2 _ (hE.tmp t0)).2 m' ρ (hl.ext h3)
    ·exact h5 m' ρ hl t
   ·cases h
  ·cases h
end
end Go.Ab
