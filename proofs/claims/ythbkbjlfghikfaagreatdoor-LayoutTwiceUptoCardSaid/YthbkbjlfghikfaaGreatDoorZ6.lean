/-
  FROM A BODY TO A CONTRACT: results, objects frozen, objects forgotten.
-/
import Derived.Test.YthbkbjlfghikfaaGreatDoorZ5
set_option linter.unusedVariables false
set_option linter.unusedSimpArgs false
namespace Go.Ab
open Go Go.RowKit
def allocObjs (P : Program) : List Oper → Nat → Option Sto
 | [], _ => some []
 | o :: rest, nx => match o.op with
  | .alloc T => match zeroCells P T, allocObjs P rest (nx + 1) with
   | some z, some l => some ((nx, .cells T z) :: l)
   | _, _ => none
  | _ => allocObjs P rest nx
def rk (l : List Oper) (i : Nat) : Nat := ((l.take i).filter fun o => isAlloc o.op).length
theorem rk_succ {l : List Oper} {i : Nat} {o : Oper} (h : l[i]? = some o) : rk l (i + 1) = rk l i + (if isAlloc o.op = true then 1 else 0) := by
 have hi := (List.getElem?_eq_some_iff.1 h)
 obtain ⟨hl, he⟩ := hi
 unfold rk
 rw [List.take_succ_eq_append_getElem hl, List.filter_append, List.length_append, he]
 by_cases ha : isAlloc o.op = true <;> simp [List.filter, ha]
theorem rk_mono (l : List Oper) {i j : Nat} (h : i ≤ j) : rk l i ≤ rk l j := by
 unfold rk
 have : l.take i = (l.take j).take i := by rw [List.take_take]; congr 1; omega
 rw [this]
 exact ((List.take_sublist i (l.take j)).filter _).length_le
theorem rk_inj {l : List Oper} {i j : Nat} {o o' : Oper} (hi : l[i]? = some o) (hj : l[j]? = some o') (ho : isAlloc o.op = true) (ho' : isAlloc o'.op = true) (hne : i ≠ j) : rk l i ≠ rk l j := by
 rcases Nat.lt_or_gt_of_ne hne with h | h
 ·have h1 := rk_succ hi; rw [if_pos ho] at h1; have := rk_mono l (show i + 1 ≤ j from h); omega
 ·have h1 := rk_succ hj; rw [if_pos ho'] at h1; have := rk_mono l (show j + 1 ≤ i from h); omega
theorem allocObjs_get {P : Program} : ∀ {l : List Oper} {nx : Nat} {objs : Sto} (h : allocObjs P l nx = some objs) {j : Nat} {o : Oper} {T : TypeId}, l[j]? = some o → o.op = .alloc T → ∃ z, zeroCells P T = some z ∧ objs[rk l j]? = some (nx + rk l j, .cells T z)
 | [], nx, objs, h, j, o, T, hj, ho => by simp at hj
 | o' :: rest, nx, objs, h, j, o, T, hj, ho => by
  unfold allocObjs at h
  split at h
  ·rename_i T' ho'
   split at h
   ·rename_i z l hz hl
    cases h
    cases j with
    | zero =>
     simp at hj; subst hj
     rw [ho] at ho'; cases ho'
     exact ⟨z, hz, by simp [rk]⟩
    | succ j =>
     obtain ⟨z', h1, h2⟩ := allocObjs_get hl (by simpa using hj) ho
     refine ⟨z', h1, ?_⟩
     have : rk (o' :: rest) (j + 1) = rk rest j + 1 := by simp [rk, List.filter, ho', isAlloc]
     rw [this]
     simpa [Nat.add_assoc, Nat.add_comm 1] using h2
   ·cases h
  ·rename_i hno
   cases j with
   | zero => simp at hj; subst hj; exact absurd ho (hno T)
   | succ j =>
    obtain ⟨z', h1, h2⟩ := allocObjs_get h (by simpa using hj) ho
    refine ⟨z', h1, ?_⟩
    have hna : isAlloc o'.op = false := by
     cases hop : o'.op <;> simp [isAlloc]
     exact absurd hop (hno _)
    have : rk (o' :: rest) (j + 1) = rk rest j := by simp [rk, List.filter, hna]
    rw [this]; exact h2
theorem allocObjs_form {P : Program} : ∀ {l : List Oper} {nx : Nat} {objs : Sto} (h : allocObjs P l nx = some objs) {k nm : Nat} {ob : AObj}, objs[k]? = some (nm, ob) → nm = nx + k ∧ ∃ T z, ob = .cells T z ∧ zeroCells P T = some z
 | [], nx, objs, h, k, nm, ob, hk => by simp [allocObjs] at h; subst h; simp at hk
 | o' :: rest, nx, objs, h, k, nm, ob, hk => by
  unfold allocObjs at h
  split at h
  ·rename_i T' ho'
   split at h
   ·rename_i z l hz hl
    cases h
    cases k with
    | zero => simp at hk; obtain ⟨rfl, rfl⟩ := hk; exact ⟨rfl, T', z, rfl, hz⟩
    | succ k =>
     obtain ⟨h1, h2⟩ := allocObjs_form hl (by simpa using hk)
     exact ⟨by omega, h2⟩
   ·cases h
  ·exact allocObjs_form h hk
section
variable {C : Cx} {B : Base} {kn : Kn} {m : Mp} {σ : Sto} {nx : Nat} {w : World}
theorem Inv.ahead (hI : Inv C B kn m σ nx w) {l : List Oper} {objs : Sto} (h : allocObjs C.P l nx = some objs) : Inv C B kn m (σ ++ objs) (nx + objs.length) w ∧ Keep m σ nx m (σ ++ objs) (nx + objs.length) := by
 have hget : ∀ (p nm : Nat) (ob : AObj), (σ ++ objs)[p]? = some (nm, ob) → (p < σ.length ∧ σ[p]? = some (nm, ob)) ∨ (σ.length ≤ p ∧ nm = nx + (p - σ.length) ∧ p - σ.length < objs.length ∧ ∃ T z, ob = .cells T z ∧ zeroCells C.P T = some z) := fun p nm ob e => by
  rcases Nat.lt_or_ge p σ.length with hp | hp
  ·rw [List.getElem?_append_left hp] at e; exact .inl ⟨hp, e⟩
  ·rw [List.getElem?_append_right hp] at e
   obtain ⟨h1, h2⟩ := allocObjs_form h e
   exact .inr ⟨hp, h1, (List.getElem?_eq_some_iff.1 e).1, h2⟩
 refine ⟨⟨hI.knok, hI.size, hI.os, hI.tape, hI.output, hI.old, fun p nm ob e => ?_, fun p nm ob loc e hl hm hnl => ?_, fun p nm ob loc p' nm' ob' loc' e e' hl hl' hm hm' hn1 hn2 hne => ?_, fun n hn => hI.dom n (by omega), fun p nm ob e => ?_, fun p p' nm ob ob' e e' => ?_, fun p p' nm nm' ob ob' e e' s1 s2 => ?_, hI.glob, hI.tab⟩,
  ⟨by omega, fun _ _ => rfl, fun p nm ob e _ => by rw [List.getElem?_append_left (List.getElem?_eq_some_iff.1 e).1]; exact e⟩⟩
 ·rcases hget p nm ob e with ⟨_, e'⟩ | ⟨_, rfl, _, T, z, rfl, hz⟩
  ·exact hI.obj p nm ob e'
  ·simp only [ObjRel, hI.dom _ (Nat.le_add_right nx _)]; exact hz
 ·rcases hget p nm ob e with ⟨_, e'⟩ | ⟨_, rfl, _, _⟩
  ·exact hI.own p nm ob loc e' hl hm hnl
  ·rw [hI.dom _ (Nat.le_add_right nx _)] at hm; cases hm
 ·rcases hget p nm ob e with ⟨_, e1⟩ | ⟨_, rfl, _, _⟩
  ·rcases hget p' nm' ob' e' with ⟨_, e2⟩ | ⟨_, rfl, _, _⟩
   ·exact hI.dist p nm ob loc p' nm' ob' loc' e1 e2 hl hl' hm hm' hn1 hn2 hne
   ·rw [hI.dom _ (Nat.le_add_right nx _)] at hm'; cases hm'
  ·rw [hI.dom _ (Nat.le_add_right nx _)] at hm; cases hm
 ·rcases hget p nm ob e with ⟨_, e'⟩ | ⟨_, rfl, hlt, _⟩
  ·have := hI.lt p nm ob e'; omega
  ·omega
 ·rcases hget p nm ob e with ⟨_, e1⟩ | ⟨hp, h1, _, _⟩
  ·rcases hget p' nm ob' e' with ⟨_, e2⟩ | ⟨_, h2, _, _⟩
   ·exact hI.uniq p p' nm ob ob' e1 e2
   ·have := hI.lt p nm ob e1; omega
  ·rcases hget p' nm ob' e' with ⟨_, e2⟩ | ⟨hp', h2, _, _⟩
   ·have := hI.lt p' nm ob' e2; omega
   ·omega
 ·rcases hget p nm ob e with ⟨_, e1⟩ | ⟨_, _, _, T, z, rfl, _⟩
  ·rcases hget p' nm' ob' e' with ⟨_, e2⟩ | ⟨_, _, _, T, z, rfl, _⟩
   ·exact hI.stk1 _ _ _ _ _ _ e1 e2 s1 s2
   ·cases s2
  ·cases s1
theorem Inv.lay (hI : Inv C B kn m σ nx w) {p nm T : Nat} {z : List AV} (hp : σ[p]? = some (nm, .cells T z)) (hm : m nm = none) {zv : Array Value} (hz : RelC kn m z zv.toList) :
  Inv C B kn (mput m nm ⟨w.heap.size, 0, 0, 0, 0, false⟩) σ nx (w.alloc (.cells zv T)) := by
 have hmle : MpLe m (mput m nm ⟨w.heap.size, 0, 0, 0, 0, false⟩) := fun n l e => by
  rw [mput_ne]
  ·exact e
  ·intro en; subst en; rw [hm] at e; cases e
 obtain ⟨_, hI0⟩ := hI.grow (kn' := kn) (w' := w.alloc (.cells zv T)) (by simp) rfl rfl rfl (fun b hb => Below.heap_alloc _ _ _ hb) (fun _ _ => rfl) (fun b o v hb e => absurd (hI.kn_lt e) (by omega))
 have hlt := hI.lt p nm _ hp
 refine ⟨hI0.knok, hI0.size, hI0.os, hI0.tape, hI0.output, hI0.old, fun p' nm' ob' e => ?_, fun p' nm' ob' l e hl hm' hnl => ?_, fun p1 n1 o1 l1 p2 n2 o2 l2 e1 e2 v1 v2 m1 m2 hn1 hn2 hne => ?_, fun n hn => ?_, hI.lt, hI.uniq, hI.stk1, fun g => (hI.glob g).mono (KnLe.refl _) hmle, hI.tab⟩
 ·by_cases hn : nm' = nm
  ·subst hn
   have := hI.uniq p p' nm' _ _ hp e
   subst this
   rw [hp] at e; cases e
   simp only [ObjRel, mput_same]
   exact ⟨trivial, trivial, zv, heap_alloc_new w _, hz.mono (KnLe.refl _) hmle⟩
  ·have hm'' : mput m nm ⟨w.heap.size, 0, 0, 0, 0, false⟩ nm' = m nm' := mput_ne _ _ _ _ hn
   have h1 := hI0.obj p' nm' ob' e
   exact h1.mono_m hm'' hmle
 ·by_cases hn : nm' = nm
  ·subst hn
   rw [mput_same] at hm'; cases hm'
   refine ⟨by simp, .inl hI.size, fun _ o => ?_⟩
   cases hk : kn w.heap.size o with
   | none => rfl
   | some v => have := hI.kn_lt hk; omega
  ·rw [mput_ne _ _ _ _ hn] at hm'; exact hI0.own p' nm' ob' l e hl hm' hnl
 ·by_cases h1 : n1 = nm
  ·subst h1
   rw [mput_same] at m1; cases m1
   by_cases h2 : n2 = n1
   ·subst h2; exact absurd (hI.uniq _ _ _ _ _ e1 e2) hne
   ·rw [mput_ne _ _ _ _ h2] at m2
    have := (hI.own p2 n2 o2 l2 e2 v2 m2 hn2).1
    exact fun h => by simp at h; omega
  ·rw [mput_ne _ _ _ _ h1] at m1
   by_cases h2 : n2 = nm
   ·subst h2
    rw [mput_same] at m2; cases m2
    have := (hI.own p1 n1 o1 l1 e1 v1 m1 hn1).1
    exact fun h => by simp at h; omega
   ·rw [mput_ne _ _ _ _ h2] at m2
    exact hI.dist p1 n1 o1 l1 p2 n2 o2 l2 e1 e2 v1 v2 m1 m2 hn1 hn2 hne
 ·rw [mput_ne _ _ _ _ (by omega)]; exact hI.dom n hn
end
def wantedA (ops : Array Oper) (env : Nat → AV) (o : Oper) : Option Bool :=
 match o.guard with
 | none => some true
 | some (j, want) => match (ops[j]?).bind (·.dst) with
  | some t => match env t with
   | .bool b => some (b == want)
   | .base (.tuple _) => some false
   | _ => none
  | none => some false
theorem wanted_sound {kn : Kn} {m : Mp} {env : Nat → AV} {n : Nat} {act : Act} (hE : RelEnv kn m env n act) {ops : Array Oper} {o : Oper} {b : Bool} (h : wantedA ops env o = some b) : Region.wanted o (yielded ops act.tmps) = b := by
 unfold wantedA at h
 unfold Region.wanted
 split at h
 ·rename_i hg; rw [hg]; cases h; rfl
 ·rename_i j want hg
  rw [hg]
  simp only
  unfold yielded
  split at h
  ·rename_i t ht
   rw [ht]
   simp only [Option.bind_some]
   have hr := hE.tmp t
   split at h
   ·rename_i q hq
    cases h
    rw [hq] at hr
    generalize hv : act.tmps.getD t undef = v at hr
    cases hr
    have : act.tmps[t]? = some (.bool q) := by
     simp only [Array.getD_eq_getD_getElem?] at hv
     cases ha : act.tmps[t]? with
     | none => simp [ha, undef] at hv
     | some u => simp [ha] at hv; rw [hv]
    simp [this]
   ·rename_i vs hq
    cases h
    rw [hq] at hr
    generalize hv : act.tmps.getD t undef = v at hr
    cases hr
    simp only [Array.getD_eq_getD_getElem?] at hv
    cases ha : act.tmps[t]? with
    | none => simp
    | some u => simp [ha] at hv; simp [hv]
   ·cases h
  ·rename_i ht
   rw [ht]
   cases h
   rfl
def aopAt (C : Cx) (H : Hints) (tt : Nat → Bool) (ops : Array Oper) (p₀ n₀ : Nat) (i : Nat) (K : St → Prop) (KP : AV → Sto → Nat → Prop) (s : St) : Prop :=
 match ops[i]? with
 | none => K s
 | some o => ∃ t, wantedA ops s.env o = some t ∧ (t = true → aop C H (tt i) (p₀ + rk ops.toList i, n₀ + rk ops.toList i) o (fun v σ nx => K ⟨updo s.env o.dst v, σ, nx⟩) KP s) ∧ (t = false → K ⟨updo s.env o.dst .undef, s.σ, s.nx⟩)
structure RR (C : Cx) (B : Base) (n : Nat) (ds : List Deferred) (kn₀ : Kn) (m₀ : Mp) (σ₀ : Sto) (nx₀ : Nat) (ops : Array Oper) (p₀ n₀ : Nat) (listed : Nat → Bool) (kn : Kn) (m : Mp) (s : St) (act : Act) (w : World) : Prop where
 rs : RS C B n ds kn₀ m₀ σ₀ nx₀ kn m s act w
 pend : ∀ j o T, ops[j]? = some o → o.op = .alloc T → listed j = false → m (n₀ + rk ops.toList j) = none ∧ n₀ + rk ops.toList j < s.nx ∧ nx₀ ≤ n₀ + rk ops.toList j ∧ ∃ z, zeroCells C.P T = some z ∧ s.σ[p₀ + rk ops.toList j]? = some (n₀ + rk ops.toList j, .cells T z)
def lput (l : Nat → Bool) (i : Nat) : Nat → Bool := fun j => if j = i then true else l j
section
variable {C : Cx} {B : Base} {n : Nat} {ds : List Deferred} {kn₀ : Kn} {m₀ : Mp} {σ₀ : Sto} {nx₀ : Nat} {ops : Array Oper} {p₀ n₀ : Nat}
theorem aopAt_sound {H : Hints} {tt : Nat → Bool} {i : Nat} {K : St → Prop} {KP : AV → Sto → Nat → Prop} {s : St} {listed : Nat → Bool} {kn : Kn} {m : Mp} {act : Act} {w : World} (hlt₀ : ∀ (p nm : Nat) (ob : AObj), σ₀[p]? = some (nm, ob) → nm < nx₀)
  (hd : ∀ (i : Nat) (o : Oper) (d : Nat), ops[i]? = some o → o.dst = some d → d < n) (hR : RR C B n ds kn₀ m₀ σ₀ nx₀ ops p₀ n₀ listed kn m s act w) (hun : listed i = false) (h : aopAt C H tt ops p₀ n₀ i K KP s)
  {next : Act → World → Prop} {Q : Exit → Act → World → Prop}
  (hnext : ∀ s' kn' m' act' w', K s' → RR C B n ds kn₀ m₀ σ₀ nx₀ ops p₀ n₀ (lput listed i) kn' m' s' act' w' → next act' w')
  (hpan : ∀ v u env' kn' m' σ' nx' act' w', KP v σ' nx' → Rel kn' m' v u → RS C B n ds kn₀ m₀ σ₀ nx₀ kn' m' ⟨env', σ', nx'⟩ act' w' → Q (.panic [{ v := u, recovered := false }]) act' w') :
  wpOp C.P ops Q i next act w := by
 unfold aopAt at h
 unfold wpOp
 have pend' : ∀ {s' : St} {m' : Mp}, Keep m s.σ s.nx m' s'.σ s'.nx → ∀ j o T, ops[j]? = some o → o.op = .alloc T → lput listed i j = false → m' (n₀ + rk ops.toList j) = none ∧ n₀ + rk ops.toList j < s'.nx ∧ nx₀ ≤ n₀ + rk ops.toList j ∧ ∃ z, zeroCells C.P T = some z ∧ s'.σ[p₀ + rk ops.toList j]? = some (n₀ + rk ops.toList j, .cells T z) := by
  intro s' m' hk j o T hj ho hl
  have hl' : listed j = false := by
   unfold lput at hl
   split at hl
   ·cases hl
   ·exact hl
  obtain ⟨h1, h2, h3, z, h4, h5⟩ := hR.pend j o T hj ho hl'
  exact ⟨by rw [hk.ag _ h2]; exact h1, Nat.lt_of_lt_of_le h2 hk.le, h3, z, h4, hk.pend _ _ _ h5 h1⟩
 split at h
 ·rename_i ho
  rw [ho]
  exact hnext s kn m act w h ⟨hR.rs, pend' (Keep.refl _ _ _)⟩
 ·rename_i o ho
  obtain ⟨t, ht, h1, h2⟩ := h
  have hw := wanted_sound hR.rs.env ht
  rw [ho]
  simp only
  rw [hw]
  cases t with
  | false =>
   simp only [Bool.false_eq_true, if_false]
   refine hnext _ kn m _ w (h2 rfl) ⟨⟨hR.rs.env.put o.dst (fun d => hd i o d ho) (.base _), ?_, hR.rs.inv, hR.rs.knle, hR.rs.keep⟩, pend' (Keep.refl _ _ _)⟩
   cases hdst : o.dst <;> simp [Act.put, hR.rs.defs]
  | true =>
   simp only [if_true]
   refine .inl ?_
   by_cases ha : isAlloc o.op = true
   ·obtain ⟨T, hT⟩ : ∃ T, o.op = .alloc T := by
     cases hop : o.op <;> simp [hop, isAlloc] at ha
     exact ⟨_, rfl⟩
    have h1' := h1 rfl
    have hkind : kindOf H o = .fn := by unfold kindOf; rw [hT]
    unfold aop at h1'
    rw [hkind] at h1'
    obtain ⟨v, hv, hK⟩ := h1'
    obtain ⟨q1, q2, q3, z, q4, q5⟩ := hR.pend i o T ho hT hun
    rw [hT] at hv
    simp only [fop, q4, Option.some.injEq] at hv
    subst hv
    obtain ⟨ti, zv, hi, hzv, rfl, hzr⟩ := zero_sound q4 kn m
    have hI' := hR.rs.inv.lay (T := T) q5 q1 hzr
    have hmle : MpLe m (mput m (n₀ + rk ops.toList i) ⟨w.heap.size, 0, 0, 0, 0, false⟩) := fun n l e => by
     rw [mput_ne]
     ·exact e
     ·intro en; subst en; rw [q1] at e; cases e
    have hrun : (execOp act.eval o).run C.P w = .ok (.value (.pointer (some ⟨w.heap.size, 0, none⟩))) (w.alloc (.cells zv.cells T)) := by
     obtain ⟨dst, op, type, pos, after, guard⟩ := o
     simp only at hT
     subst hT
     simp only [execOp, Instr.alloc, zeroValue, Sem.run_bind, run_typeInfo' hi, Result.andThen_ok, hzv, Sem.run_pure]
     rfl
    unfold Oper.wp
    rw [hrun]
    refine hnext _ kn (mput m (n₀ + rk ops.toList i) ⟨w.heap.size, 0, 0, 0, 0, false⟩) _ _ hK ⟨⟨(hR.rs.env.mono (KnLe.refl _) hmle).put o.dst (fun d => hd i o d ho) (.ref _ _ _ _ (mput_same _ _ _)), ?_, hI', hR.rs.knle, ?_⟩, ?_⟩
    ·cases hdst : o.dst <;> simp [Act.put, hR.rs.defs]
    ·exact ⟨hR.rs.keep.le, fun k hk => by rw [mput_ne _ _ _ _ (by omega)]; exact hR.rs.keep.ag k hk, hR.rs.keep.pend⟩
    ·intro j o' T' hj ho' hl
     have hji : j ≠ i ∧ listed j = false := by
      unfold lput at hl
      split at hl
      ·cases hl
      ·rename_i hne; exact ⟨hne, hl⟩
     obtain ⟨r1, r2, r3, r4⟩ := hR.pend j o' T' hj ho' hji.2
     have hrk := rk_inj (l := ops.toList) (i := j) (j := i) (by simpa using hj) (by simpa using ho) (by simp [ho', isAlloc]) ha hji.1
     exact ⟨by rw [mput_ne _ _ _ _ (by omega)]; exact r1, r2, r3, r4⟩
   ·have ha' : isAlloc o.op = false := by simpa using ha
    refine aop_sound hlt₀ hR.rs ha' (fun d => hd i o d ho) (h1 rfl) (fun v kn' m' σ' nx' act' w' hK hRS hkp => ?_) (fun v u kn' m' σ' nx' act' w' hKP hv hRS => hpan v u _ kn' m' σ' nx' act' w' hKP hv hRS)
    exact hnext _ kn' m' act' w' hK ⟨hRS, pend' hkp⟩
def aseq (C : Cx) (H : Hints) (tt : Nat → Bool) (ops : Array Oper) (p₀ n₀ : Nat) (K : St → Prop) (KP : AV → Sto → Nat → Prop) : List Nat → St → Prop
 | [], s => K s
 | i :: rest, s => aopAt C H tt ops p₀ n₀ i (aseq C H tt ops p₀ n₀ K KP rest) KP s
theorem aseq_sound {H : Hints} {tt : Nat → Bool} {K : St → Prop} {KP : AV → Sto → Nat → Prop} (hlt₀ : ∀ (p nm : Nat) (ob : AObj), σ₀[p]? = some (nm, ob) → nm < nx₀)
  (hd : ∀ (i : Nat) (o : Oper) (d : Nat), ops[i]? = some o → o.dst = some d → d < n) {Q : Exit → Act → World → Prop}
  (hend : ∀ s' kn' m' act' w', K s' → RS C B n ds kn₀ m₀ σ₀ nx₀ kn' m' s' act' w' → Q .normal act' w')
  (hpan : ∀ v u env' kn' m' σ' nx' act' w', KP v σ' nx' → Rel kn' m' v u → RS C B n ds kn₀ m₀ σ₀ nx₀ kn' m' ⟨env', σ', nx'⟩ act' w' → Q (.panic [{ v := u, recovered := false }]) act' w') :
  ∀ (l : List Nat) (listed : Nat → Bool) (s : St) (kn : Kn) (m : Mp) (act : Act) (w : World), l.Nodup → (∀ i ∈ l, listed i = false) → RR C B n ds kn₀ m₀ σ₀ nx₀ ops p₀ n₀ listed kn m s act w → aseq C H tt ops p₀ n₀ K KP l s →
   wpOps C.P ops Q l act w
 | [], listed, s, kn, m, act, w, _, _, hR, h => by simpa [wpOps] using hend s kn m act w h hR.rs
 | i :: rest, listed, s, kn, m, act, w, hnd, hl, hR, h => by
  rw [wpOps_cons]
  refine aopAt_sound hlt₀ hd hR (hl i (by simp)) h (fun s' kn' m' act' w' hK hR' => ?_) hpan
  refine aseq_sound hlt₀ hd hend hpan rest (lput listed i) s' kn' m' act' w' (List.nodup_cons.1 hnd).2 (fun j hj => ?_) hR' hK
  unfold lput
  rw [if_neg (show ¬ j = i from fun e => (List.nodup_cons.1 hnd).1 (by rw [← e]; exact hj))]
  exact hl j (by simp [hj])
end
end Go.Ab

namespace Go.Ab
open Go Go.RowKit
def aw (C : Cx) (n : Nat) (ds : List Deferred) (c : Code) (Q : AExit → St → Prop) (s : St) : Prop :=
 ∀ (B : Base) (kn : Kn) (m : Mp) (act : Act) (w : World), RelEnv kn m s.env n act → act.defers = ds → Inv C B kn m s.σ s.nx w →
  c.wp C.P (fun e act' w' => ∃ ae s' kn' m', RelExit kn' m' ae e ∧ RS C B n ds kn m s.σ s.nx kn' m' s' act' w' ∧ Q ae s') act w
section
variable {C : Cx} {n : Nat} {ds : List Deferred} {Q : AExit → St → Prop} {s : St}
theorem RS.refl {B : Base} {kn : Kn} {m : Mp} {act : Act} {w : World} (h1 : RelEnv kn m s.env n act) (h2 : act.defers = ds) (h3 : Inv C B kn m s.σ s.nx w) : RS C B n ds kn m s.σ s.nx kn m s act w :=
 ⟨h1, h2, h3, KnLe.refl _, Keep.refl _ _ _⟩
theorem RS.trans {B : Base} {kn kn1 kn2 : Kn} {m m1 m2 : Mp} {σ : Sto} {nx : Nat} {s1 s2 : St} {act1 act2 : Act} {w1 w2 : World} (hlt : ∀ (p nm : Nat) (ob : AObj), σ[p]? = some (nm, ob) → nm < nx)
  (h : RS C B n ds kn m σ nx kn1 m1 s1 act1 w1) (k : RS C B n ds kn1 m1 s1.σ s1.nx kn2 m2 s2 act2 w2) : RS C B n ds kn m σ nx kn2 m2 s2 act2 w2 :=
 ⟨k.env, k.defs, k.inv, h.knle.trans k.knle, h.keep.trans k.keep hlt⟩
theorem aw_mono {c : Code} {Q' : AExit → St → Prop} (h : aw C n ds c Q s) (hq : ∀ e s', Q e s' → Q' e s') : aw C n ds c Q' s :=
 fun B kn m act w h1 h2 h3 => wp_mono (h B kn m act w h1 h2 h3) fun e a w' ⟨ae, s', kn', m', a1, a2, a3⟩ => ⟨ae, s', kn', m', a1, a2, hq _ _ a3⟩
theorem aw_skip (h : Q .normal s) : aw C n ds .skip Q s := fun B kn m act w h1 h2 h3 => wp_skip ⟨.normal, s, kn, m, trivial, .refl h1 h2 h3, h⟩
theorem aw_exit {id : Nat} (h : Q (.exit id) s) : aw C n ds (.exit id) Q s := fun B kn m act w h1 h2 h3 => wp_exit ⟨.exit id, s, kn, m, rfl, .refl h1 h2 h3, h⟩
theorem aw_ret (h : Q .ret s) : aw C n ds .ret Q s := fun B kn m act w h1 h2 h3 => wp_ret ⟨.ret, s, kn, m, trivial, .refl h1 h2 h3, h⟩
def athen (K : St → Prop) (Q : AExit → St → Prop) : AExit → St → Prop
 | .normal, s => K s
 | e, s => Q e s
theorem aw_seq {x y : Code} (h : aw C n ds x (athen (aw C n ds y Q) Q) s) : aw C n ds (.seq x y) Q s := by
 intro B kn m act w h1 h2 h3
 refine wp_seq (wp_mono (h B kn m act w h1 h2 h3) ?_)
 rintro e a1 w1 ⟨ae, s1, kn1, m1, hx, hR, hq⟩
 cases e with
 | normal =>
  cases ae <;> simp only [RelExit] at hx
  show y.wp C.P _ a1 w1
  refine wp_mono (hq B kn1 m1 a1 w1 hR.env hR.defs hR.inv) ?_
  rintro e a2 w2 ⟨ae2, s2, kn2, m2, hx2, hR2, hq2⟩
  exact ⟨ae2, s2, kn2, m2, hx2, hR.trans h3.lt hR2, hq2⟩
 | exit id => cases ae <;> first | (simp only [RelExit] at hx; done) | exact ⟨_, s1, kn1, m1, hx, hR, hq⟩
 | goto l => cases ae <;> first | (simp only [RelExit] at hx; done) | exact ⟨_, s1, kn1, m1, hx, hR, hq⟩
 | ret => cases ae <;> first | (simp only [RelExit] at hx; done) | exact ⟨_, s1, kn1, m1, hx, hR, hq⟩
 | panic ch => cases ae <;> first | (simp only [RelExit] at hx; done) | exact ⟨_, s1, kn1, m1, hx, hR, hq⟩
 | outgrown => cases ae <;> simp only [RelExit] at hx
theorem aw_cond {c : Operand} {x y : Code} {b : Bool} (hc : opv C s.env c = .bool b) (ht : b = true → aw C n ds x Q s) (hf : b = false → aw C n ds y Q s) : aw C n ds (.cond c x y) Q s := by
 intro B kn m act w h1 h2 h3
 have hr := rel_opv h3 h1 c
 rw [hc] at hr
 generalize hv : act.eval c = v at hr
 cases hr
 refine wp_cond hv ?_
 cases b
 ·exact hf rfl B kn m act w h1 h2 h3
 ·exact ht rfl B kn m act w h1 h2 h3
def ablock (id : Nat) (Q : AExit → St → Prop) : AExit → St → Prop
 | .exit i, s => if i = id then Q .normal s else Q (.exit i) s
 | e, s => Q e s
theorem aw_block {id : Nat} {c : Code} (h : aw C n ds c (ablock id Q) s) : aw C n ds (.block id c) Q s := by
 intro B kn m act w h1 h2 h3
 refine wp_block (wp_mono (h B kn m act w h1 h2 h3) ?_)
 rintro e a1 w1 ⟨ae, s1, kn1, m1, hx, hR, hq⟩
 cases e with
 | exit i =>
  cases ae <;> simp only [RelExit] at hx
  subst hx
  simp only [Exit.inBlock, ablock] at hq ⊢
  split at hq
  ·rename_i he; rw [if_pos he]; exact ⟨.normal, s1, kn1, m1, trivial, hR, hq⟩
  ·rename_i he; rw [if_neg he]; exact ⟨.exit _, s1, kn1, m1, rfl, hR, hq⟩
 | normal => cases ae <;> first | (simp only [RelExit] at hx; done) | exact ⟨_, s1, kn1, m1, hx, hR, hq⟩
 | goto l => cases ae <;> first | (simp only [RelExit] at hx; done) | exact ⟨_, s1, kn1, m1, hx, hR, hq⟩
 | ret => cases ae <;> first | (simp only [RelExit] at hx; done) | exact ⟨_, s1, kn1, m1, hx, hR, hq⟩
 | panic ch => cases ae <;> first | (simp only [RelExit] at hx; done) | exact ⟨_, s1, kn1, m1, hx, hR, hq⟩
 | outgrown => cases ae <;> simp only [RelExit] at hx
theorem wp_loop_rel {P : Program} {c : Code} {Q : Exit → Act → World → Prop} (I : Nat → Act → World → Prop) (round : ∀ d a w, I d a w → c.wp P (Exit.then (fun a' w' => ∃ d', d' < d ∧ I d' a' w') Q) a w) {d : Nat} {a : Act} {w : World} (h₀ : I d a w) :
  (Code.loop c).wp P Q a w := by
 intro b k cs
 have key : ∀ d a w, I d a w → ∃ e a' w', Q e a' w' ∧ Arrives P (lone (b.at a (.code c :: .inLoop c :: k)) cs w) b k cs e a' w' := by
  intro d
  induction d using Nat.strongRecOn with
  | _ d ih =>
   intro a w hI
   obtain ⟨e, a₁, w₁, hq, harr⟩ := round d a w hI b (.inLoop c :: k) cs
   cases e with
   | normal =>
    obtain ⟨d', hlt, hI₁⟩ := hq
    obtain ⟨e₂, a₂, w₂, hq₂, harr₂⟩ := ih d' hlt a₁ w₁ hI₁
    exact ⟨e₂, a₂, w₂, hq₂, .of_steps (Steps.trans harr (.one step_inLoop)) harr₂⟩
   | exit id => exact ⟨_, a₁, w₁, hq, .pass (x := .inLoop c) rfl (fun _ _ => .inl (by simp)) harr⟩
   | goto l => exact ⟨_, a₁, w₁, hq, .pass (x := .inLoop c) rfl (fun _ _ => .inl (by simp)) harr⟩
   | ret => exact ⟨_, a₁, w₁, hq, .pass (x := .inLoop c) rfl (fun _ _ => .inl (by simp)) harr⟩
   | panic ch => exact ⟨_, a₁, w₁, hq, .pass (x := .inLoop c) rfl (fun _ _ => .inl (by simp)) harr⟩
   | outgrown => exact ⟨_, a₁, w₁, hq, .pass (x := .inLoop c) rfl (fun _ _ => .inl (by simp)) harr⟩
 obtain ⟨e, a', w', hq, harr⟩ := key d a w h₀
 exact ⟨e, a', w', hq, .of_steps (.one step_loop) harr⟩
theorem aw_loop {c : Code} (J : Nat → St → Prop) (round : ∀ d s, J d s → aw C n ds c (athen (fun s' => ∃ d', d' < d ∧ J d' s') Q) s) {d : Nat} (h₀ : J d s) : aw C n ds (.loop c) Q s := by
 intro B kn m act w h1 h2 h3
 refine wp_loop_rel (fun d a w' => ∃ s' kn' m', J d s' ∧ RS C B n ds kn m s.σ s.nx kn' m' s' a w') ?_ ⟨s, kn, m, h₀, .refl h1 h2 h3⟩
 rintro d a w' ⟨s', kn', m', hJ, hR⟩
 refine wp_mono (round d s' hJ B kn' m' a w' hR.env hR.defs hR.inv) ?_
 rintro e a1 w1 ⟨ae, s1, kn1, m1, hx, hR1, hq⟩
 have hR' := hR.trans h3.lt hR1
 cases e with
 | normal =>
  cases ae <;> simp only [RelExit] at hx
  obtain ⟨d', hlt, hJ'⟩ := hq
  exact ⟨d', hlt, s1, kn1, m1, hJ', hR'⟩
 | exit id => cases ae <;> first | (simp only [RelExit] at hx; done) | exact ⟨_, s1, kn1, m1, hx, hR', hq⟩
 | goto l => cases ae <;> first | (simp only [RelExit] at hx; done) | exact ⟨_, s1, kn1, m1, hx, hR', hq⟩
 | ret => cases ae <;> first | (simp only [RelExit] at hx; done) | exact ⟨_, s1, kn1, m1, hx, hR', hq⟩
 | panic ch => cases ae <;> first | (simp only [RelExit] at hx; done) | exact ⟨_, s1, kn1, m1, hx, hR', hq⟩
 | outgrown => cases ae <;> simp only [RelExit] at hx
def areg (C : Cx) (H : Hints) (tt : Nat → Bool) (ops : Array Oper) (K : St → Prop) (KP : AV → Sto → Nat → Prop) : List Oper → Nat → Nat × Nat → St → Prop
 | [], _, _, s => K s
 | o :: rest, k, al, s => ∃ t, wantedA ops s.env o = some t ∧
   (t = true → aop C H (tt k) al o (fun v σ nx => areg C H tt ops K KP rest (k + 1) (if isAlloc o.op = true then (al.1 + 1, al.2 + 1) else al) ⟨updo s.env o.dst v, σ, nx⟩) KP s) ∧
   (t = false → areg C H tt ops K KP rest (k + 1) (if isAlloc o.op = true then (al.1 + 1, al.2 + 1) else al) ⟨updo s.env o.dst .undef, s.σ, s.nx⟩)
theorem aop_mono {H : Hints} {tot : Bool} {al : Nat × Nat} {o : Oper} {K K' KP KP' : AV → Sto → Nat → Prop} {s : St} (h : aop C H tot al o K KP s) (hk : ∀ v σ nx, K v σ nx → K' v σ nx) (hp : ∀ v σ nx, KP v σ nx → KP' v σ nx) : aop C H tot al o K' KP' s := by
 unfold aop at h ⊢
 split
 ·rename_i e; rw [e] at h; obtain ⟨v, a, b⟩ := h; exact ⟨v, a, hk _ _ _ b⟩
 ·rename_i e; rw [e] at h; obtain ⟨v, σ', nx', a, b⟩ := h; exact ⟨v, σ', nx', a, hk _ _ _ b⟩
 ·rename_i e; rw [e] at h
  simp only at h
  split
  ·rename_i c hc
   rw [hc] at h
   obtain ⟨g, args, a, Qc, b, c1, c2, d⟩ := h
   exact ⟨g, args, a, Qc, b, fun v σ' nx' q => hk _ _ _ (c1 v σ' nx' q), fun v σ' nx' q => hp _ _ _ (c2 v σ' nx' q), d⟩
  ·rename_i hc
   split at h
   ·rename_i c hc'; exact absurd hc' (hc c)
   ·exact h
 ·rename_i e; rw [e] at h
  simp only at h
  split
  ·rename_i x hx; rw [hx] at h; obtain ⟨t, v, a, b⟩ := h; exact ⟨t, v, a, hp _ _ _ b⟩
  ·rename_i hx
   split at h
   ·rename_i x hx'; exact absurd hx' (hx x)
   ·exact h
 ·rename_i e; rw [e] at h; exact h
theorem aseq_of_areg {H : Hints} {tt : Nat → Bool} {ops : Array Oper} {K : St → Prop} {KP : AV → Sto → Nat → Prop} {p₀ n₀ : Nat} : ∀ (l : List Oper) (k : Nat) (s : St), (∀ j : Nat, l[j]? = ops[k + j]?) →
  areg C H tt ops K KP l k (p₀ + rk ops.toList k, n₀ + rk ops.toList k) s → aseq C H tt ops p₀ n₀ K KP (List.range' k l.length) s
 | [], k, s, hl, h => h
 | o :: rest, k, s, hl, h => by
  have h0 : ops[k]? = some o := by simpa using (hl 0).symm
  have hrest : ∀ j : Nat, rest[j]? = ops[k + 1 + j]? := fun j => by have := hl (j + 1); simpa [Nat.add_assoc, Nat.add_comm 1 j] using this
  have hrk := rk_succ (l := ops.toList) (i := k) (o := o) (by simpa using h0)
  have hal : (if isAlloc o.op = true then (p₀ + rk ops.toList k + 1, n₀ + rk ops.toList k + 1) else (p₀ + rk ops.toList k, n₀ + rk ops.toList k)) = (p₀ + rk ops.toList (k + 1), n₀ + rk ops.toList (k + 1)) := by
   rw [hrk]; split <;> simp [Nat.add_assoc]
  simp only [areg, hal] at h
  simp only [List.length_cons, List.range'_succ, aseq, aopAt, h0]
  obtain ⟨t, a, b, c⟩ := h
  exact ⟨t, a, fun ht => aop_mono (b ht) (fun v σ nx hh => aseq_of_areg rest (k + 1) _ hrest hh) (fun _ _ _ hh => hh), fun ht => aseq_of_areg rest (k + 1) _ hrest (c ht)⟩
def dstOK (n : Nat) (ops : Array Oper) : Bool := ops.toList.all fun o => match o.dst with | some d => decide (d < n) | none => true
theorem dstOK_sound {ops : Array Oper} (h : dstOK n ops = true) : ∀ (i : Nat) (o : Oper) (d : Nat), ops[i]? = some o → o.dst = some d → d < n := by
 intro i o d hi hd
 have := List.all_eq_true.1 h o (List.mem_of_getElem? (by simpa using hi))
 rw [hd] at this
 simpa using this
theorem aw_region {H : Hints} {id : Nat} {ops : Array Oper} {objs : Sto} (hd : dstOK n ops = true) (ho : allocObjs C.P ops.toList s.nx = some objs)
  (h : areg C H (fun _ => true) ops (Q .normal) (fun v σ nx => ∀ env, Q (.pan v) ⟨env, σ, nx⟩) ops.toList 0 (s.σ.length, s.nx) ⟨s.env, s.σ ++ objs, s.nx + objs.length⟩) : aw C n ds (.region id ops false) Q s := by
 intro B kn m act w h1 h2 h3
 obtain ⟨hI', hk'⟩ := h3.ahead ho
 refine wp_region ?_
 have hs := aseq_of_areg (ops := ops) (p₀ := s.σ.length) (n₀ := s.nx) ops.toList 0 ⟨s.env, s.σ ++ objs, s.nx + objs.length⟩ (fun j => by simp) (by simpa [rk] using h)
 have hrange : List.range' 0 ops.toList.length = List.range ops.size := by rw [List.range_eq_range']; simp
 rw [hrange] at hs
 refine aseq_sound (KP := fun v σ nx => ∀ env, Q (.pan v) ⟨env, σ, nx⟩) (K := Q .normal) (B := B) (n := n) (ds := ds) (kn₀ := kn) (m₀ := m) (σ₀ := s.σ) (nx₀ := s.nx) h3.lt (dstOK_sound hd) (fun s' kn' m' act' w' hK hR => ⟨.normal, s', kn', m', trivial, hR, hK⟩)
  (fun v u env' kn' m' σ' nx' act' w' hKP hv hR => ⟨.pan v, ⟨env', σ', nx'⟩, kn', m', ⟨u, rfl, hv⟩, hR, hKP env'⟩) (List.range ops.size) (fun _ => false) ⟨s.env, s.σ ++ objs, s.nx + objs.length⟩ kn m act w List.nodup_range (fun _ _ => rfl) ⟨⟨h1, h2, hI', KnLe.refl _, hk'⟩, ?_⟩ hs
 intro j o T hj hT _
 obtain ⟨z, hz, hg⟩ := allocObjs_get ho (j := j) (by simpa using hj) hT
 refine ⟨h3.dom _ (Nat.le_add_right _ _), ?_, Nat.le_add_right _ _, z, hz, ?_⟩
 ·have := (List.getElem?_eq_some_iff.1 hg).1; simp; omega
 ·rw [List.getElem?_append_right (Nat.le_add_right _ _), Nat.add_sub_cancel_left]; exact hg
end
end Go.Ab

namespace Go.Ab
open Go Go.RowKit
theorem Inv.take {C : Cx} {B : Base} {kn : Kn} {m : Mp} {σ : Sto} {nx : Nat} {w : World} (h : Inv C B kn m σ nx w) (k : Nat) : Inv C B kn m (σ.take k) nx w := by
 have get : ∀ (p nm : Nat) (ob : AObj), (σ.take k)[p]? = some (nm, ob) → σ[p]? = some (nm, ob) := fun p nm ob e => by
  rw [List.getElem?_take] at e
  split at e
  ·exact e
  ·cases e
 exact ⟨h.knok, h.size, h.os, h.tape, h.output, h.old, fun p nm ob e => h.obj p nm ob (get p nm ob e), fun p nm ob loc e => h.own p nm ob loc (get p nm ob e),
  fun p nm ob loc p' nm' ob' loc' e e' => h.dist p nm ob loc p' nm' ob' loc' (get _ _ _ e) (get _ _ _ e'), h.dom, fun p nm ob e => h.lt p nm ob (get _ _ _ e), fun p p' nm ob ob' e e' => h.uniq p p' nm ob ob' (get _ _ _ e) (get _ _ _ e'), fun p p' nm nm' ob ob' e e' => h.stk1 _ _ _ _ _ _ (get _ _ _ e) (get _ _ _ e'), h.glob, h.tab⟩
theorem aw_forget {C : Cx} {n : Nat} {ds : List Deferred} {c : Code} {Q : AExit → St → Prop} {s : St} (h : aw C n ds c (fun e s' => ∃ k, s.σ.length ≤ k ∧ Q e ⟨s'.env, s'.σ.take k, s'.nx⟩) s) : aw C n ds c Q s := by
 intro B kn m act w h1 h2 h3
 refine wp_mono (h B kn m act w h1 h2 h3) ?_
 rintro e a1 w1 ⟨ae, s1, kn1, m1, hx, hR, k, hk, hq⟩
 refine ⟨ae, ⟨s1.env, s1.σ.take k, s1.nx⟩, kn1, m1, hx, ⟨hR.env, hR.defs, hR.inv.take k, hR.knle, hR.keep.le, hR.keep.ag, fun p nm ob e e' => ?_⟩, hq⟩
 have hp : p < s.σ.length := (List.getElem?_eq_some_iff.1 e).1
 show (s1.σ.take k)[p]? = _
 rw [List.getElem?_take, if_pos (by omega)]
 exact hR.keep.pend p nm ob e e'
def frzF (σ : Sto) : Nat → AV → AV
 | 0, v => v
 | f + 1, v => match v with
  | .sref p nm esz off len => match sget σ p nm with
   | some (.gvec esz' _ rows) => if esz' = esz ∧ off + len ≤ rows.length then .vec esz (((rows.drop off).take len).map fun r => r.map (frzF σ f)) else v
   | _ => v
  | .ref p nm off => match sget σ p nm with
   | some (.cells _ cs) => .rptr ((cs.drop off).map (frzF σ f))
   | _ => v
  | .eref p nm i off => match sget σ p nm with
   | some (.gvec _ _ rows) => match rows[i]? with
    | some row => .rptr ((row.drop off).map (frzF σ f))
    | none => v
   | _ => v
  | .gs p nm e len => match sget σ p nm with
   | some (.tg e2 _ l) => if h : e2 = e then .tvec e (castL h l) else v
   | _ => v
  | .agg cs => .agg (cs.map (frzF σ f))
  | .tup cs => .tup (cs.map (frzF σ f))
  | .iface t x => .iface t (frzF σ f x)
  | v => v
def knAll (kn : Kn) (sz : Nat) (w : World) : Kn := fun b o => if b < sz then kn b o else w.cell? ⟨b, o, none⟩
theorem knAll_le {C : Cx} {B : Base} {kn : Kn} {m : Mp} {σ : Sto} {nx : Nat} {w : World} (h : Inv C B kn m σ nx w) (sz : Nat) : KnLe kn (knAll kn sz w) := fun b o v e => by
 unfold knAll
 split
 ·exact e
 ·exact h.knok b o v e
theorem gv_frz {kn kn' : Kn} {m : Mp} {w : World} {p nm esz ety len : Nat} {rows : List (List AV)} {v : Value} (hgv : GvRel kn m w nm esz ety rows) (hv : Rel kn m (.sref p nm esz 0 len) v) (hl : len = rows.length) (hle : KnLe kn kn')
  (hk : ∀ loc, m nm = some loc → loc.nil = false → ∀ o, kn' loc.blk o = w.cell? ⟨loc.blk, o, none⟩) : Rel kn' m (.vec esz rows) v := by
 cases hv with
 | srefNil _ _ _ loc hm hn =>
  have := hgv.nilRows hm hn
  subst this
  exact .vecNone _
 | sref _ _ _ _ _ loc hm hn he hc hm62 =>
  obtain ⟨hll, he', arr, hw, hsz, hlc, hmx, hone, hrl, hrr⟩ := hgv.get hm hn
  have hkn := hk loc hm hn
  subst hl
  have hcell : ∀ i row j x, rows[i]? = some row → row[j]? = some x → ∃ hlt : loc.off + i * esz + j < arr.size, w.cell? ⟨loc.blk, loc.off + i * esz + j, none⟩ = some arr[loc.off + i * esz + j] ∧ Rel kn m x arr[loc.off + i * esz + j] ∧ arr[loc.off + i * esz + j].oneCell' = true := by
   intro i row j x hr hj
   have hjl : j < esz := by rw [← hrl _ _ hr]; exact (List.getElem?_eq_some_iff.1 hj).1
   have h1 := idx_lt (show i < loc.cap by have := (List.getElem?_eq_some_iff.1 hr).1; omega) hjl
   have hlt : loc.off + i * esz + j < arr.size := by omega
   exact ⟨hlt, by simp [World.cell?, hw, hlt], hrr _ _ _ _ _ hr hj (by simp [hlt]), hone _ (by simp)⟩
  have := Rel.vec (kn := kn') (m := m) esz rows loc.blk loc.off loc.cap (fun i j => arr.getD (loc.off + i * esz + j) undef) (by omega) hm62 hrl
   (fun i row j x hr hj => by
    obtain ⟨hlt, c1, c2, c3⟩ := hcell i row j x hr hj
    rw [hkn, c1]; simp [hlt])
   (fun i row j x hr hj => by
    obtain ⟨hlt, c1, c2, c3⟩ := hcell i row j x hr hj
    have := c2.mono hle (MpLe.refl m)
    simpa [hlt] using this)
   (fun i row j x hr hj => by
    obtain ⟨hlt, c1, c2, c3⟩ := hcell i row j x hr hj
    simpa [hlt] using c3)
  simpa using this
theorem frz_gen {P : Program} {B : Base} {kn kn' : Kn} {m : Mp} {σ : Sto} {w : World} (hle : KnLe kn kn') (hobj : ∀ (p nm : Nat) (ob : AObj), σ[p]? = some (nm, ob) → live ob → ObjRel P B kn m w nm ob)
  (known : ∀ (p nm : Nat) (ob : AObj) (loc : Loc), σ[p]? = some (nm, ob) → live ob → m nm = some loc → loc.nil = false → ∀ o, kn' loc.blk o = w.cell? ⟨loc.blk, o, none⟩) :
  ∀ (f : Nat) (x : AV) (v : Value), Rel kn m x v → Rel kn' m (frzF σ f x) v := by
 intro f
 induction f with
 | zero => intro x v hr; exact hr.mono hle (MpLe.refl m)
 | succ f ih =>
  intro x v hr
  have stay := hr.mono hle (MpLe.refl m)
  cases hr with
  | gs p nm e len v loc hm hl hr =>
   simp only [frzF]
   split
   ·rename_i e2 ety l hs
    split
    ·rename_i he
     subst he
     have hp := sget_some hs
     have hgv : GvRel kn m w nm e2.size ety (l.map e2.row) := hobj _ _ _ hp trivial
     refine .tvec _ _ _ (gv_frz hgv hr ?_ hle (fun loc' hm' hn' => known p nm _ loc' hp trivial hm' hn'))
     obtain ⟨loc2, hm2, hl2, _⟩ := hgv
     rw [hm] at hm2; cases hm2
     rw [castL_rfl]
     omega
    ·exact stay
   ·exact stay
  | srefNil p nm esz loc hm hn =>
   simp only [frzF]
   split
   ·rename_i esz' ety rows hs
    split
    ·rename_i hc
     obtain ⟨rfl, hle⟩ := hc
     simp only [List.drop_zero, List.take_zero, List.map_nil]
     exact .vecNone _
    ·exact stay
   ·exact stay
  | sref p nm esz off len loc hm hnl he hl hm' =>
   simp only [frzF]
   split
   ·rename_i esz' ety rows hs
    split
    ·rename_i hc
     obtain ⟨rfl, hle⟩ := hc
     have hp := sget_some hs
     obtain ⟨hll, hez, arr, hw, hsz, hle', hmx, hone, hrl, hrr⟩ := GvRel.get (hobj _ _ _ hp trivial) hm hnl
     have hkn := known p nm _ loc hp trivial hm hnl
     have hlen : (((rows.drop off).take len).map fun r => r.map (frzF σ f)).length = len := by simp; omega
     have hsub : ∀ (i : Nat) (row : List AV), (((rows.drop off).take len).map fun r => r.map (frzF σ f))[i]? = some row → i < len ∧ ∃ row0, rows[off + i]? = some row0 ∧ row = row0.map (frzF σ f) := fun i row hi => by
      rw [List.getElem?_map, List.getElem?_take] at hi
      split at hi
      ·rename_i hil
       rw [List.getElem?_drop] at hi
       cases hr0 : rows[off + i]? with
       | none => simp [hr0] at hi
       | some row0 => simp [hr0] at hi; exact ⟨hil, row0, rfl, hi.symm⟩
      ·simp at hi
     have hcell : ∀ i row0 j x, i < len → rows[off + i]? = some row0 → row0[j]? = some x → ∃ hlt : loc.off + (off + i) * loc.esz + j < arr.size, w.cell? ⟨loc.blk, loc.off + (off + i) * loc.esz + j, none⟩ = some arr[loc.off + (off + i) * loc.esz + j] ∧ Rel kn m x arr[loc.off + (off + i) * loc.esz + j] ∧ arr[loc.off + (off + i) * loc.esz + j].oneCell' = true := by
      intro i row0 j x hi hr0 hj
      have hjl : j < esz' := by rw [← hrl _ _ hr0]; exact (List.getElem?_eq_some_iff.1 hj).1
      have h1 := idx_lt (show off + i < loc.cap by omega) hjl
      have hlt : loc.off + (off + i) * loc.esz + j < arr.size := by rw [he]; omega
      exact ⟨hlt, by simp [World.cell?, hw, hlt], hrr _ _ _ _ _ hr0 hj (by rw [← he]; simp [hlt]), hone _ (by simp)⟩
     have := Rel.vec (kn := kn') (m := m) esz' (((rows.drop off).take len).map fun r => r.map (frzF σ f)) loc.blk (loc.off + off * loc.esz) (loc.cap - off)
      (fun i j => arr.getD (loc.off + (off + i) * loc.esz + j) undef) (by rw [hlen]; omega) (by rw [hlen]; exact hm')
      (fun i row hi => by obtain ⟨_, row0, h1, rfl⟩ := hsub i row hi; rw [List.length_map]; exact hrl _ _ h1)
      (fun i row j x hi hj => by
       obtain ⟨hil, row0, h1, rfl⟩ := hsub i row hi
       rw [List.getElem?_map] at hj
       cases hj0 : row0[j]? with
       | none => simp [hj0] at hj
       | some x0 =>
        obtain ⟨hlt, c1, c2, c3⟩ := hcell i row0 j x0 hil h1 hj0
        rw [hkn, show loc.off + off * loc.esz + i * esz' + j = loc.off + (off + i) * loc.esz + j by rw [Nat.add_mul, he]; omega, c1]
        simp [hlt])
      (fun i row j x hi hj => by
       obtain ⟨hil, row0, h1, rfl⟩ := hsub i row hi
       rw [List.getElem?_map] at hj
       cases hj0 : row0[j]? with
       | none => simp [hj0] at hj
       | some x0 =>
        simp [hj0] at hj
        subst hj
        obtain ⟨hlt, c1, c2, c3⟩ := hcell i row0 j x0 hil h1 hj0
        have := ih x0 _ c2
        simpa [hlt] using this)
      (fun i row j x hi hj => by
       obtain ⟨hil, row0, h1, rfl⟩ := hsub i row hi
       rw [List.getElem?_map] at hj
       cases hj0 : row0[j]? with
       | none => simp [hj0] at hj
       | some x0 =>
        obtain ⟨hlt, c1, c2, c3⟩ := hcell i row0 j x0 hil h1 hj0
        simpa [hlt] using c3)
     rw [hlen] at this
     exact this
    ·exact stay
   ·exact stay
  | ref p nm off loc hm =>
   simp only [frzF]
   split
   ·rename_i T cs hs
    have hp := sget_some hs
    have hob := hobj _ _ _ hp trivial
    simp only [ObjRel, hm] at hob
    obtain ⟨hnl, h0, arr, hw, hrl⟩ := hob
    have hkn := known p nm _ loc hp trivial hm hnl
    have hcell : ∀ j x, cs[off + j]? = some x → ∃ hlt : off + j < arr.size, w.cell? ⟨loc.blk, off + j, none⟩ = some arr[off + j] ∧ Rel kn m x arr[off + j] ∧ arr[off + j].oneCell' = true := by
     intro j x hj
     have hlt : off + j < arr.size := by rw [← Array.length_toList, ← hrl.1.1]; exact (List.getElem?_eq_some_iff.1 hj).1
     exact ⟨hlt, by simp [World.cell?, hw, hlt], hrl.1.2 _ _ _ hj (by simp [hlt]), hrl.2 _ (by simp)⟩
    refine .rptr _ loc.blk _ (fun j => arr.getD (off + j) undef) (fun j x hj => ?_) (fun j x hj => ?_) (fun j x hj => ?_) <;>
    ·rw [List.getElem?_map, List.getElem?_drop] at hj
     cases hj0 : cs[off + j]? with
     | none => simp [hj0] at hj
     | some x0 =>
      simp [hj0] at hj
      obtain ⟨hlt, c1, c2, c3⟩ := hcell j x0 hj0
      first
       | (rw [hkn, h0, Nat.zero_add, c1]; simp [hlt]; done)
       | (subst hj; have := ih x0 _ c2; simpa [hlt] using this)
       | (simpa [hlt] using c3)
   ·exact stay
  | eref p nm i off loc hm =>
   simp only [frzF]
   split
   ·rename_i esz' ety rows hs
    split
    ·rename_i row hrow
     have hp := sget_some hs
     have hnl : loc.nil = false := by
      cases hx : loc.nil with
      | false => rfl
      | true => rw [GvRel.nilRows (hobj _ _ _ hp trivial) hm hx] at hrow; simp at hrow
     obtain ⟨hll, hez, arr, hw, hsz, hle', hmx, hone, hrl, hrr⟩ := GvRel.get (hobj _ _ _ hp trivial) hm hnl
     have hkn := known p nm _ loc hp trivial hm hnl
     have hcell : ∀ j x, row[off + j]? = some x → ∃ hlt : loc.off + i * loc.esz + (off + j) < arr.size, w.cell? ⟨loc.blk, loc.off + i * loc.esz + (off + j), none⟩ = some arr[loc.off + i * loc.esz + (off + j)] ∧ Rel kn m x arr[loc.off + i * loc.esz + (off + j)] ∧ arr[loc.off + i * loc.esz + (off + j)].oneCell' = true := by
      intro j x hj
      have hjl : off + j < esz' := by rw [← hrl _ _ hrow]; exact (List.getElem?_eq_some_iff.1 hj).1
      have h1 := idx_lt (show i < loc.cap by have := (List.getElem?_eq_some_iff.1 hrow).1; omega) hjl
      have hlt : loc.off + i * loc.esz + (off + j) < arr.size := by rw [hez]; omega
      exact ⟨hlt, by simp [World.cell?, hw, hlt], hrr _ _ _ _ _ hrow hj (by rw [← hez]; simp [hlt]), hone _ (by simp)⟩
     refine .rptr _ loc.blk _ (fun j => arr.getD (loc.off + i * loc.esz + (off + j)) undef) (fun j x hj => ?_) (fun j x hj => ?_) (fun j x hj => ?_) <;>
     ·rw [List.getElem?_map, List.getElem?_drop] at hj
      cases hj0 : row[off + j]? with
      | none => simp [hj0] at hj
      | some x0 =>
       simp [hj0] at hj
       obtain ⟨hlt, c1, c2, c3⟩ := hcell j x0 hj0
       first
        | (rw [hkn, Nat.add_assoc (loc.off + i * loc.esz), c1]; simp [hlt]; done)
        | (subst hj; have := ih x0 _ c2; simpa [hlt] using this)
        | (simpa [hlt] using c3)
    ·exact stay
   ·exact stay
  | agg cs vs hl hr h1 =>
   simp only [frzF]
   refine .agg _ _ (by simpa using hl) (fun i x v a b => ?_) h1
   rw [List.getElem?_map] at a
   cases hc : cs[i]? with
   | none => simp [hc] at a
   | some x0 => simp [hc] at a; subst a; exact ih x0 v (hr i x0 v hc b)
  | tup cs vs hl hr =>
   simp only [frzF]
   refine .tup _ _ (by simpa using hl) (fun i x v a b => ?_)
   rw [List.getElem?_map] at a
   cases hc : cs[i]? with
   | none => simp [hc] at a
   | some x0 => simp [hc] at a; subst a; exact ih x0 v (hr i x0 v hc b)
  | iface t x v hr => simp only [frzF]; exact .iface t _ _ (ih x v hr)
  | _ => simpa only [frzF] using stay
theorem frz_sound {C : Cx} {B : Base} {kn : Kn} {m : Mp} {σ : Sto} {nx : Nat} {w : World} (h : Inv C B kn m σ nx w) (hown : ∀ b, ¬ B.own b) : ∀ (f : Nat) (x : AV) (v : Value), Rel kn m x v → Rel (knAll kn B.w.heap.size w) m (frzF σ f x) v :=
 frz_gen (P := C.P) (knAll_le h _) (fun p nm ob e _ => h.obj p nm ob e) (fun p nm ob loc e l hm hnl o => by
  have := (h.own p nm ob loc e l hm hnl).2.1
  unfold knAll
  rw [if_neg]
  rcases this with h1 | h1
  ·omega
  ·exact absurd h1 (hown _))
def res1 (P : Program) (s : St) : ResultVar → Option AV
 | .tmp t => some (s.env t)
 | .cell a T => readA P T s.σ (s.env a)
def resA (P : Program) (rs : List ResultVar) (s : St) : Option AV :=
 match rs with
 | [r] => res1 P s r
 | rs => (rs.mapM (res1 P s)).map .tup
def resOne (tmps : Array Value) : ResultVar → Sem Value
 | .tmp t => pure (tmps.getD t undef)
 | .cell a t => do loadVar t (← asAddr (tmps.getD a undef))
theorem results_eq (fn : Func) (tmps : Array Value) : results fn tmps = (do let vs ← fn.results.mapM (resOne tmps); pure (if h : vs.size = 1 then vs[0] else .tuple vs)) := by
 unfold results
 congr 2
theorem res1_sound {C : Cx} {B : Base} {kn : Kn} {m : Mp} {s : St} {w : World} {n : Nat} {act : Act} (hI : Inv C B kn m s.σ s.nx w) (hE : RelEnv kn m s.env n act) {r : ResultVar} {x : AV} (h : res1 C.P s r = some x) :
  ∃ v, (resOne act.tmps r).run C.P w = .ok v w ∧ Rel kn m x v := by
 cases r with
 | tmp t => simp only [res1, Option.some.injEq] at h; subst h; exact ⟨_, rfl, hE.tmp t⟩
 | cell a T =>
  simp only [res1] at h
  have ha := hE.tmp a
  obtain ⟨u, h1, h2⟩ := run_readA hI h ha
  refine ⟨u, ?_, h2⟩
  generalize hv : act.tmps.getD a undef = v at *
  have : ∃ ad, v = .pointer (some ad) := by
   cases hx : s.env a <;> rw [hx] at ha h <;> simp [readA] at h <;> cases ha <;> exact ⟨_, rfl⟩
  obtain ⟨ad, rfl⟩ := this
  simp only [resOne, hv, asAddr]
  simpa [Instr.loadAt, Instr.sureAddr] using h1
theorem results_sound {C : Cx} {B : Base} {kn : Kn} {m : Mp} {s : St} {w : World} {n : Nat} {act : Act} (hI : Inv C B kn m s.σ s.nx w) (hE : RelEnv kn m s.env n act) {fn : Func} {x : AV} (h : resA C.P fn.results.toList s = some x) :
  ∃ v, (results fn act.tmps).run C.P w = .ok v w ∧ Rel kn m x v := by
 have many : ∀ (rs : List ResultVar) (xs : List AV), rs.mapM (res1 C.P s) = some xs → ∃ vs : List Value, (rs.mapM (resOne act.tmps)).run C.P w = .ok vs w ∧ RelL kn m xs vs := by
  intro rs
  induction rs with
  | nil => intro xs h; simp at h; subst h; exact ⟨[], rfl, .nil _ _⟩
  | cons r rest ih =>
   intro xs h
   simp only [List.mapM_cons, Option.bind_eq_bind] at h
   cases h1 : res1 C.P s r with
   | none => simp [h1] at h
   | some x =>
    cases h2 : rest.mapM (res1 C.P s) with
    | none => simp [h1, h2] at h
    | some xs' =>
     simp [h1, h2] at h
     subst h
     obtain ⟨v, q1, q2⟩ := res1_sound hI hE h1
     obtain ⟨vs, q3, q4⟩ := ih xs' h2
     refine ⟨v :: vs, ?_, .cons q2 q4⟩
     simp only [List.mapM_cons, Sem.run_bind, q1, q3, Result.andThen_ok, Sem.run_pure]
 have hmap : ∀ (xs : List AV), fn.results.toList.mapM (res1 C.P s) = some xs → ∃ vs : List Value, (fn.results.mapM (resOne act.tmps)).run C.P w = .ok vs.toArray w ∧ RelL kn m xs vs := by
  intro xs hx
  obtain ⟨vs, q1, q2⟩ := many _ _ hx
  refine ⟨vs, ?_, q2⟩
  rw [Array.mapM_eq_mapM_toList, Sem.run_map, q1]
  rfl
 unfold resA at h
 split at h
 ·rename_i r hr
  obtain ⟨vs, q1, q2⟩ := hmap [x] (by rw [hr]; simp [h])
  obtain ⟨v, vs', rfl, h1, h2⟩ := q2.uncons
  have : vs' = [] := List.eq_nil_of_length_eq_zero h2.1.symm
  subst this
  refine ⟨v, ?_, h1⟩
  rw [results_eq]
  simp only [Sem.run_bind, q1, Result.andThen_ok]
  rfl
 ·rename_i hne
  cases hx : fn.results.toList.mapM (res1 C.P s) with
  | none => simp [hx] at h
  | some xs =>
   simp [hx] at h
   subst h
   obtain ⟨vs, q1, q2⟩ := hmap xs hx
   refine ⟨.tuple vs.toArray, ?_, .tup _ _ (by simpa using q2.1) (fun i x v a b => q2.2 i x v a (by simpa using b))⟩
   rw [results_eq]
   simp only [Sem.run_bind, q1, Result.andThen_ok]
   have hlen : vs.length ≠ 1 := by
    rw [← q2.1]
    have : xs.length = fn.results.toList.length := by
     have gen : ∀ (rs : List ResultVar) (xs : List AV), rs.mapM (res1 C.P s) = some xs → xs.length = rs.length := by
      intro rs
      induction rs with
      | nil => intro xs h; simp at h; subst h; rfl
      | cons r rest ih =>
       intro xs h
       simp only [List.mapM_cons, Option.bind_eq_bind] at h
       cases h1 : res1 C.P s r with
       | none => simp [h1] at h
       | some x =>
        cases h2 : rest.mapM (res1 C.P s) with
        | none => simp [h1, h2] at h
        | some xs' => simp [h1, h2] at h; subst h; simp [ih xs' h2]
     exact gen _ _ hx
    rw [this]
    intro h1
    obtain ⟨r, hr⟩ := List.length_eq_one_iff.1 h1
    exact hne r hr
   simp [hlen]
def argEnv (args : List AV) : Nat → AV := fun t => args.getD t .undef
theorem argEnv_rel {kn : Kn} {m : Mp} {args : List AV} {vs : List Value} (h : RelL kn m args vs) {n : Nat} (hn : args.length ≤ n) : RelEnv kn m (argEnv args) n { tmps := vs.toArray ++ Array.replicate (n - vs.toArray.size) undef, defers := [] } := by
 refine ⟨by simp [h.1] at *; omega, fun t => ?_⟩
 simp only [argEnv, Array.getD_eq_getD_getElem?, List.getD_eq_getElem?_getD]
 rcases Nat.lt_or_ge t args.length with hlt | hge
 ·have hlt' : t < vs.length := by rw [← h.1]; exact hlt
  rw [Array.getElem?_append_left (by simpa using hlt')]
  simp only [List.getElem?_toArray, List.getElem?_eq_getElem hlt, List.getElem?_eq_getElem hlt', Option.getD_some]
  exact h.2 t _ _ (List.getElem?_eq_getElem hlt) (List.getElem?_eq_getElem hlt')
 ·rw [List.getElem?_eq_none hge, Array.getElem?_append_right (by simpa [← h.1] using hge)]
  have : (Array.replicate (n - vs.toArray.size) undef)[t - vs.toArray.size]?.getD undef = undef := by
   rw [Array.getElem?_replicate]; split <;> rfl
  rw [this]
  exact .base _
def PPost (C : Cx) (F : Nat) (rs : List ResultVar) (Q : AOut → Prop) : AExit → St → Prop
 | .normal, s => ∃ r, resA C.P rs s = some r ∧ RF (frzF s.σ F r) ∧ Q (.ret (frzF s.σ F r))
 | .ret, s => ∃ r, resA C.P rs s = some r ∧ RF (frzF s.σ F r) ∧ Q (.ret (frzF s.σ F r))
 | .pan v, s => RF (frzF s.σ F v) ∧ Q (.pan (frzF s.σ F v))
 | _, _ => False
theorem bodyOK_mk {P : Program} {g : FuncId} {fn : Func} {c : Code} (hf : P.funcs[g]? = some fn) (hb : fn.body = some c) (hname : (fn.name == "runtime.NumGoroutine") = false) : bodyOK P g = true := by
 unfold bodyOK; simp [hf, hb]; simpa using hname
theorem pcall_intro {C : Cx} {g : FuncId} {fn : Func} {c : Code} {args : List AV} (F : Nat) (hf : C.P.funcs[g]? = some fn) (hb : fn.body = some c) (hname : (fn.name == "runtime.NumGoroutine") = false) (hn : args.length ≤ fn.ntmps) {Q : AOut → Prop}
  (h : aw C fn.ntmps [] c (PPost C F fn.results.toList Q) ⟨argEnv args, [], 0⟩) : PCall C g args Q := by
 refine fun kn w vs hk hr => .inl ⟨bodyOK_mk hf hb hname, ?_⟩
 let B : Base := ⟨w, kn, fun _ => False⟩
 have hI : Inv C B kn m0 [] 0 w := ⟨hk.ok, Nat.le_refl _, rfl, rfl, rfl, fun _ _ _ => ⟨rfl, rfl⟩, fun p nm ob e => by simp at e, fun p nm ob loc e => by simp at e, fun p nm ob loc p' nm' ob' loc' e => by simp at e, fun _ _ => rfl, fun p nm ob e => by simp at e, fun p p' nm ob ob' e => by simp at e, fun p p' nm nm' ob ob' e => by simp at e, hk.glob, hk.tab.base _ (fun _ _ _ h => h)⟩
 refine calls_of_wp hf hb (wp_mono (h B kn m0 _ w (argEnv_rel hr hn) rfl hI) ?_)
 rintro e act' w' ⟨ae, s', kn', m', hx, hR, hq⟩
 have fin : ∀ (x : AV) (v : Value), Rel kn' m' x v → RF (frzF s'.σ F x) → Rel (knAll kn' w.heap.size w') m0 (frzF s'.σ F x) v := fun x v hr hf => (frz_sound hR.inv (fun _ h => h) F x v hr).rf hf m0
 have hbel : Below w.heap.size w w' := ⟨hR.inv.os, hR.inv.tape, hR.inv.output, hR.inv.size, fun k hk => (hR.inv.old k hk (fun h => h)).1⟩
 have hkok : KnOK C (knAll kn' w.heap.size w') w' := ⟨fun b o v e => by
  unfold knAll at e
  split at e
  ·exact hR.inv.knok b o v e
  ·exact e, fun g => ((hR.inv.glob g).mono (knAll_le hR.inv _) (MpLe.refl _)).rf (C.rf g) m0, hR.inv.tabW⟩
 have hkold : ∀ b, b < w.heap.size → knAll kn' w.heap.size w' b = kn b := fun b hb => by
  funext o
  unfold knAll
  rw [if_pos hb]
  rw [(hR.inv.old b hb (fun h => h)).2]
 have back : ∀ (v : AV), Rel kn' m' v undef → True := fun _ _ => trivial
 cases e with
 | normal =>
  cases ae <;> first | (simp only [RelExit] at hx; done) | skip
  obtain ⟨r, h1, h2, h3⟩ := hq
  obtain ⟨v, q1, q2⟩ := results_sound hR.inv hR.env h1
  exact ⟨hR.defs, v, q1, _, knAll kn' w.heap.size w', h3, fin r v q2 h2, hkok, hbel, hkold⟩
 | ret =>
  cases ae <;> first | (simp only [RelExit] at hx; done) | skip
  obtain ⟨r, h1, h2, h3⟩ := hq
  obtain ⟨v, q1, q2⟩ := results_sound hR.inv hR.env h1
  exact ⟨hR.defs, v, q1, _, knAll kn' w.heap.size w', h3, fin r v q2 h2, hkok, hbel, hkold⟩
 | panic ch =>
  cases ae <;> first | (simp only [RelExit] at hx; done) | skip
  obtain ⟨u, rfl, hu⟩ := hx
  exact ⟨hR.defs, _, knAll kn' w.heap.size w', hq.2, ⟨u, rfl, fin _ u hu hq.1⟩, hkok, hbel, hkold⟩
 | exit id => cases ae <;> first | (simp only [RelExit] at hx; done) | exact hq.elim
 | goto l => cases ae <;> first | (simp only [RelExit] at hx; done) | exact hq.elim
 | outgrown => cases ae <;> (simp only [RelExit] at hx)
def APost (C : Cx) (rs : List ResultVar) (Q : AOut → Sto → Nat → Prop) : AExit → St → Prop
 | .normal, s => ∃ r, resA C.P rs s = some r ∧ Q (.ret r) s.σ s.nx
 | .ret, s => ∃ r, resA C.P rs s = some r ∧ Q (.ret r) s.σ s.nx
 | .pan v, s => Q (.pan v) s.σ s.nx
 | _, _ => False
theorem acall_intro {C : Cx} {g : FuncId} {fn : Func} {c : Code} {args : List AV} {σ : Sto} {nx : Nat} (hf : C.P.funcs[g]? = some fn) (hb : fn.body = some c) (hname : (fn.name == "runtime.NumGoroutine") = false) (hn : args.length ≤ fn.ntmps) {Q : AOut → Sto → Nat → Prop}
  (h : aw C fn.ntmps [] c (APost C fn.results.toList Q) ⟨argEnv args, σ, nx⟩) : ACall C g args σ nx Q := by
 refine fun B kn m w vs hI hr => .inl ⟨bodyOK_mk hf hb hname, ?_⟩
 refine calls_of_wp hf hb (wp_mono (h B kn m _ w (argEnv_rel hr hn) rfl hI) ?_)
 rintro e act' w' ⟨ae, s', kn', m', hx, hR, hq⟩
 cases e with
 | normal =>
  cases ae <;> first | (simp only [RelExit] at hx; done) | skip
  obtain ⟨r, h1, h3⟩ := hq
  obtain ⟨v, q1, q2⟩ := results_sound hR.inv hR.env h1
  exact ⟨hR.defs, v, q1, _, kn', m', _, _, h3, q2, hR.knle, hR.inv, hR.keep⟩
 | ret =>
  cases ae <;> first | (simp only [RelExit] at hx; done) | skip
  obtain ⟨r, h1, h3⟩ := hq
  obtain ⟨v, q1, q2⟩ := results_sound hR.inv hR.env h1
  exact ⟨hR.defs, v, q1, _, kn', m', _, _, h3, q2, hR.knle, hR.inv, hR.keep⟩
 | panic ch =>
  cases ae <;> first | (simp only [RelExit] at hx; done) | skip
  obtain ⟨u, rfl, hu⟩ := hx
  exact ⟨hR.defs, _, kn', m', _, _, hq, ⟨u, rfl, hu⟩, hR.knle, hR.inv, hR.keep⟩
 | exit id => cases ae <;> first | (simp only [RelExit] at hx; done) | exact hq.elim
 | goto l => cases ae <;> first | (simp only [RelExit] at hx; done) | exact hq.elim
 | outgrown => cases ae <;> (simp only [RelExit] at hx)
end Go.Ab
