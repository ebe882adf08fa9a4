/-
  A REGION OF OPERATIONS: objects that allocs make are named ahead; the operations in the order of the text.
-/
import Derived.Test.YtmompmackgknbaaDoorAb11
set_option linter.unusedVariables false
set_option linter.unusedSimpArgs false
namespace Go.Ab
open Go Go.RowKit

/-! ### Objects named ahead -/
def allocObjs (P : Program) : List Oper → Nat → Option Sto
  | [], _ => some []
  | o :: rest, nx => match o.op with
    | .alloc T => match zeroCells P T, allocObjs P rest (nx + 1) with
      | some z, some l => some ((nx, .cells T z) :: l)
      | _, _ => none
    | _ => allocObjs P rest nx
/-- How many allocs stand ahead of an operation. -/
def rk (l : List Oper) (i : Nat) : Nat := ((l.take i).filter fun o => isAlloc o.op).length
theorem rk_succ {l : List Oper} {i : Nat} {o : Oper} (h : l[i]? = some o) : rk l (i + 1) = rk l i + (if isAlloc o.op = true then 1 else 0) := by
  have hi := (List.getElem?_eq_some_iff.1 h)
  obtain ⟨hl, he⟩ := hi
  unfold rk
  rw [List.take_succ_eq_append_getElem hl, List.filter_append, List.length_append, he]
  by_cases ha : isAlloc o.op = true <;> simp [List.filter, ha]
theorem rk_mono (l : List Oper) {i j : Nat} (h : i ≤ j) : rk l i ≤ rk l j := by
  unfold rk
  have : l.take i = (l.take j).take i := by rw [List.take_take]; congr 1; omega
  rw [this]
  exact ((List.take_sublist i (l.take j)).filter _).length_le
theorem rk_inj {l : List Oper} {i j : Nat} {o o' : Oper} (hi : l[i]? = some o) (hj : l[j]? = some o') (ho : isAlloc o.op = true) (ho' : isAlloc o'.op = true) (hne : i ≠ j) : rk l i ≠ rk l j := by
  rcases Nat.lt_or_gt_of_ne hne with h | h
  · have h1 := rk_succ hi; rw [if_pos ho] at h1; have := rk_mono l (show i + 1 ≤ j from h); omega
  · have h1 := rk_succ hj; rw [if_pos ho'] at h1; have := rk_mono l (show j + 1 ≤ i from h); omega
theorem allocObjs_get {P : Program} : ∀ {l : List Oper} {nx : Nat} {objs : Sto} (h : allocObjs P l nx = some objs) {j : Nat} {o : Oper} {T : TypeId}, l[j]? = some o → o.op = .alloc T → ∃ z, zeroCells P T = some z ∧ objs[rk l j]? = some (nx + rk l j, .cells T z)
  | [], nx, objs, h, j, o, T, hj, ho => by simp at hj
  | o' :: rest, nx, objs, h, j, o, T, hj, ho => by
    unfold allocObjs at h
    split at h
    · rename_i T' ho'
      split at h
      · rename_i z l hz hl
        cases h
        cases j with
        | zero =>
          simp at hj; subst hj
          rw [ho] at ho'; cases ho'
          exact ⟨z, hz, by simp [rk]⟩
        | succ j =>
          obtain ⟨z', h1, h2⟩ := allocObjs_get hl (by simpa using hj) ho
          refine ⟨z', h1, ?_⟩
          have : rk (o' :: rest) (j + 1) = rk rest j + 1 := by simp [rk, List.filter, ho', isAlloc]
          rw [this]
          simpa [Nat.add_assoc, Nat.add_comm 1] using h2
      · cases h
    · rename_i hno
      cases j with
      | zero => simp at hj; subst hj; exact absurd ho (hno T)
      | succ j =>
        obtain ⟨z', h1, h2⟩ := allocObjs_get h (by simpa using hj) ho
        refine ⟨z', h1, ?_⟩
        have hna : isAlloc o'.op = false := by
          cases hop : o'.op <;> simp [isAlloc]
          exact absurd hop (hno _)
        have : rk (o' :: rest) (j + 1) = rk rest j := by simp [rk, List.filter, hna]
        rw [this]; exact h2
theorem allocObjs_form {P : Program} : ∀ {l : List Oper} {nx : Nat} {objs : Sto} (h : allocObjs P l nx = some objs) {k nm : Nat} {ob : AObj}, objs[k]? = some (nm, ob) → nm = nx + k ∧ ∃ T z, ob = .cells T z ∧ zeroCells P T = some z
  | [], nx, objs, h, k, nm, ob, hk => by simp [allocObjs] at h; subst h; simp at hk
  | o' :: rest, nx, objs, h, k, nm, ob, hk => by
    unfold allocObjs at h
    split at h
    · rename_i T' ho'
      split at h
      · rename_i z l hz hl
        cases h
        cases k with
        | zero => simp at hk; obtain ⟨rfl, rfl⟩ := hk; exact ⟨rfl, T', z, rfl, hz⟩
        | succ k =>
          obtain ⟨h1, h2⟩ := allocObjs_form hl (by simpa using hk)
          exact ⟨by omega, h2⟩
      · cases h
    · exact allocObjs_form h hk

section
variable {C : Cx} {B : Base} {kn : Kn} {m : Mp} {σ : Sto} {nx : Nat} {w : World}

/-- Objects are named ahead: nothing has been laid. -/
theorem Inv.ahead (hI : Inv C B kn m σ nx w) {l : List Oper} {objs : Sto} (h : allocObjs C.P l nx = some objs) : Inv C B kn m (σ ++ objs) (nx + objs.length) w ∧ Keep m σ nx m (σ ++ objs) (nx + objs.length) := by
  have hget : ∀ (p nm : Nat) (ob : AObj), (σ ++ objs)[p]? = some (nm, ob) → (p < σ.length ∧ σ[p]? = some (nm, ob)) ∨ (σ.length ≤ p ∧ nm = nx + (p - σ.length) ∧ p - σ.length < objs.length ∧ ∃ T z, ob = .cells T z ∧ zeroCells C.P T = some z) := fun p nm ob e => by
    rcases Nat.lt_or_ge p σ.length with hp | hp
    · rw [List.getElem?_append_left hp] at e; exact .inl ⟨hp, e⟩
    · rw [List.getElem?_append_right hp] at e
      obtain ⟨h1, h2⟩ := allocObjs_form h e
      exact .inr ⟨hp, h1, (List.getElem?_eq_some_iff.1 e).1, h2⟩
  refine ⟨⟨hI.knok, hI.size, hI.os, hI.tape, hI.output, hI.old, fun p nm ob e => ?_, fun p nm ob loc e hl hm => ?_, fun p nm ob loc p' nm' ob' loc' e e' hl hl' hm hm' hne => ?_, fun n hn => hI.dom n (by omega), fun p nm ob e => ?_, fun p p' nm ob ob' e e' => ?_, hI.glob⟩,
    ⟨by omega, fun _ _ => rfl, fun p nm ob e _ => by rw [List.getElem?_append_left (List.getElem?_eq_some_iff.1 e).1]; exact e⟩⟩
  · rcases hget p nm ob e with ⟨_, e'⟩ | ⟨_, rfl, _, T, z, rfl, hz⟩
    · exact hI.obj p nm ob e'
    · simp only [ObjRel, hI.dom _ (Nat.le_add_right nx _)]; exact hz
  · rcases hget p nm ob e with ⟨_, e'⟩ | ⟨_, rfl, _, _⟩
    · exact hI.own p nm ob loc e' hl hm
    · rw [hI.dom _ (Nat.le_add_right nx _)] at hm; cases hm
  · rcases hget p nm ob e with ⟨_, e1⟩ | ⟨_, rfl, _, _⟩
    · rcases hget p' nm' ob' e' with ⟨_, e2⟩ | ⟨_, rfl, _, _⟩
      · exact hI.dist p nm ob loc p' nm' ob' loc' e1 e2 hl hl' hm hm' hne
      · rw [hI.dom _ (Nat.le_add_right nx _)] at hm'; cases hm'
    · rw [hI.dom _ (Nat.le_add_right nx _)] at hm; cases hm
  · rcases hget p nm ob e with ⟨_, e'⟩ | ⟨_, rfl, hlt, _⟩
    · have := hI.lt p nm ob e'; omega
    · omega
  · rcases hget p nm ob e with ⟨_, e1⟩ | ⟨hp, h1, _, _⟩
    · rcases hget p' nm ob' e' with ⟨_, e2⟩ | ⟨_, h2, _, _⟩
      · exact hI.uniq p p' nm ob ob' e1 e2
      · have := hI.lt p nm ob e1; omega
    · rcases hget p' nm ob' e' with ⟨_, e2⟩ | ⟨hp', h2, _, _⟩
      · have := hI.lt p' nm ob' e2; omega
      · omega

/-- An object that was named ahead is laid. -/
theorem Inv.lay (hI : Inv C B kn m σ nx w) {p nm T : Nat} {z : List AV} (hp : σ[p]? = some (nm, .cells T z)) (hm : m nm = none) {zv : Array Value} (hz : RelC kn m z zv.toList) :
    Inv C B kn (mput m nm ⟨w.heap.size, 0, 0, 0⟩) σ nx (w.alloc (.cells zv T)) := by
  have hmle : MpLe m (mput m nm ⟨w.heap.size, 0, 0, 0⟩) := fun n l e => by
    rw [mput_ne]
    · exact e
    · intro en; subst en; rw [hm] at e; cases e
  obtain ⟨_, hI0⟩ := hI.grow (kn' := kn) (w' := w.alloc (.cells zv T)) (by simp) rfl rfl rfl (fun b hb => Below.heap_alloc _ _ _ hb) (fun _ _ => rfl) (fun b o v hb e => absurd (hI.kn_lt e) (by omega))
  have hlt := hI.lt p nm _ hp
  refine ⟨hI0.knok, hI0.size, hI0.os, hI0.tape, hI0.output, hI0.old, fun p' nm' ob' e => ?_, fun p' nm' ob' l e hl hm' => ?_, fun p1 n1 o1 l1 p2 n2 o2 l2 e1 e2 v1 v2 m1 m2 hne => ?_, fun n hn => ?_, hI.lt, hI.uniq, fun g => (hI.glob g).mono (KnLe.refl _) hmle⟩
  · by_cases hn : nm' = nm
    · subst hn
      have := hI.uniq p p' nm' _ _ hp e
      subst this
      rw [hp] at e; cases e
      simp only [ObjRel, mput_same]
      exact ⟨trivial, zv, T, heap_alloc_new w _, hz.mono (KnLe.refl _) hmle⟩
    · have hm'' : mput m nm ⟨w.heap.size, 0, 0, 0⟩ nm' = m nm' := mput_ne _ _ _ _ hn
      have h1 := hI0.obj p' nm' ob' e
      cases ob' with
      | none => trivial
      | cells T cs =>
        simp only [ObjRel, hm''] at h1 ⊢
        cases hn : m nm' with
        | none => simpa [hn] using h1
        | some l =>
          simp only [hn] at h1 ⊢
          obtain ⟨a, arr, ty, b, c⟩ := h1
          exact ⟨a, arr, ty, b, c.mono (KnLe.refl _) hmle⟩
      | gvec esz ety rows =>
        obtain ⟨l, a, b, arr, c, d, e1, f, f', g, h⟩ := h1
        exact ⟨l, hm''.trans a, b, arr, c, d, e1, f, f', g, fun i row j x v p q r => (h i row j x v p q r).mono (KnLe.refl _) hmle⟩
      | siter l pos =>
        obtain ⟨l', a, b⟩ := h1
        exact ⟨l', hm''.trans a, b⟩
  · by_cases hn : nm' = nm
    · subst hn
      rw [mput_same] at hm'; cases hm'
      refine ⟨by simp, .inl hI.size, fun o => ?_⟩
      cases hk : kn w.heap.size o with
      | none => rfl
      | some v => have := hI.kn_lt hk; omega
    · rw [mput_ne _ _ _ _ hn] at hm'; exact hI0.own p' nm' ob' l e hl hm'
  · by_cases h1 : n1 = nm
    · subst h1
      rw [mput_same] at m1; cases m1
      by_cases h2 : n2 = n1
      · subst h2; exact absurd (hI.uniq _ _ _ _ _ e1 e2) hne
      · rw [mput_ne _ _ _ _ h2] at m2
        have := (hI.own p2 n2 o2 l2 e2 v2 m2).1
        exact fun h => by simp at h; omega
    · rw [mput_ne _ _ _ _ h1] at m1
      by_cases h2 : n2 = nm
      · subst h2
        rw [mput_same] at m2; cases m2
        have := (hI.own p1 n1 o1 l1 e1 v1 m1).1
        exact fun h => by simp at h; omega
      · rw [mput_ne _ _ _ _ h2] at m2
        exact hI.dist p1 n1 o1 l1 p2 n2 o2 l2 e1 e2 v1 v2 m1 m2 hne
  · rw [mput_ne _ _ _ _ (by omega)]; exact hI.dom n hn
end

/-! ### Guards -/
def wantedA (ops : Array Oper) (env : Nat → AV) (o : Oper) : Option Bool :=
  match o.guard with
  | none => some true
  | some (j, want) => match (ops[j]?).bind (·.dst) with
    | some t => match env t with
      | .bool b => some (b == want)
      | .base (.tuple _) => some false
      | _ => none
    | none => some false
theorem wanted_sound {kn : Kn} {m : Mp} {env : Nat → AV} {n : Nat} {act : Act} (hE : RelEnv kn m env n act) {ops : Array Oper} {o : Oper} {b : Bool} (h : wantedA ops env o = some b) : Region.wanted o (yielded ops act.tmps) = b := by
  unfold wantedA at h
  unfold Region.wanted
  split at h
  · rename_i hg; rw [hg]; cases h; rfl
  · rename_i j want hg
    rw [hg]
    simp only
    unfold yielded
    split at h
    · rename_i t ht
      rw [ht]
      simp only [Option.bind_some]
      have hr := hE.tmp t
      split at h
      · rename_i q hq
        cases h
        rw [hq] at hr
        generalize hv : act.tmps.getD t undef = v at hr
        cases hr
        have : act.tmps[t]? = some (.bool q) := by
          simp only [Array.getD_eq_getD_getElem?] at hv
          cases ha : act.tmps[t]? with
          | none => simp [ha, undef] at hv
          | some u => simp [ha] at hv; rw [hv]
        simp [this]
      · rename_i vs hq
        cases h
        rw [hq] at hr
        generalize hv : act.tmps.getD t undef = v at hr
        cases hr
        simp only [Array.getD_eq_getD_getElem?] at hv
        cases ha : act.tmps[t]? with
        | none => simp
        | some u => simp [ha] at hv; simp [hv]
      · cases h
    · rename_i ht
      rw [ht]
      cases h
      rfl

/-! ### The operations of a region, one by one -/
/-- What is asked of operation i. -/
def aopAt (C : Cx) (H : Hints) (tt : Nat → Bool) (ops : Array Oper) (p₀ n₀ : Nat) (i : Nat) (K : St → Prop) (KP : AV → Sto → Nat → Prop) (s : St) : Prop :=
  match ops[i]? with
  | none => K s
  | some o => ∃ t, wantedA ops s.env o = some t ∧ (t = true → aop C H (tt i) (p₀ + rk ops.toList i, n₀ + rk ops.toList i) o (fun v σ nx => K ⟨updo s.env o.dst v, σ, nx⟩) KP s) ∧ (t = false → K ⟨updo s.env o.dst .undef, s.σ, s.nx⟩)

structure RR (C : Cx) (B : Base) (n : Nat) (ds : List Deferred) (kn₀ : Kn) (m₀ : Mp) (σ₀ : Sto) (nx₀ : Nat) (ops : Array Oper) (p₀ n₀ : Nat) (listed : Nat → Bool) (kn : Kn) (m : Mp) (s : St) (act : Act) (w : World) : Prop where
  rs : RS C B n ds kn₀ m₀ σ₀ nx₀ kn m s act w
  pend : ∀ j o T, ops[j]? = some o → o.op = .alloc T → listed j = false → m (n₀ + rk ops.toList j) = none ∧ n₀ + rk ops.toList j < s.nx ∧ nx₀ ≤ n₀ + rk ops.toList j ∧ ∃ z, zeroCells C.P T = some z ∧ s.σ[p₀ + rk ops.toList j]? = some (n₀ + rk ops.toList j, .cells T z)

def lput (l : Nat → Bool) (i : Nat) : Nat → Bool := fun j => if j = i then true else l j

section
variable {C : Cx} {B : Base} {n : Nat} {ds : List Deferred} {kn₀ : Kn} {m₀ : Mp} {σ₀ : Sto} {nx₀ : Nat} {ops : Array Oper} {p₀ n₀ : Nat}

theorem aopAt_sound {H : Hints} {tt : Nat → Bool} {i : Nat} {K : St → Prop} {KP : AV → Sto → Nat → Prop} {s : St} {listed : Nat → Bool} {kn : Kn} {m : Mp} {act : Act} {w : World} (hlt₀ : ∀ (p nm : Nat) (ob : AObj), σ₀[p]? = some (nm, ob) → nm < nx₀)
    (hd : ∀ (i : Nat) (o : Oper) (d : Nat), ops[i]? = some o → o.dst = some d → d < n) (hR : RR C B n ds kn₀ m₀ σ₀ nx₀ ops p₀ n₀ listed kn m s act w) (hun : listed i = false) (h : aopAt C H tt ops p₀ n₀ i K KP s)
    {next : Act → World → Prop} {Q : Exit → Act → World → Prop}
    (hnext : ∀ s' kn' m' act' w', K s' → RR C B n ds kn₀ m₀ σ₀ nx₀ ops p₀ n₀ (lput listed i) kn' m' s' act' w' → next act' w')
    (hpan : ∀ v u env' kn' m' σ' nx' act' w', KP v σ' nx' → Rel kn' m' v u → RS C B n ds kn₀ m₀ σ₀ nx₀ kn' m' ⟨env', σ', nx'⟩ act' w' → Q (.panic [{ v := u, recovered := false }]) act' w') :
    wpOp C.P ops Q i next act w := by
  unfold aopAt at h
  unfold wpOp
  have pend' : ∀ {s' : St} {m' : Mp}, Keep m s.σ s.nx m' s'.σ s'.nx → ∀ j o T, ops[j]? = some o → o.op = .alloc T → lput listed i j = false → m' (n₀ + rk ops.toList j) = none ∧ n₀ + rk ops.toList j < s'.nx ∧ nx₀ ≤ n₀ + rk ops.toList j ∧ ∃ z, zeroCells C.P T = some z ∧ s'.σ[p₀ + rk ops.toList j]? = some (n₀ + rk ops.toList j, .cells T z) := by
    intro s' m' hk j o T hj ho hl
    have hl' : listed j = false := by
      unfold lput at hl
      split at hl
      · cases hl
      · exact hl
    obtain ⟨h1, h2, h3, z, h4, h5⟩ := hR.pend j o T hj ho hl'
    exact ⟨by rw [hk.ag _ h2]; exact h1, Nat.lt_of_lt_of_le h2 hk.le, h3, z, h4, hk.pend _ _ _ h5 h1⟩
  split at h
  · rename_i ho
    rw [ho]
    exact hnext s kn m act w h ⟨hR.rs, pend' (Keep.refl _ _ _)⟩
  · rename_i o ho
    obtain ⟨t, ht, h1, h2⟩ := h
    have hw := wanted_sound hR.rs.env ht
    rw [ho]
    simp only
    rw [hw]
    cases t with
    | false =>
      simp only [Bool.false_eq_true, if_false]
      refine hnext _ kn m _ w (h2 rfl) ⟨⟨hR.rs.env.put o.dst (fun d => hd i o d ho) (.base _), ?_, hR.rs.inv, hR.rs.knle, hR.rs.keep⟩, pend' (Keep.refl _ _ _)⟩
      cases hdst : o.dst <;> simp [Act.put, hR.rs.defs]
    | true =>
      simp only [if_true]
      refine .inl ?_
      by_cases ha : isAlloc o.op = true
      · obtain ⟨T, hT⟩ : ∃ T, o.op = .alloc T := by
          cases hop : o.op <;> simp [hop, isAlloc] at ha
          exact ⟨_, rfl⟩
        have h1' := h1 rfl
        have hkind : kindOf H o = .fn := by unfold kindOf; rw [hT]
        unfold aop at h1'
        rw [hkind] at h1'
        obtain ⟨v, hv, hK⟩ := h1'
        obtain ⟨q1, q2, q3, z, q4, q5⟩ := hR.pend i o T ho hT hun
        rw [hT] at hv
        simp only [fop, q4, Option.some.injEq] at hv
        subst hv
        obtain ⟨ti, zv, hi, hzv, rfl, hzr⟩ := zero_sound q4 kn m
        have hI' := hR.rs.inv.lay (T := T) q5 q1 hzr
        have hmle : MpLe m (mput m (n₀ + rk ops.toList i) ⟨w.heap.size, 0, 0, 0⟩) := fun n l e => by
          rw [mput_ne]
          · exact e
          · intro en; subst en; rw [q1] at e; cases e
        have hrun : (execOp act.eval o).run C.P w = .ok (.value (.pointer (some ⟨w.heap.size, 0, none⟩))) (w.alloc (.cells zv.cells T)) := by
          obtain ⟨dst, op, type, pos, after, guard⟩ := o
          simp only at hT
          subst hT
          simp only [execOp, Instr.alloc, zeroValue, Sem.run_bind, run_typeInfo' hi, Result.andThen_ok, hzv, Sem.run_pure]
          rfl
        unfold Oper.wp
        rw [hrun]
        refine hnext _ kn (mput m (n₀ + rk ops.toList i) ⟨w.heap.size, 0, 0, 0⟩) _ _ hK ⟨⟨(hR.rs.env.mono (KnLe.refl _) hmle).put o.dst (fun d => hd i o d ho) (.ref _ _ _ _ (mput_same _ _ _)), ?_, hI', hR.rs.knle, ?_⟩, ?_⟩
        · cases hdst : o.dst <;> simp [Act.put, hR.rs.defs]
        · exact ⟨hR.rs.keep.le, fun k hk => by rw [mput_ne _ _ _ _ (by omega)]; exact hR.rs.keep.ag k hk, hR.rs.keep.pend⟩
        · intro j o' T' hj ho' hl
          have hji : j ≠ i ∧ listed j = false := by
            unfold lput at hl
            split at hl
            · cases hl
            · rename_i hne; exact ⟨hne, hl⟩
          obtain ⟨r1, r2, r3, r4⟩ := hR.pend j o' T' hj ho' hji.2
          have hrk := rk_inj (l := ops.toList) (i := j) (j := i) (by simpa using hj) (by simpa using ho) (by simp [ho', isAlloc]) ha hji.1
          exact ⟨by rw [mput_ne _ _ _ _ (by omega)]; exact r1, r2, r3, r4⟩
      · have ha' : isAlloc o.op = false := by simpa using ha
        refine aop_sound hlt₀ hR.rs ha' (fun d => hd i o d ho) (h1 rfl) (fun v kn' m' σ' nx' act' w' hK hRS hkp => ?_) (fun v u kn' m' σ' nx' act' w' hKP hv hRS => hpan v u _ kn' m' σ' nx' act' w' hKP hv hRS)
        exact hnext _ kn' m' act' w' hK ⟨hRS, pend' hkp⟩

/-- The operations in the order of their numbers. -/
def aseq (C : Cx) (H : Hints) (tt : Nat → Bool) (ops : Array Oper) (p₀ n₀ : Nat) (K : St → Prop) (KP : AV → Sto → Nat → Prop) : List Nat → St → Prop
  | [], s => K s
  | i :: rest, s => aopAt C H tt ops p₀ n₀ i (aseq C H tt ops p₀ n₀ K KP rest) KP s

theorem aseq_sound {H : Hints} {tt : Nat → Bool} {K : St → Prop} {KP : AV → Sto → Nat → Prop} (hlt₀ : ∀ (p nm : Nat) (ob : AObj), σ₀[p]? = some (nm, ob) → nm < nx₀)
    (hd : ∀ (i : Nat) (o : Oper) (d : Nat), ops[i]? = some o → o.dst = some d → d < n) {Q : Exit → Act → World → Prop}
    (hend : ∀ s' kn' m' act' w', K s' → RS C B n ds kn₀ m₀ σ₀ nx₀ kn' m' s' act' w' → Q .normal act' w')
    (hpan : ∀ v u env' kn' m' σ' nx' act' w', KP v σ' nx' → Rel kn' m' v u → RS C B n ds kn₀ m₀ σ₀ nx₀ kn' m' ⟨env', σ', nx'⟩ act' w' → Q (.panic [{ v := u, recovered := false }]) act' w') :
    ∀ (l : List Nat) (listed : Nat → Bool) (s : St) (kn : Kn) (m : Mp) (act : Act) (w : World), l.Nodup → (∀ i ∈ l, listed i = false) → RR C B n ds kn₀ m₀ σ₀ nx₀ ops p₀ n₀ listed kn m s act w → aseq C H tt ops p₀ n₀ K KP l s →
      wpOps C.P ops Q l act w
  | [], listed, s, kn, m, act, w, _, _, hR, h => by simpa [wpOps] using hend s kn m act w h hR.rs
  | i :: rest, listed, s, kn, m, act, w, hnd, hl, hR, h => by
    rw [wpOps_cons]
    refine aopAt_sound hlt₀ hd hR (hl i (by simp)) h (fun s' kn' m' act' w' hK hR' => ?_) hpan
    refine aseq_sound hlt₀ hd hend hpan rest (lput listed i) s' kn' m' act' w' (List.nodup_cons.1 hnd).2 (fun j hj => ?_) hR' hK
    unfold lput
    rw [if_neg (show ¬ j = i from fun e => (List.nodup_cons.1 hnd).1 (by rw [← e]; exact hj))]
    exact hl j (by simp [hj])
end
end Go.Ab
