/-
  THE ABSTRACT WEAKEST PRECONDITION 'aw', and its rules for code.
-/
import Derived.Test.YtmompmackgknbaaDoorAb12
set_option linter.unusedVariables false
set_option linter.unusedSimpArgs false
namespace Go.Ab
open Go Go.RowKit

def aw (C : Cx) (n : Nat) (ds : List Deferred) (c : Code) (Q : AExit → St → Prop) (s : St) : Prop :=
  ∀ (B : Base) (kn : Kn) (m : Mp) (act : Act) (w : World), RelEnv kn m s.env n act → act.defers = ds → Inv C B kn m s.σ s.nx w →
    c.wp C.P (fun e act' w' => ∃ ae s' kn' m', RelExit kn' m' ae e ∧ RS C B n ds kn m s.σ s.nx kn' m' s' act' w' ∧ Q ae s') act w

section
variable {C : Cx} {n : Nat} {ds : List Deferred} {Q : AExit → St → Prop} {s : St}

theorem RS.refl {B : Base} {kn : Kn} {m : Mp} {act : Act} {w : World} (h1 : RelEnv kn m s.env n act) (h2 : act.defers = ds) (h3 : Inv C B kn m s.σ s.nx w) : RS C B n ds kn m s.σ s.nx kn m s act w :=
  ⟨h1, h2, h3, KnLe.refl _, Keep.refl _ _ _⟩
theorem RS.trans {B : Base} {kn kn1 kn2 : Kn} {m m1 m2 : Mp} {σ : Sto} {nx : Nat} {s1 s2 : St} {act1 act2 : Act} {w1 w2 : World} (hlt : ∀ (p nm : Nat) (ob : AObj), σ[p]? = some (nm, ob) → nm < nx)
    (h : RS C B n ds kn m σ nx kn1 m1 s1 act1 w1) (k : RS C B n ds kn1 m1 s1.σ s1.nx kn2 m2 s2 act2 w2) : RS C B n ds kn m σ nx kn2 m2 s2 act2 w2 :=
  ⟨k.env, k.defs, k.inv, h.knle.trans k.knle, h.keep.trans k.keep hlt⟩

theorem aw_mono {c : Code} {Q' : AExit → St → Prop} (h : aw C n ds c Q s) (hq : ∀ e s', Q e s' → Q' e s') : aw C n ds c Q' s :=
  fun B kn m act w h1 h2 h3 => wp_mono (h B kn m act w h1 h2 h3) fun e a w' ⟨ae, s', kn', m', a1, a2, a3⟩ => ⟨ae, s', kn', m', a1, a2, hq _ _ a3⟩
theorem aw_skip (h : Q .normal s) : aw C n ds .skip Q s := fun B kn m act w h1 h2 h3 => wp_skip ⟨.normal, s, kn, m, trivial, .refl h1 h2 h3, h⟩
theorem aw_label {l : Nat} (h : Q .normal s) : aw C n ds (.label l) Q s := fun B kn m act w h1 h2 h3 => wp_label ⟨.normal, s, kn, m, trivial, .refl h1 h2 h3, h⟩
theorem aw_exit {id : Nat} (h : Q (.exit id) s) : aw C n ds (.exit id) Q s := fun B kn m act w h1 h2 h3 => wp_exit ⟨.exit id, s, kn, m, rfl, .refl h1 h2 h3, h⟩
theorem aw_ret (h : Q .ret s) : aw C n ds .ret Q s := fun B kn m act w h1 h2 h3 => wp_ret ⟨.ret, s, kn, m, trivial, .refl h1 h2 h3, h⟩

def athen (K : St → Prop) (Q : AExit → St → Prop) : AExit → St → Prop
  | .normal, s => K s
  | e, s => Q e s
theorem aw_seq {x y : Code} (h : aw C n ds x (athen (aw C n ds y Q) Q) s) : aw C n ds (.seq x y) Q s := by
  intro B kn m act w h1 h2 h3
  refine wp_seq (wp_mono (h B kn m act w h1 h2 h3) ?_)
  rintro e a1 w1 ⟨ae, s1, kn1, m1, hx, hR, hq⟩
  cases e with
  | normal =>
    cases ae <;> simp only [RelExit] at hx
    show y.wp C.P _ a1 w1
    refine wp_mono (hq B kn1 m1 a1 w1 hR.env hR.defs hR.inv) ?_
    rintro e a2 w2 ⟨ae2, s2, kn2, m2, hx2, hR2, hq2⟩
    exact ⟨ae2, s2, kn2, m2, hx2, hR.trans h3.lt hR2, hq2⟩
  | exit id => cases ae <;> first | (simp only [RelExit] at hx; done) | exact ⟨_, s1, kn1, m1, hx, hR, hq⟩
  | goto l => cases ae <;> first | (simp only [RelExit] at hx; done) | exact ⟨_, s1, kn1, m1, hx, hR, hq⟩
  | ret => cases ae <;> first | (simp only [RelExit] at hx; done) | exact ⟨_, s1, kn1, m1, hx, hR, hq⟩
  | panic ch => cases ae <;> first | (simp only [RelExit] at hx; done) | exact ⟨_, s1, kn1, m1, hx, hR, hq⟩
  | outgrown => cases ae <;> simp only [RelExit] at hx
/-- What stands behind is hidden in K. -/
theorem aw_seq_k {x y : Code} (h : ∀ K : St → Prop, (∀ s, aw C n ds y Q s → K s) → aw C n ds x (athen K Q) s) : aw C n ds (.seq x y) Q s := aw_seq (h _ fun _ h => h)

theorem aw_cond {c : Operand} {x y : Code} {b : Bool} (hc : opv C s.env c = .bool b) (ht : b = true → aw C n ds x Q s) (hf : b = false → aw C n ds y Q s) : aw C n ds (.cond c x y) Q s := by
  intro B kn m act w h1 h2 h3
  have hr := rel_opv h3 h1 c
  rw [hc] at hr
  generalize hv : act.eval c = v at hr
  cases hr
  refine wp_cond hv ?_
  cases b
  · exact hf rfl B kn m act w h1 h2 h3
  · exact ht rfl B kn m act w h1 h2 h3

def ablock (id : Nat) (Q : AExit → St → Prop) : AExit → St → Prop
  | .exit i, s => if i = id then Q .normal s else Q (.exit i) s
  | e, s => Q e s
theorem aw_block {id : Nat} {c : Code} (h : aw C n ds c (ablock id Q) s) : aw C n ds (.block id c) Q s := by
  intro B kn m act w h1 h2 h3
  refine wp_block (wp_mono (h B kn m act w h1 h2 h3) ?_)
  rintro e a1 w1 ⟨ae, s1, kn1, m1, hx, hR, hq⟩
  cases e with
  | exit i =>
    cases ae <;> simp only [RelExit] at hx
    subst hx
    simp only [Exit.inBlock, ablock] at hq ⊢
    split at hq
    · rename_i he; rw [if_pos he]; exact ⟨.normal, s1, kn1, m1, trivial, hR, hq⟩
    · rename_i he; rw [if_neg he]; exact ⟨.exit _, s1, kn1, m1, rfl, hR, hq⟩
  | normal => cases ae <;> first | (simp only [RelExit] at hx; done) | exact ⟨_, s1, kn1, m1, hx, hR, hq⟩
  | goto l => cases ae <;> first | (simp only [RelExit] at hx; done) | exact ⟨_, s1, kn1, m1, hx, hR, hq⟩
  | ret => cases ae <;> first | (simp only [RelExit] at hx; done) | exact ⟨_, s1, kn1, m1, hx, hR, hq⟩
  | panic ch => cases ae <;> first | (simp only [RelExit] at hx; done) | exact ⟨_, s1, kn1, m1, hx, hR, hq⟩
  | outgrown => cases ae <;> simp only [RelExit] at hx

theorem wp_loop_rel {P : Program} {c : Code} {Q : Exit → Act → World → Prop} (I : Nat → Act → World → Prop) (round : ∀ d a w, I d a w → c.wp P (Exit.then (fun a' w' => ∃ d', d' < d ∧ I d' a' w') Q) a w) {d : Nat} {a : Act} {w : World} (h₀ : I d a w) :
    (Code.loop c).wp P Q a w := by
  intro b k cs
  have key : ∀ d a w, I d a w → ∃ e a' w', Q e a' w' ∧ Arrives P (lone (b.at a (.code c :: .inLoop c :: k)) cs w) b k cs e a' w' := by
    intro d
    induction d using Nat.strongRecOn with
    | _ d ih =>
      intro a w hI
      obtain ⟨e, a₁, w₁, hq, harr⟩ := round d a w hI b (.inLoop c :: k) cs
      cases e with
      | normal =>
        obtain ⟨d', hlt, hI₁⟩ := hq
        obtain ⟨e₂, a₂, w₂, hq₂, harr₂⟩ := ih d' hlt a₁ w₁ hI₁
        exact ⟨e₂, a₂, w₂, hq₂, .of_steps (Steps.trans harr (.one step_inLoop)) harr₂⟩
      | exit id => exact ⟨_, a₁, w₁, hq, .pass (x := .inLoop c) rfl (fun _ _ => .inl (by simp)) harr⟩
      | goto l => exact ⟨_, a₁, w₁, hq, .pass (x := .inLoop c) rfl (fun _ _ => .inl (by simp)) harr⟩
      | ret => exact ⟨_, a₁, w₁, hq, .pass (x := .inLoop c) rfl (fun _ _ => .inl (by simp)) harr⟩
      | panic ch => exact ⟨_, a₁, w₁, hq, .pass (x := .inLoop c) rfl (fun _ _ => .inl (by simp)) harr⟩
      | outgrown => exact ⟨_, a₁, w₁, hq, .pass (x := .inLoop c) rfl (fun _ _ => .inl (by simp)) harr⟩
  obtain ⟨e, a', w', hq, harr⟩ := key d a w h₀
  exact ⟨e, a', w', hq, .of_steps (.one step_loop) harr⟩

/-- A loop: J d holds at each round's head, and d falls. -/
theorem aw_loop {c : Code} (J : Nat → St → Prop) (round : ∀ d s, J d s → aw C n ds c (athen (fun s' => ∃ d', d' < d ∧ J d' s') Q) s) {d : Nat} (h₀ : J d s) : aw C n ds (.loop c) Q s := by
  intro B kn m act w h1 h2 h3
  refine wp_loop_rel (fun d a w' => ∃ s' kn' m', J d s' ∧ RS C B n ds kn m s.σ s.nx kn' m' s' a w') ?_ ⟨s, kn, m, h₀, .refl h1 h2 h3⟩
  rintro d a w' ⟨s', kn', m', hJ, hR⟩
  refine wp_mono (round d s' hJ B kn' m' a w' hR.env hR.defs hR.inv) ?_
  rintro e a1 w1 ⟨ae, s1, kn1, m1, hx, hR1, hq⟩
  have hR' := hR.trans h3.lt hR1
  cases e with
  | normal =>
    cases ae <;> simp only [RelExit] at hx
    obtain ⟨d', hlt, hJ'⟩ := hq
    exact ⟨d', hlt, s1, kn1, m1, hJ', hR'⟩
  | exit id => cases ae <;> first | (simp only [RelExit] at hx; done) | exact ⟨_, s1, kn1, m1, hx, hR', hq⟩
  | goto l => cases ae <;> first | (simp only [RelExit] at hx; done) | exact ⟨_, s1, kn1, m1, hx, hR', hq⟩
  | ret => cases ae <;> first | (simp only [RelExit] at hx; done) | exact ⟨_, s1, kn1, m1, hx, hR', hq⟩
  | panic ch => cases ae <;> first | (simp only [RelExit] at hx; done) | exact ⟨_, s1, kn1, m1, hx, hR', hq⟩
  | outgrown => cases ae <;> simp only [RelExit] at hx

/-! ### Regions -/
/-- The operations as a list; 'k': the number of the next one, 'al': the place and the name of the next object. -/
def areg (C : Cx) (H : Hints) (tt : Nat → Bool) (ops : Array Oper) (K : St → Prop) (KP : AV → Sto → Nat → Prop) : List Oper → Nat → Nat × Nat → St → Prop
  | [], _, _, s => K s
  | o :: rest, k, al, s => ∃ t, wantedA ops s.env o = some t ∧
      (t = true → aop C H (tt k) al o (fun v σ nx => areg C H tt ops K KP rest (k + 1) (if isAlloc o.op = true then (al.1 + 1, al.2 + 1) else al) ⟨updo s.env o.dst v, σ, nx⟩) KP s) ∧
      (t = false → areg C H tt ops K KP rest (k + 1) (if isAlloc o.op = true then (al.1 + 1, al.2 + 1) else al) ⟨updo s.env o.dst .undef, s.σ, s.nx⟩)

theorem aop_mono {H : Hints} {tot : Bool} {al : Nat × Nat} {o : Oper} {K K' KP KP' : AV → Sto → Nat → Prop} {s : St} (h : aop C H tot al o K KP s) (hk : ∀ v σ nx, K v σ nx → K' v σ nx) (hp : ∀ v σ nx, KP v σ nx → KP' v σ nx) : aop C H tot al o K' KP' s := by
  unfold aop at h ⊢
  split
  · rename_i e; rw [e] at h; obtain ⟨v, a, b⟩ := h; exact ⟨v, a, hk _ _ _ b⟩
  · rename_i e; rw [e] at h; obtain ⟨v, σ', nx', a, b⟩ := h; exact ⟨v, σ', nx', a, hk _ _ _ b⟩
  · rename_i e; rw [e] at h
    simp only at h
    split
    · rename_i c hc
      rw [hc] at h
      obtain ⟨g, args, a, Qc, b, c1, c2, d⟩ := h
      exact ⟨g, args, a, Qc, b, fun v σ' nx' q => hk _ _ _ (c1 v σ' nx' q), fun v σ' nx' q => hp _ _ _ (c2 v σ' nx' q), d⟩
    · rename_i hc
      split at h
      · rename_i c hc'; exact absurd hc' (hc c)
      · exact h
  · rename_i e; rw [e] at h
    simp only at h
    split
    · rename_i x hx; rw [hx] at h; obtain ⟨t, v, a, b⟩ := h; exact ⟨t, v, a, hp _ _ _ b⟩
    · rename_i hx
      split at h
      · rename_i x hx'; exact absurd hx' (hx x)
      · exact h
  · rename_i e; rw [e] at h; exact h

theorem aseq_of_areg {H : Hints} {tt : Nat → Bool} {ops : Array Oper} {K : St → Prop} {KP : AV → Sto → Nat → Prop} {p₀ n₀ : Nat} : ∀ (l : List Oper) (k : Nat) (s : St), (∀ j : Nat, l[j]? = ops[k + j]?) →
    areg C H tt ops K KP l k (p₀ + rk ops.toList k, n₀ + rk ops.toList k) s → aseq C H tt ops p₀ n₀ K KP (List.range' k l.length) s
  | [], k, s, hl, h => h
  | o :: rest, k, s, hl, h => by
    have h0 : ops[k]? = some o := by simpa using (hl 0).symm
    have hrest : ∀ j : Nat, rest[j]? = ops[k + 1 + j]? := fun j => by have := hl (j + 1); simpa [Nat.add_assoc, Nat.add_comm 1 j] using this
    have hrk := rk_succ (l := ops.toList) (i := k) (o := o) (by simpa using h0)
    have hal : (if isAlloc o.op = true then (p₀ + rk ops.toList k + 1, n₀ + rk ops.toList k + 1) else (p₀ + rk ops.toList k, n₀ + rk ops.toList k)) = (p₀ + rk ops.toList (k + 1), n₀ + rk ops.toList (k + 1)) := by
      rw [hrk]; split <;> simp [Nat.add_assoc]
    simp only [areg, hal] at h
    simp only [List.length_cons, List.range'_succ, aseq, aopAt, h0]
    obtain ⟨t, a, b, c⟩ := h
    exact ⟨t, a, fun ht => aop_mono (b ht) (fun v σ nx hh => aseq_of_areg rest (k + 1) _ hrest hh) (fun _ _ _ hh => hh), fun ht => aseq_of_areg rest (k + 1) _ hrest (c ht)⟩

def dstOK (n : Nat) (ops : Array Oper) : Bool := ops.toList.all fun o => match o.dst with | some d => decide (d < n) | none => true
theorem dstOK_sound {ops : Array Oper} (h : dstOK n ops = true) : ∀ (i : Nat) (o : Oper) (d : Nat), ops[i]? = some o → o.dst = some d → d < n := by
  intro i o d hi hd
  have := List.all_eq_true.1 h o (List.mem_of_getElem? (by simpa using hi))
  rw [hd] at this
  simpa using this

/-- A region that goes by the text. -/
theorem aw_region {H : Hints} {id : Nat} {ops : Array Oper} {objs : Sto} (hd : dstOK n ops = true) (ho : allocObjs C.P ops.toList s.nx = some objs)
    (h : areg C H (fun _ => true) ops (Q .normal) (fun v σ nx => ∀ env, Q (.pan v) ⟨env, σ, nx⟩) ops.toList 0 (s.σ.length, s.nx) ⟨s.env, s.σ ++ objs, s.nx + objs.length⟩) : aw C n ds (.region id ops false) Q s := by
  intro B kn m act w h1 h2 h3
  obtain ⟨hI', hk'⟩ := h3.ahead ho
  refine wp_region ?_
  have hs := aseq_of_areg (ops := ops) (p₀ := s.σ.length) (n₀ := s.nx) ops.toList 0 ⟨s.env, s.σ ++ objs, s.nx + objs.length⟩ (fun j => by simp) (by simpa [rk] using h)
  have hrange : List.range' 0 ops.toList.length = List.range ops.size := by rw [List.range_eq_range']; simp
  rw [hrange] at hs
  refine aseq_sound (KP := fun v σ nx => ∀ env, Q (.pan v) ⟨env, σ, nx⟩) (K := Q .normal) (B := B) (n := n) (ds := ds) (kn₀ := kn) (m₀ := m) (σ₀ := s.σ) (nx₀ := s.nx) h3.lt (dstOK_sound hd) (fun s' kn' m' act' w' hK hR => ⟨.normal, s', kn', m', trivial, hR, hK⟩)
    (fun v u env' kn' m' σ' nx' act' w' hKP hv hR => ⟨.pan v, ⟨env', σ', nx'⟩, kn', m', ⟨u, rfl, hv⟩, hR, hKP env'⟩) (List.range ops.size) (fun _ => false) ⟨s.env, s.σ ++ objs, s.nx + objs.length⟩ kn m act w List.nodup_range (fun _ _ => rfl) ⟨⟨h1, h2, hI', KnLe.refl _, hk'⟩, ?_⟩ hs
  intro j o T hj hT _
  obtain ⟨z, hz, hg⟩ := allocObjs_get ho (j := j) (by simpa using hj) hT
  refine ⟨h3.dom _ (Nat.le_add_right _ _), ?_, Nat.le_add_right _ _, z, hz, ?_⟩
  · have := (List.getElem?_eq_some_iff.1 hg).1; simp; omega
  · rw [List.getElem?_append_right (Nat.le_add_right _ _), Nat.add_sub_cancel_left]; exact hg
end
end Go.Ab
