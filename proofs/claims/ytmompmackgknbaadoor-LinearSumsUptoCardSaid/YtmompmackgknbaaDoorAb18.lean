/-
  DEFERRED CALLS: bodies that defer closures, and closures that recover.
-/
import Derived.Test.YtmompmackgknbaaDoorAb17
import Derived.Recover
set_option linter.unusedVariables false
set_option linter.unusedSimpArgs false
namespace Go.Ab
open Go Go.RowKit

/-- A deferred call: the function and all its arguments. -/
def DRel (kn : Kn) (m : Mp) (x : FuncId × List AV) (d : Deferred) : Prop :=
  ∃ cap, d.target = .fn (.func x.1) cap ∧ RelL kn m x.2 (d.args ++ cap).toList
def DRelL (kn : Kn) (m : Mp) : List (FuncId × List AV) → List Deferred → Prop
  | [], ds => ds = []
  | x :: l, ds => ∃ d ds', ds = d :: ds' ∧ DRel kn m x d ∧ DRelL kn m l ds'
theorem DRelL.mono {kn kn' : Kn} {m m' : Mp} (hk : KnLe kn kn') (hm : MpLe m m') : ∀ {l : List (FuncId × List AV)} {ds : List Deferred}, DRelL kn m l ds → DRelL kn' m' l ds
  | [], ds, h => h
  | x :: l, ds, ⟨d, ds', h1, ⟨cap, h2, h3⟩, h4⟩ => ⟨d, ds', h1, ⟨cap, h2, h3.mono hk hm⟩, DRelL.mono hk hm h4⟩

/-- The mode of a frame whose deferred calls run: it returns, or panics with a value. -/
def RelMode (kn : Kn) (m : Mp) : Option AV → FrameMode → Prop
  | none, u => u = .returning
  | some x, u => ∃ v, u = .panicking [{ v := v, recovered := false }] ∧ Rel kn m x v
theorem RelMode.run {kn : Kn} {m : Mp} {x : Option AV} {u : FrameMode} (h : RelMode kn m x u) : u ≠ .run := by
  cases x with
  | none => simp only [RelMode] at h; subst h; simp
  | some x => obtain ⟨v, rfl, _⟩ := h; simp

/-- A contract of a deferred call: the mode ahead, and behind. -/
def DCall (C : Cx) (g : FuncId) (args : List AV) (σ : Sto) (nx : Nat) (u : Option AV) (R : Option AV → Sto → Nat → Prop) : Prop :=
  bodyOK C.P g = true ∧ ∀ (B : Base) (kn : Kn) (m : Mp) (w : World) (vs : List Value) (um : FrameMode), Inv C B kn m σ nx w → RelL kn m args vs → RelMode kn m u um →
    CallsD C.P g vs.toArray um w fun e u' w' => (∃ v, e = .returned v) ∧ ∃ x kn' m' σ' nx', R x σ' nx' ∧ RelMode kn' m' x (settle u') ∧ KnLe kn kn' ∧ Inv C B kn' m' σ' nx' w' ∧ Keep m σ nx m' σ' nx'

/-- What deferred calls owe, and the results behind them. -/
def LeavesA (C : Cx) (rs : List ResultVar) (Q : AOut → Sto → Nat → Prop) : List (FuncId × List AV) → Option AV → St → Prop
  | [], none, s => ∃ r, resA C.P rs s = some r ∧ Q (.ret r) s.σ s.nx
  | [], some v, s => Q (.pan v) s.σ s.nx
  | x :: l, u, s => ∃ R, DCall C x.1 x.2 s.σ s.nx u R ∧ ∀ u' σ' nx', R u' σ' nx' → LeavesA C rs Q l u' ⟨s.env, σ', nx'⟩

theorem leaves_sound {C : Cx} {fn : Func} {Q : AOut → Sto → Nat → Prop} {B : Base} {kn₀ : Kn} {m₀ : Mp} {σ₀ : Sto} {nx₀ : Nat} (hlt₀ : ∀ (p nm : Nat) (ob : AObj), σ₀[p]? = some (nm, ob) → nm < nx₀) {n : Nat} {act : Act} :
    ∀ (l : List (FuncId × List AV)) (u : Option AV) (s : St) (ds : List Deferred) (um : FrameMode) (kn : Kn) (m : Mp) (w : World), DRelL kn m l ds → RelMode kn m u um → RelEnv kn m s.env n act → Inv C B kn m s.σ s.nx w → KnLe kn₀ kn → Keep m₀ σ₀ nx₀ m s.σ s.nx →
      LeavesA C fn.results.toList Q l u s → Leaves C.P fn act.tmps (fun e w' => ∃ out kn' m' σ' nx', Q out σ' nx' ∧ RelOut kn' m' out e ∧ KnLe kn₀ kn' ∧ Inv C B kn' m' σ' nx' w' ∧ Keep m₀ σ₀ nx₀ m' σ' nx') ds um w
  | [], none, s, ds, um, kn, m, w, hd, hu, hE, hI, hk, hkp, h => by
    simp only [DRelL] at hd; subst hd
    simp only [RelMode] at hu; subst hu
    obtain ⟨r, h1, h2⟩ := h
    obtain ⟨v, q1, q2⟩ := results_sound hI hE h1
    exact ⟨v, q1, _, kn, m, _, _, h2, q2, hk, hI, hkp⟩
  | [], some x, s, ds, um, kn, m, w, hd, hu, hE, hI, hk, hkp, h => by
    simp only [DRelL] at hd; subst hd
    obtain ⟨v, rfl, hv⟩ := hu
    exact ⟨_, kn, m, _, _, h, ⟨v, rfl, hv⟩, hk, hI, hkp⟩
  | (g, as) :: l, u, s, ds, um, kn, m, w, hd, hu, hE, hI, hk, hkp, h => by
    obtain ⟨d, ds', rfl, ⟨cap, h2, h3⟩, h4⟩ := hd
    obtain ⟨R, ⟨hbo, hD⟩, hR⟩ := h
    obtain ⟨tg, dargs⟩ := d
    simp only at h2 h3; subst h2
    refine leaves_cons (f := g) (args := dargs ++ cap) hu.run ?_ ?_
    · simp only [invoke]; exact calls_of_bodyOK hbo _ w
    · have := hD B kn m w _ um hI h3 hu
      rw [show (dargs ++ cap).toList.toArray = dargs ++ cap by simp] at this
      refine this.mono ?_
      rintro e u' w' ⟨⟨v, rfl⟩, x, kn', m', σ', nx', hr, hx, hkl, hI', hkp'⟩
      exact leaves_sound hlt₀ l x ⟨s.env, σ', nx'⟩ ds' (settle u') kn' m' w' (h4.mono hkl (hkp'.mple hI)) hx (hE.mono hkl (hkp'.mple hI)) hI' (hk.trans hkl) (hkp.trans hkp' hlt₀) (hR _ _ _ hr)

/-! ### Code that may defer -/
def awD (C : Cx) (n : Nat) (dl : List (FuncId × List AV)) (c : Code) (Q : AExit → List (FuncId × List AV) → St → Prop) (s : St) : Prop :=
  ∀ (B : Base) (kn : Kn) (m : Mp) (act : Act) (w : World), RelEnv kn m s.env n act → DRelL kn m dl act.defers → Inv C B kn m s.σ s.nx w →
    c.wp C.P (fun e act' w' => ∃ ae s' kn' m' dl', RelExit kn' m' ae e ∧ RelEnv kn' m' s'.env n act' ∧ DRelL kn' m' dl' act'.defers ∧ Inv C B kn' m' s'.σ s'.nx w' ∧ KnLe kn kn' ∧ Keep m s.σ s.nx m' s'.σ s'.nx ∧ Q ae dl' s') act w

section
variable {C : Cx} {n : Nat} {dl : List (FuncId × List AV)} {Q : AExit → List (FuncId × List AV) → St → Prop} {s : St} {x y : Code}

theorem awD_rest (h : ∀ ds, aw C n ds x (fun e s' => Q e dl s') s) : awD C n dl x Q s := by
  intro B kn m act w h1 h2 h3
  refine wp_mono (h act.defers B kn m act w h1 rfl h3) ?_
  rintro e act' w' ⟨ae, s', kn', m', hx, hR, hq⟩
  exact ⟨ae, s', kn', m', dl, hx, hR.env, by rw [hR.defs]; exact h2.mono hR.knle (hR.keep.mple h3), hR.inv, hR.knle, hR.keep, hq⟩

def athenD (K : List (FuncId × List AV) → St → Prop) (Q : AExit → List (FuncId × List AV) → St → Prop) : AExit → List (FuncId × List AV) → St → Prop
  | .normal, dl, s => K dl s
  | e, dl, s => Q e dl s
theorem awD_seq (h : awD C n dl x (athenD (fun dl' s' => awD C n dl' y Q s') Q) s) : awD C n dl (.seq x y) Q s := by
  intro B kn m act w h1 h2 h3
  refine wp_seq (wp_mono (h B kn m act w h1 h2 h3) ?_)
  rintro e a1 w1 ⟨ae, s1, kn1, m1, dl1, hx, hE, hD, hI, hk, hkp, hq⟩
  cases e with
  | normal =>
    cases ae <;> first | (simp only [RelExit] at hx; done) | skip
    refine wp_mono (hq B kn1 m1 a1 w1 hE hD hI) ?_
    rintro e2 a2 w2 ⟨ae2, s2, kn2, m2, dl2, hx2, hE2, hD2, hI2, hk2, hkp2, hq2⟩
    exact ⟨ae2, s2, kn2, m2, dl2, hx2, hE2, hD2, hI2, hk.trans hk2, hkp.trans hkp2 h3.lt, hq2⟩
  | exit id => cases ae <;> first | (simp only [RelExit] at hx; done) | exact ⟨_, s1, kn1, m1, dl1, hx, hE, hD, hI, hk, hkp, hq⟩
  | goto l => cases ae <;> first | (simp only [RelExit] at hx; done) | exact ⟨_, s1, kn1, m1, dl1, hx, hE, hD, hI, hk, hkp, hq⟩
  | ret => cases ae <;> first | (simp only [RelExit] at hx; done) | exact ⟨_, s1, kn1, m1, dl1, hx, hE, hD, hI, hk, hkp, hq⟩
  | panic ch => cases ae <;> first | (simp only [RelExit] at hx; done) | exact ⟨_, s1, kn1, m1, dl1, hx, hE, hD, hI, hk, hkp, hq⟩
  | outgrown => cases ae <;> (simp only [RelExit] at hx)
end

theorem wpOps_append {P : Program} {ops : Array Oper} {Q : Exit → Act → World → Prop} (l2 : List Nat) : ∀ (l1 : List Nat) (a : Act) (w : World), wpOps P ops (fun e a w => match e with | .normal => wpOps P ops Q l2 a w | e => Q e a w) l1 a w → wpOps P ops Q (l1 ++ l2) a w
  | [], a, w, h => h
  | i :: rest, a, w, h => by
    rw [List.cons_append, wpOps_cons]
    rw [wpOps_cons] at h
    unfold wpOp at h ⊢
    split
    · rename_i e; rw [e] at h; exact wpOps_append l2 rest a w h
    · rename_i o e
      rw [e] at h
      simp only at h
      split
      · rename_i hw
        rw [if_pos hw] at h
        rcases h with h | ⟨h1, h2⟩
        · refine .inl ?_
          unfold Oper.wp at h ⊢
          generalize (execOp a.eval o).run P w = r at h ⊢
          unfold Oper.upon at h ⊢
          split at h
          all_goals first
            | exact wpOps_append l2 rest _ _ h
            | exact h
            | (refine h.mono fun e w' he => ?_
               cases e with
               | returned v => exact wpOps_append l2 rest _ _ he
               | panicked ch => exact he
               | outgrown => exact he)
            | (refine Rows.mono h fun v w' he => ?_; exact wpOps_append l2 rest _ _ he)
            | exact h.elim
        · exact .inr ⟨h1, h2⟩
      · rename_i hw
        rw [if_neg hw] at h
        exact wpOps_append l2 rest _ _ h

theorem aseq_of_areg' {C : Cx} {H : Hints} {tt : Nat → Bool} {ops : Array Oper} {K : St → Prop} {KP : AV → Sto → Nat → Prop} {p₀ n₀ : Nat} : ∀ (l : List Oper) (k : Nat) (s : St), (∀ j : Nat, j < l.length → l[j]? = ops[k + j]?) →
    areg C H tt ops K KP l k (p₀ + rk ops.toList k, n₀ + rk ops.toList k) s → aseq C H tt ops p₀ n₀ K KP (List.range' k l.length) s
  | [], k, s, hl, h => h
  | o :: rest, k, s, hl, h => by
    have h0 : ops[k]? = some o := by simpa using (hl 0 (by simp)).symm
    have hrest : ∀ j : Nat, j < rest.length → rest[j]? = ops[k + 1 + j]? := fun j hj => by have := hl (j + 1) (by simpa using hj); simpa [Nat.add_assoc, Nat.add_comm 1 j] using this
    have hrk := rk_succ (l := ops.toList) (i := k) (o := o) (by simpa using h0)
    have hal : (if isAlloc o.op = true then (p₀ + rk ops.toList k + 1, n₀ + rk ops.toList k + 1) else (p₀ + rk ops.toList k, n₀ + rk ops.toList k)) = (p₀ + rk ops.toList (k + 1), n₀ + rk ops.toList (k + 1)) := by
      rw [hrk]; split <;> simp [Nat.add_assoc]
    simp only [areg, hal] at h
    simp only [List.length_cons, List.range'_succ, aseq, aopAt, h0]
    obtain ⟨t, a, b, c⟩ := h
    exact ⟨t, a, fun ht => aop_mono (b ht) (fun v σ nx hh => aseq_of_areg' rest (k + 1) _ hrest hh) (fun _ _ _ hh => hh), fun ht => aseq_of_areg' rest (k + 1) _ hrest (c ht)⟩

section
variable {C : Cx} {n : Nat} {dl : List (FuncId × List AV)} {Q : AExit → List (FuncId × List AV) → St → Prop} {s : St}
/-- A region whose last operation defers a closure. -/
theorem awD_defer (H : Hints) {id : Nat} {ops : Array Oper} {objs : Sto} {pre : List Oper} {o : Oper} {c : Call} (hl : ops.toList = pre ++ [o]) (hop : o.op = .defer c) (hg : o.guard = none) (hd : dstOK n ops = true) (ho : allocObjs C.P ops.toList s.nx = some objs)
    (h : ∀ (K : St → Prop) (KP : AV → Sto → Nat → Prop), (∀ s', (∃ g as, calleeA C c s'.env = some (g, as) ∧ Q .normal ((g, as) :: dl) ⟨updo s'.env o.dst .undef, s'.σ, s'.nx⟩) → K s') → (∀ v σ nx, (∀ env, Q (.pan v) dl ⟨env, σ, nx⟩) → KP v σ nx) →
      areg C H (fun _ => true) ops K KP pre 0 (s.σ.length, s.nx) ⟨s.env, s.σ ++ objs, s.nx + objs.length⟩) : awD C n dl (.region id ops false) Q s := by
  intro B kn m act w h1 h2 h3
  obtain ⟨hI', hk'⟩ := h3.ahead ho
  refine wp_region ?_
  have hsz : ops.size = pre.length + 1 := by rw [← Array.length_toList, hl]; simp
  have hlast : ops[pre.length]? = some o := by rw [← Array.getElem?_toList, hl]; simp
  have hrange : List.range ops.size = List.range' 0 pre.length ++ [pre.length] := by
    rw [hsz, List.range_succ, List.range_eq_range']
  rw [hrange]
  refine wpOps_append _ _ _ _ ?_
  have h' := h (fun s' => ∃ g as, calleeA C c s'.env = some (g, as) ∧ Q .normal ((g, as) :: dl) ⟨updo s'.env o.dst .undef, s'.σ, s'.nx⟩) (fun v σ nx => ∀ env, Q (.pan v) dl ⟨env, σ, nx⟩) (fun _ h => h) (fun _ _ _ h => h)
  have hs := aseq_of_areg' (ops := ops) (p₀ := s.σ.length) (n₀ := s.nx) pre 0 ⟨s.env, s.σ ++ objs, s.nx + objs.length⟩ (fun j hj => by rw [← Array.getElem?_toList, hl]; simp [List.getElem?_append_left hj]) (by simpa [rk] using h')
  refine aseq_sound (KP := fun v σ nx => ∀ env, Q (.pan v) dl ⟨env, σ, nx⟩) (B := B) (n := n) (ds := act.defers) (kn₀ := kn) (m₀ := m) (σ₀ := s.σ) (nx₀ := s.nx) h3.lt (dstOK_sound hd) (fun s' kn' m' act' w' hK hR => ?_)
    (fun v u env' kn' m' σ' nx' act' w' hKP hv hR => ⟨.pan v, ⟨env', σ', nx'⟩, kn', m', dl, ⟨u, rfl, hv⟩, hR.env, by rw [hR.defs]; exact h2.mono hR.knle (hR.keep.mple h3), hR.inv, hR.knle, hR.keep, hKP env'⟩) (List.range' 0 pre.length) (fun _ => false) ⟨s.env, s.σ ++ objs, s.nx + objs.length⟩ kn m act w List.nodup_range' (fun _ _ => rfl) ⟨⟨h1, rfl, hI', KnLe.refl _, hk'⟩, ?_⟩ hs
  · obtain ⟨g, as, hc, hq⟩ := hK
    simp only
    rw [wpOps_cons]
    unfold wpOp
    rw [hlast]
    simp only
    have hwt : Region.wanted o (yielded ops act'.tmps) = true := by unfold Region.wanted; rw [hg]
    rw [if_pos hwt]
    refine .inl ?_
    unfold calleeA at hc
    split at hc
    · rename_i f hcal
      split at hc
      · rename_i g' first caps hf
        cases hc
        have hfr := rel_opv hR.inv hR.env f
        rw [hf] at hfr
        generalize hfv : act'.eval f = fv at hfr
        cases hfr with
        | fn _ _ _ first' caps' hl1 hl2 hr1 hr2 =>
          have hargs := rel_map hR.inv hR.env c.args
          have hrel : RelL kn' m' (first ++ (c.args.toList.map (opv C s'.env) ++ caps)) (first'.toList ++ ((c.args.map act'.eval).toList ++ caps'.toList)) := by
            refine RelL.append ⟨by simpa using hl1, fun i x v a b => hr1 i x v a (by simpa using b)⟩ (RelL.append ⟨by simp, fun i x v a b => hargs.2 i x v a (by rw [← Array.getElem?_toList]; exact b)⟩ ⟨by simpa using hl2, fun i x v a b => hr2 i x v a (by simpa using b)⟩)
          have hexec : (execOp act'.eval o).run C.P w' = .ok (.defer { target := .fn (.func g) caps', args := first' ++ c.args.map act'.eval }) w' := by
            obtain ⟨dst, op, type, pos, after, guard⟩ := o
            simp only at hop
            subst hop
            simp [execOp, resolve, hcal, hfv, Deferred.ofValue]
          unfold Oper.wp
          rw [hexec, Oper.upon_defer]
          simp only [wpOps]
          have hE : RelEnv kn' m' s'.env n { act' with defers := { target := .fn (.func g) caps', args := first' ++ c.args.map act'.eval } :: act'.defers } := ⟨hR.env.size, hR.env.tmp⟩
          refine ⟨.normal, ⟨updo s'.env o.dst .undef, s'.σ, s'.nx⟩, kn', m', _, trivial, hE.put o.dst (fun d => dstOK_sound hd _ _ d hlast) (.base _), ?_, hR.inv, hR.knle, hR.keep, hq⟩
          have hdd : ∀ (a : Act) (d : Option Tmp) (v : Value), (a.put d v).defers = a.defers := fun a d v => by cases d <;> rfl
          rw [hdd]
          refine ⟨_, _, rfl, ⟨caps', rfl, ?_⟩, ?_⟩
          · simpa using hrel
          · rw [hR.defs]; exact h2.mono hR.knle (hR.keep.mple h3)
      · cases hc
    · cases hc
  · intro j o' T hj hT _
    obtain ⟨z, hz, hgt⟩ := allocObjs_get ho (j := j) (by simpa using hj) hT
    refine ⟨h3.dom _ (Nat.le_add_right _ _), ?_, Nat.le_add_right _ _, z, hz, ?_⟩
    · have := (List.getElem?_eq_some_iff.1 hgt).1; simp; omega
    · rw [List.getElem?_append_right (Nat.le_add_right _ _), Nat.add_sub_cancel_left]; exact hgt
/-- A deferring region, and what stands behind it. -/
theorem awD_sdefer (H : Hints) {id : Nat} {ops : Array Oper} {objs : Sto} {y : Code} {pre : List Oper} {o : Oper} {c : Call} (hl : ops.toList = pre ++ [o]) (hop : o.op = .defer c) (hg : o.guard = none) (hd : dstOK n ops = true) (ho : allocObjs C.P ops.toList s.nx = some objs)
    (h : ∀ (K : St → Prop) (KP : AV → Sto → Nat → Prop), (∀ s', (∃ g as, calleeA C c s'.env = some (g, as) ∧ awD C n ((g, as) :: dl) y Q ⟨updo s'.env o.dst .undef, s'.σ, s'.nx⟩) → K s') → (∀ v σ nx, (∀ env, Q (.pan v) dl ⟨env, σ, nx⟩) → KP v σ nx) →
      areg C H (fun _ => true) ops K KP pre 0 (s.σ.length, s.nx) ⟨s.env, s.σ ++ objs, s.nx + objs.length⟩) : awD C n dl (.seq (.region id ops false) y) Q s :=
  awD_seq (awD_defer H hl hop hg hd ho fun K KP hK hP => h K KP hK hP)
theorem awD_sreg (H : Hints) {id : Nat} {ops : Array Oper} {objs : Sto} {y : Code} (hd : dstOK n ops = true) (ho : allocObjs C.P ops.toList s.nx = some objs)
    (h : ∀ (K : St → Prop) (KP : AV → Sto → Nat → Prop), (∀ s, awD C n dl y Q s → K s) → (∀ v σ nx, (∀ env, Q (.pan v) dl ⟨env, σ, nx⟩) → KP v σ nx) →
      areg C H (fun _ => true) ops K KP ops.toList 0 (s.σ.length, s.nx) ⟨s.env, s.σ ++ objs, s.nx + objs.length⟩) : awD C n dl (.seq (.region id ops false) y) Q s :=
  awD_seq (awD_rest fun ds => aw_region hd ho (h _ _ (fun _ h => h) (fun _ _ _ h env => h env)))
end

/-- What a body owes that defers. -/
def DPost (C : Cx) (rs : List ResultVar) (Q : AOut → Sto → Nat → Prop) : AExit → List (FuncId × List AV) → St → Prop
  | .normal, dl, s => LeavesA C rs Q dl none s
  | .ret, dl, s => LeavesA C rs Q dl none s
  | .pan v, dl, s => LeavesA C rs Q dl (some v) s
  | _, _, _ => False
theorem acall_introD {C : Cx} {g : FuncId} {fn : Func} {c : Code} {args : List AV} {σ : Sto} {nx : Nat} (hf : C.P.funcs[g]? = some fn) (hb : fn.body = some c) (hname : (fn.name == "runtime.NumGoroutine") = false) (hn : args.length ≤ fn.ntmps) {Q : AOut → Sto → Nat → Prop}
    (h : awD C fn.ntmps [] c (DPost C fn.results.toList Q) ⟨argEnv args, σ, nx⟩) : ACall C g args σ nx Q := by
  refine fun B kn m w vs hI hr => .inl ⟨bodyOK_mk hf hb hname, ?_⟩
  refine calls_of_wp_defers hf hb (wp_mono (h B kn m _ w (argEnv_rel hr hn) rfl hI) ?_)
  rintro e act' w' ⟨ae, s', kn', m', dl', hx, hE, hD, hI', hk, hkp, hq⟩
  cases e with
  | normal =>
    cases ae <;> first | (simp only [RelExit] at hx; done) | skip
    exact leaves_sound hI.lt dl' none s' _ _ kn' m' w' hD rfl hE hI' hk hkp hq
  | ret =>
    cases ae <;> first | (simp only [RelExit] at hx; done) | skip
    exact leaves_sound hI.lt dl' none s' _ _ kn' m' w' hD rfl hE hI' hk hkp hq
  | panic ch =>
    cases ae <;> first | (simp only [RelExit] at hx; done) | skip
    obtain ⟨u, rfl, hu⟩ := hx
    exact leaves_sound hI.lt dl' (some _) s' _ _ kn' m' w' hD ⟨u, rfl, hu⟩ hE hI' hk hkp hq
  | exit id => cases ae <;> first | (simp only [RelExit] at hx; done) | exact hq.elim
  | goto l => cases ae <;> first | (simp only [RelExit] at hx; done) | exact hq.elim
  | outgrown => cases ae <;> (simp only [RelExit] at hx)
theorem acall_mkD {C : Cx} {g : FuncId} {fn : Func} {c : Code} {args : List AV} {σ : Sto} {nx : Nat} (n : Nat) (rs : List ResultVar) (hf : C.P.funcs[g]? = some fn) (hb : fn.body = some c) (hname : (fn.name == "runtime.NumGoroutine") = false) (hn : fn.ntmps = n) (hr : fn.results.toList = rs) (hl : Nat.ble args.length n = true) {Q : AOut → Sto → Nat → Prop}
    (h : awD C n [] c (DPost C rs Q) ⟨argEnv args, σ, nx⟩) : ACall C g args σ nx Q := by
  subst hn; subst hr
  exact acall_introD hf hb hname (Nat.le_of_ble_eq_true hl) h

/-! ### Closures that recover -/
theorem wpOpsS_cons {P : Program} {ops : Array Oper} {Q : Exit → Act → List Frame → World → Prop} {i : Nat} {rest : List Nat} {a : Act} {cs : List Frame} {w : World} (hno : ¬ LetsOut (fun e a w => Q e a cs w)) (h : wpOp P ops (fun e a w => Q e a cs w) i (fun a w => wpOpsS P ops Q rest a cs w) a w) :
    wpOpsS P ops Q (i :: rest) a cs w := by
  unfold wpOp at h
  simp only [wpOpsS]
  split
  · rename_i e; rw [e] at h; exact h
  · rename_i o e
    rw [e] at h
    simp only at h
    split
    · rename_i hw
      rw [if_pos hw] at h
      rcases h with h | ⟨_, h⟩
      · unfold Oper.wp at h
        split
        · rename_i w' hr; rw [hr] at h; exact h.elim
        · exact h
      · exact absurd h hno
    · rename_i hw; rw [if_neg hw] at h; exact h

section
variable {C : Cx} {B : Base} {n : Nat} {ds : List Deferred} {kn₀ : Kn} {m₀ : Mp} {σ₀ : Sto} {nx₀ : Nat} {ops : Array Oper} {p₀ n₀ : Nat}
theorem aseqS_sound {H : Hints} {tt : Nat → Bool} {K : St → Prop} {KP : AV → Sto → Nat → Prop} (hlt₀ : ∀ (p nm : Nat) (ob : AObj), σ₀[p]? = some (nm, ob) → nm < nx₀)
    (hd : ∀ (i : Nat) (o : Oper) (d : Nat), ops[i]? = some o → o.dst = some d → d < n) {Q : Exit → Act → List Frame → World → Prop} {cs : List Frame} (hno : ¬ LetsOut (fun e a w => Q e a cs w))
    (hend : ∀ s' kn' m' act' w', K s' → RS C B n ds kn₀ m₀ σ₀ nx₀ kn' m' s' act' w' → Q .normal act' cs w')
    (hpan : ∀ v u env' kn' m' σ' nx' act' w', KP v σ' nx' → Rel kn' m' v u → RS C B n ds kn₀ m₀ σ₀ nx₀ kn' m' ⟨env', σ', nx'⟩ act' w' → Q (.panic [{ v := u, recovered := false }]) act' cs w') :
    ∀ (l : List Nat) (listed : Nat → Bool) (s : St) (kn : Kn) (m : Mp) (act : Act) (w : World), l.Nodup → (∀ i ∈ l, listed i = false) → RR C B n ds kn₀ m₀ σ₀ nx₀ ops p₀ n₀ listed kn m s act w → aseq C H tt ops p₀ n₀ K KP l s →
      wpOpsS C.P ops Q l act cs w
  | [], listed, s, kn, m, act, w, _, _, hR, h => by simpa [wpOpsS] using hend s kn m act w h hR.rs
  | i :: rest, listed, s, kn, m, act, w, hnd, hl, hR, h => by
    refine wpOpsS_cons hno (aopAt_sound hlt₀ hd hR (hl i (by simp)) h (fun s' kn' m' act' w' hK hR' => ?_) hpan)
    refine aseqS_sound hlt₀ hd hno hend hpan rest (lput listed i) s' kn' m' act' w' (List.nodup_cons.1 hnd).2 (fun j hj => ?_) hR' hK
    unfold lput
    rw [if_neg (show ¬ j = i from fun e => (List.nodup_cons.1 hnd).1 (by rw [← e]; exact hj))]
    exact hl j (by simp [hj])
end

/-- What the body of a deferred closure owes behind 'recover'. -/
def CPost (C : Cx) (rs : List ResultVar) (R : Option AV → Sto → Nat → Prop) : AExit → St → Prop
  | .normal, s => (∃ r, resA C.P rs s = some r) ∧ R none s.σ s.nx
  | .ret, s => (∃ r, resA C.P rs s = some r) ∧ R none s.σ s.nx
  | _, _ => False
/-- What 'recover' tells. -/
def recA : Option AV → AV
  | none => .base .nilIface
  | some x => x

theorem dcall_mk {C : Cx} (H : Hints) {g : FuncId} {fn : Func} {id : Nat} {ops : Array Oper} {y : Code} {args : List AV} {σ : Sto} {nx : Nat} {u : Option AV} {R : Option AV → Sto → Nat → Prop} (n : Nat) (rs : List ResultVar) (hf : C.P.funcs[g]? = some fn) (hb : fn.body = some (.seq (.region id ops false) y))
    (hname : (fn.name == "runtime.NumGoroutine") = false) (hn : fn.ntmps = n) (hr : fn.results.toList = rs) (hl : Nat.ble args.length n = true)
    {o : Oper} {l : List Oper} {ts : Array TypeId} {objs : Sto} (hol : ops.toList = o :: l) (hop : o.op = .call ⟨.builtin .recover, #[], ts⟩) (hg : o.guard = none) (hd : dstOK n ops = true) (ho : allocObjs C.P ops.toList nx = some objs)
    (h : ∀ (K : St → Prop), (∀ s, aw C n [] y (CPost C rs R) s → K s) → areg C H (fun _ => true) ops K (fun _ _ _ => False) l 1 (σ.length, nx) ⟨updo (argEnv args) o.dst (recA u), σ ++ objs, nx + objs.length⟩) : DCall C g args σ nx u R := by
  subst hn; subst hr
  refine ⟨bodyOK_mk hf hb hname, fun B kn m w vs um hI hrel hmode => ?_⟩
  refine callsD_of_wpS hf hb fun c₀ cs hc₀ => ?_
  refine wpS_seq (wpS_region ?_)
  have hE := argEnv_rel hrel (Nat.le_of_ble_eq_true hl)
  obtain ⟨hI', hk'⟩ := hI.ahead ho
  have hsz : ops.size = l.length + 1 := by rw [← Array.length_toList, hol]; simp
  have h0 : ops[0]? = some o := by rw [← Array.getElem?_toList, hol]; simp
  have hrange : List.range ops.size = 0 :: List.range' 1 l.length := by
    rw [hsz, List.range_eq_range', List.range'_succ]
  rw [hrange]
  simp only [wpOpsS, h0]
  have hwt : ∀ ts, Region.wanted o (yielded ops ts) = true := fun ts => by unfold Region.wanted; rw [hg]
  rw [if_pos (hwt _)]
  have hexec : ∀ (a : Act) (w : World), (execOp a.eval o).run C.P w = .ok .recover w := by
    intro a w
    obtain ⟨dst, op, type, pos, after, guard⟩ := o
    simp only at hop
    subst hop
    rfl
  rw [hexec]
  simp only
  have hrk : rk ops.toList 1 = 0 := by rw [hol]; simp [rk, hop, isAlloc]
  -- what stands behind, whatever was recovered
  have key : ∀ (rv : Value) (u' : FrameMode), Rel kn m (recA u) rv → settle u' = .returning →
      wpOpsS C.P ops (Exit.thenS (y.wpS C.P (bodyPostS C.P fn c₀ cs fun e u' w' => (∃ v, e = .returned v) ∧ ∃ x kn' m' σ' nx', R x σ' nx' ∧ RelMode kn' m' x (settle u') ∧ KnLe kn kn' ∧ Inv C B kn' m' σ' nx' w' ∧ Keep m σ nx m' σ' nx'))
        (bodyPostS C.P fn c₀ cs fun e u' w' => (∃ v, e = .returned v) ∧ ∃ x kn' m' σ' nx', R x σ' nx' ∧ RelMode kn' m' x (settle u') ∧ KnLe kn kn' ∧ Inv C B kn' m' σ' nx' w' ∧ Keep m σ nx m' σ' nx')) (List.range' 1 l.length)
        (({ tmps := vs.toArray ++ Array.replicate (fn.ntmps - vs.toArray.size) undef, defers := [] } : Act).put o.dst rv) ({ c₀ with mode := u' } :: cs) w := by
    intro rv u' hrv hset
    have hs := aseq_of_areg' (C := C) (H := H) (ops := ops) (p₀ := σ.length) (n₀ := nx) l 1 ⟨updo (argEnv args) o.dst (recA u), σ ++ objs, nx + objs.length⟩ (fun j hj => by rw [← Array.getElem?_toList, hol, Nat.add_comm 1 j]; simp) (by rw [hrk]; exact h _ (fun s hs => hs))
    refine aseqS_sound (KP := fun _ _ _ => False) (B := B) (n := fn.ntmps) (ds := []) (kn₀ := kn) (m₀ := m) (σ₀ := σ) (nx₀ := nx) hI.lt (dstOK_sound hd) ?_ (fun s' kn' m' act' w' hK hR => ?_) (fun _ _ _ _ _ _ _ _ _ hf => hf.elim)
      (List.range' 1 l.length) (fun j => decide (j = 0)) ⟨updo (argEnv args) o.dst (recA u), σ ++ objs, nx + objs.length⟩ kn m _ w List.nodup_range' (fun i hi => by have := List.mem_range'_1.1 hi; simp; omega) ⟨⟨hE.put o.dst (fun d => dstOK_sound hd _ _ d h0) hrv, by cases o.dst <;> rfl, hI', KnLe.refl _, hk'⟩, ?_⟩ hs
    · rintro ⟨a, w, u'', hq, _⟩
      simp at hq
    · refine wpS_of_wp (wp_mono (hK B kn' m' act' w' hR.env hR.defs hR.inv) ?_)
      rintro e act2 w2 ⟨ae, s2, kn2, m2, hx, hR2, hq⟩
      have fin : (∃ r, resA C.P fn.results.toList s2 = some r) ∧ R none s2.σ s2.nx → act2.defers = [] ∧ ∃ u'', ({ c₀ with mode := u' } :: cs : List Frame) = { c₀ with mode := u'' } :: cs ∧ ∃ v, (results fn act2.tmps).run C.P w2 = .ok v w2 ∧ (∃ v', Ending.returned v = .returned v') ∧ ∃ x kn' m' σ' nx', R x σ' nx' ∧ RelMode kn' m' x (settle u'') ∧ KnLe kn kn' ∧ Inv C B kn' m' σ' nx' w2 ∧ Keep m σ nx m' σ' nx' := by
        rintro ⟨⟨r, hr⟩, hRn⟩
        obtain ⟨v, q1, q2⟩ := results_sound hR2.inv hR2.env hr
        exact ⟨hR2.defs, u', rfl, v, q1, ⟨v, rfl⟩, none, kn2, m2, s2.σ, s2.nx, hRn, hset, hR.knle.trans hR2.knle, hR2.inv, hR.keep.trans hR2.keep hI.lt⟩
      cases e with
      | normal => cases ae <;> first | (simp only [RelExit] at hx; done) | exact fin hq
      | ret => cases ae <;> first | (simp only [RelExit] at hx; done) | exact fin hq
      | panic ch => cases ae <;> first | (simp only [RelExit] at hx; done) | exact hq.elim
      | exit id => cases ae <;> first | (simp only [RelExit] at hx; done) | exact hq.elim
      | goto l => cases ae <;> first | (simp only [RelExit] at hx; done) | exact hq.elim
      | outgrown => cases ae <;> (simp only [RelExit] at hx)
    · intro j o' T hj hT hlj
      obtain ⟨z, hz, hgt⟩ := allocObjs_get ho (j := j) (by simpa using hj) hT
      refine ⟨hI.dom _ (Nat.le_add_right _ _), ?_, Nat.le_add_right _ _, z, hz, ?_⟩
      · have := (List.getElem?_eq_some_iff.1 hgt).1; simp; omega
      · rw [List.getElem?_append_right (Nat.le_add_right _ _), Nat.add_sub_cancel_left]; exact hgt
  cases u with
  | none =>
    simp only [RelMode] at hmode
    subst hmode
    have hrec : recoverD (c₀ :: cs) = none := by simp only [recoverD, hc₀]
    rw [hrec]
    have hsame : ({ c₀ with mode := .returning } : Frame) = c₀ := by rw [← hc₀]
    have := key .nilIface .returning (.base _) rfl
    rw [hsame] at this
    exact this
  | some x =>
    obtain ⟨v, rfl, hv⟩ := hmode
    have hrec : recoverD (c₀ :: cs) = some (v, { c₀ with mode := .panicking [{ v := v, recovered := true }] } :: cs) := by simp only [recoverD, hc₀]
    rw [hrec]
    exact key v (.panicking [{ v := v, recovered := true }]) hv rfl
end Go.Ab
