/-
  CONTRACTS OF CALLS over abstract values; one operation of a region, whatever its kind, is sound.
-/
import Derived.Test.YtmompmackgknbaaDoorAb10
set_option linter.unusedVariables false
set_option linter.unusedSimpArgs false
namespace Go.Ab
open Go Go.RowKit

inductive AOut where
  | ret (v : AV)
  | pan (v : AV)

def RelOut (kn : Kn) (m : Mp) : AOut → Ending → Prop
  | .ret v, .returned u => Rel kn m v u
  | .pan v, .panicked chain => ∃ u, chain = [{ v := u, recovered := false }] ∧ Rel kn m v u
  | _, _ => False

def m0 : Mp := fun _ => none

structure KnOK (C : Cx) (kn : Kn) (w : World) : Prop where
  ok : ∀ b o v, kn b o = some v → w.cell? ⟨b, o, none⟩ = some v
  glob : ∀ g, Rel kn m0 (C.gl g) (.pointer (some ⟨g, 0, none⟩))

def bodyOK (P : Program) (g : FuncId) : Bool :=
  match P.funcs[g]? with
  | some fn => !(fn.name == "runtime.NumGoroutine") && fn.body.isSome
  | none => false

theorem calls_of_bodyOK {P : Program} {g : FuncId} (h : bodyOK P g = true) (args : Array Value) (w : World) : (callFunc g args).run P w = .ok (.enter g args) w := by
  unfold bodyOK at h
  split at h
  · rename_i fn hf
    simp only [Bool.and_eq_true, Bool.not_eq_true', Option.isSome_iff_exists] at h
    obtain ⟨h1, c, hc⟩ := h
    unfold callFunc
    have h1' : ¬ fn.name = "runtime.NumGoroutine" := by simpa using h1
    simp [hf, h1', hc]
  · cases h

/-- A call runs a body, or is an entry of the model that yields its value at once. -/
def Does (P : Program) (g : FuncId) (vs : Array Value) (w : World) (post : Ending → World → Prop) : Prop :=
  (bodyOK P g = true ∧ Calls P g vs w post) ∨ (∃ u w', (callFunc g vs).run P w = .ok (.value u) w' ∧ post (.returned u) w')
theorem Does.mono {P : Program} {g : FuncId} {vs : Array Value} {w : World} {post post' : Ending → World → Prop} (h : Does P g vs w post) (hp : ∀ e w', post e w' → post' e w') : Does P g vs w post' :=
  h.elim (fun h => .inl ⟨h.1, h.2.mono hp⟩) (fun ⟨u, w', h1, h2⟩ => .inr ⟨u, w', h1, hp _ _ h2⟩)

/-- **A contract of a call whose arguments hold no references: it writes nothing that was there.** -/
def PCall (C : Cx) (g : FuncId) (args : List AV) (Q : AOut → Prop) : Prop :=
  ∀ (kn : Kn) (w : World) (vs : List Value), KnOK C kn w → RelL kn m0 args vs →
    Does C.P g vs.toArray w fun e w' => ∃ out kn', Q out ∧ RelOut kn' m0 out e ∧ KnOK C kn' w' ∧ Below w.heap.size w w' ∧ ∀ b, b < w.heap.size → kn' b = kn b

/-- A contract of a call that may write the objects of the store. -/
def ACall (C : Cx) (g : FuncId) (args : List AV) (σ : Sto) (nx : Nat) (Q : AOut → Sto → Nat → Prop) : Prop :=
  ∀ (B : Base) (kn : Kn) (m : Mp) (w : World) (vs : List Value), Inv C B kn m σ nx w → RelL kn m args vs →
    Does C.P g vs.toArray w fun e w' => ∃ out kn' m' σ' nx', Q out σ' nx' ∧ RelOut kn' m' out e ∧ KnLe kn kn' ∧ Inv C B kn' m' σ' nx' w' ∧ Keep m σ nx m' σ' nx'

theorem PCall.mono {C : Cx} {g : FuncId} {args : List AV} {Q Q' : AOut → Prop} (h : PCall C g args Q) (hq : ∀ o, Q o → Q' o) : PCall C g args Q' :=
  fun kn w vs h1 h2 => (h kn w vs h1 h2).mono fun e w' ⟨out, kn', a, b⟩ => ⟨out, kn', hq _ a, b⟩
theorem ACall.mono {C : Cx} {g : FuncId} {args : List AV} {σ : Sto} {nx : Nat} {Q Q' : AOut → Sto → Nat → Prop} (h : ACall C g args σ nx Q) (hq : ∀ o σ' nx', Q o σ' nx' → Q' o σ' nx') : ACall C g args σ nx Q' :=
  fun B kn m w vs h1 h2 => (h B kn m w vs h1 h2).mono fun e w' ⟨out, kn', m', σ', nx', a, b⟩ => ⟨out, kn', m', σ', nx', hq _ _ _ a, b⟩

theorem Inv.knOK {C : Cx} {B : Base} {kn : Kn} {m : Mp} {σ : Sto} {nx : Nat} {w : World} (h : Inv C B kn m σ nx w) : KnOK C kn w := ⟨h.knok, fun g => (h.glob g).rf (C.rf g) m0⟩
theorem RelL.rf {kn : Kn} {m : Mp} {args : List AV} {vs : List Value} (h : RelL kn m args vs) (hf : RFL args) (m' : Mp) : RelL kn m' args vs := ⟨h.1, fun i x v a b => (h.2 i x v a b).rf (hf.get a) m'⟩
theorem RelOut.mono {kn kn' : Kn} {m m' : Mp} {o : AOut} {e : Ending} (h : RelOut kn m o e) (hk : KnLe kn kn') (hm : MpLe m m') : RelOut kn' m' o e := by
  cases o <;> cases e <;> simp only [RelOut] at h ⊢
  · exact h.mono hk hm
  · obtain ⟨u, a, b⟩ := h; exact ⟨u, a, b.mono hk hm⟩

/-- A contract without references serves in whatever store. -/
theorem PCall.acall {C : Cx} {g : FuncId} {args : List AV} {Q : AOut → Prop} (h : PCall C g args Q) (hf : RFL args) (σ : Sto) (nx : Nat) : ACall C g args σ nx (fun o σ' nx' => Q o ∧ σ' = σ ∧ nx' = nx) := by
  refine fun B kn m w vs hI hr => (h kn w vs hI.knOK (hr.rf hf m0)).mono ?_
  rintro e w' ⟨out, kn', hq, ho, hk, hb, hkn⟩
  obtain ⟨hle, hI'⟩ := hI.grow (kn' := kn') hb.size hb.os hb.tape hb.output hb.block hkn (fun b o v _ e => hk.ok b o v e)
  exact ⟨out, kn', m, σ, nx, ⟨hq, rfl, rfl⟩, ho.mono (KnLe.refl _) (fun n l e => by cases e), hle, hI', Keep.refl _ _ _⟩

/-! ### One operation -/
structure Hints where
  mb : List Nat := []
  ac : List Nat := []
  pl : List Nat := []

inductive Kind where
  | fn | eff | call | panic | bad
  deriving DecidableEq

def dstIn (l : List Nat) : Option Nat → Bool
  | some d => l.contains d
  | none => false
def kindOf (H : Hints) (o : Oper) : Kind :=
  match o.op with
  | .call c => match c.callee with
    | .builtin .append => .eff
    | .builtin _ => .fn
    | .value _ => .call
    | .invoke _ _ => .bad
  | .box _ _ => if dstIn H.mb o.dst then .eff else .fn
  | .buildSlice _ _ _ => if dstIn H.mb o.dst then .eff else .fn
  | .store _ _ _ => .eff
  | .makeSlice _ _ _ => .eff
  | .range _ _ => .eff
  | .next _ _ => .eff
  | .panic _ => .panic
  | _ => .fn

/-- The callee and all its arguments. -/
def calleeA (C : Cx) (c : Call) (env : Nat → AV) : Option (FuncId × List AV) :=
  match c.callee with
  | .value f => match opv C env f with
    | .fn (.func g) first caps => some (g, first ++ (c.args.toList.map (opv C env) ++ caps))
    | _ => none
  | _ => none

/-- The callee's contract, and what follows it. 'tot': a panic is let by; else some call returns. 'own': the callee may write objects. -/
def CallP (C : Cx) (own tot : Bool) (g : FuncId) (args : List AV) (σ : Sto) (nx : Nat) (K KP : AV → Sto → Nat → Prop) : Prop :=
  ∃ Q : AOut → Sto → Nat → Prop, ACall C g args σ nx Q ∧ (∀ v σ' nx', Q (.ret v) σ' nx' → K v σ' nx') ∧ (∀ v σ' nx', Q (.pan v) σ' nx' → KP v σ' nx') ∧
    (tot = true ∨ ∃ v σ' nx', Q (.ret v) σ' nx') ∧ (own = true ∨ (RFL args ∧ ∃ Q', PCall C g args Q' ∧ ∀ o σ' nx', Q o σ' nx' ↔ (Q' o ∧ σ' = σ ∧ nx' = nx)))

def aop (C : Cx) (H : Hints) (tot : Bool) (al : Nat × Nat) (o : Oper) (K KP : AV → Sto → Nat → Prop) (s : St) : Prop :=
  match kindOf H o with
  | .fn => ∃ v, fop C al o.op s.env (if dstIn H.pl o.dst = true then [] else s.σ) = some v ∧ K v s.σ s.nx
  | .eff => ∃ v σ' nx', eop C o.op s.env s.σ s.nx = some (v, σ', nx') ∧ K v σ' nx'
  | .call => match o.op with
    | .call c => ∃ g args, calleeA C c s.env = some (g, args) ∧ CallP C (dstIn H.ac o.dst) tot g args s.σ s.nx K KP
    | _ => False
  | .panic => match o.op with
    | .panic x => ∃ t v, opv C s.env x = .iface t v ∧ KP (.iface t v) s.σ s.nx
    | _ => False
  | .bad => False

/-- What is told without the store is told with it. -/
theorem readA_nil {P : Program} {T : TypeId} {a x : AV} (h : readA P T [] a = some x) (σ : Sto) : readA P T σ a = some x := by
  cases a <;> simp_all [readA, sget]
theorem fop_nil {C : Cx} {al : Nat × Nat} {op : Op} {env : Nat → AV} {x : AV} (h : fop C al op env [] = some x) (σ : Sto) : fop C al op env σ = some x := by
  cases op <;> first | exact h | exact readA_nil h σ

/-- The post of an abstract weakest precondition: what an exit of the model owes. -/
inductive AExit where
  | normal
  | exit (id : Nat)
  | goto (l : Nat)
  | ret
  | pan (v : AV)

def RelExit (kn : Kn) (m : Mp) : AExit → Exit → Prop
  | .normal, .normal => True
  | .exit i, .exit j => i = j
  | .goto i, .goto j => i = j
  | .ret, .ret => True
  | .pan v, .panic chain => ∃ u, chain = [{ v := u, recovered := false }] ∧ Rel kn m v u
  | _, _ => False

/-- A state of the model that an abstract state tells, seen from where one began (kn₀ m₀ σ₀ nx₀). -/
structure RS (C : Cx) (B : Base) (n : Nat) (ds : List Deferred) (kn₀ : Kn) (m₀ : Mp) (σ₀ : Sto) (nx₀ : Nat) (kn : Kn) (m : Mp) (s : St) (act : Act) (w : World) : Prop where
  env : RelEnv kn m s.env n act
  defs : act.defers = ds
  inv : Inv C B kn m s.σ s.nx w
  knle : KnLe kn₀ kn
  keep : Keep m₀ σ₀ nx₀ m s.σ s.nx

section
variable {C : Cx} {B : Base} {n : Nat} {ds : List Deferred} {kn₀ : Kn} {m₀ : Mp} {σ₀ : Sto} {nx₀ : Nat}

theorem fresh_of {kn : Kn} {m : Mp} {s : St} {act : Act} {w : World} (hR : RS C B n ds kn₀ m₀ σ₀ nx₀ kn m s act w) : True := trivial

/-- What an operation of a region owes: a value in its place, and the rest; or a panic. -/
theorem aop_sound {H : Hints} {tot : Bool} {al : Nat × Nat} {o : Oper} {K KP : AV → Sto → Nat → Prop} {s : St} {kn : Kn} {m : Mp} {act : Act} {w : World} (hlt₀ : ∀ (p nm : Nat) (ob : AObj), σ₀[p]? = some (nm, ob) → nm < nx₀)
    (hR : RS C B n ds kn₀ m₀ σ₀ nx₀ kn m s act w) (hna : isAlloc o.op = false) (hd : ∀ d, o.dst = some d → d < n) (h : aop C H tot al o K KP s)
    {next : Act → World → Prop} {Q : Exit → Act → World → Prop}
    (hnext : ∀ v kn' m' σ' nx' act' w', K v σ' nx' → RS C B n ds kn₀ m₀ σ₀ nx₀ kn' m' ⟨updo s.env o.dst v, σ', nx'⟩ act' w' → Keep m s.σ s.nx m' σ' nx' → next act' w')
    (hpan : ∀ v u kn' m' σ' nx' act' w', KP v σ' nx' → Rel kn' m' v u → RS C B n ds kn₀ m₀ σ₀ nx₀ kn' m' ⟨s.env, σ', nx'⟩ act' w' → Q (.panic [{ v := u, recovered := false }]) act' w') :
    o.wp C.P act w next Q := by
  have mkRS : ∀ {v : AV} {u : Value} {kn' : Kn} {m' : Mp} {σ' : Sto} {nx' : Nat} {w' : World}, Rel kn' m' v u → KnLe kn kn' → Inv C B kn' m' σ' nx' w' → Keep m s.σ s.nx m' σ' nx' →
      RS C B n ds kn₀ m₀ σ₀ nx₀ kn' m' ⟨updo s.env o.dst v, σ', nx'⟩ (act.put o.dst u) w' := by
    intro v u kn' m' σ' nx' w' hv hk hI hkp
    refine ⟨(hR.env.mono hk (hkp.mple hR.inv)).put o.dst hd hv, ?_, hI, hR.knle.trans hk, hR.keep.trans hkp hlt₀⟩
    cases hdst : o.dst <;> simp [Act.put, hR.defs]
  unfold aop at h
  unfold Oper.wp
  split at h
  · obtain ⟨v, hv, hK⟩ := h
    have hv' : fop C al o.op s.env s.σ = some v := by
      split at hv
      · exact fop_nil hv s.σ
      · exact hv
    obtain ⟨u, kn', w', h1, h2, h3, h4⟩ := fop_sound hR.inv hR.env hna hv'
    rw [h1]
    exact hnext v kn' m _ _ _ _ hK (mkRS h3 h2 h4 (Keep.refl _ _ _)) (Keep.refl _ _ _)
  · obtain ⟨v, σ', nx', hv, hK⟩ := h
    obtain ⟨nxt, u, m', w', h1, h2, h3, h4, h5⟩ := eop_sound hR.inv hR.env hv
    rw [h1]
    rcases h2 with rfl | ⟨rfl, rfl⟩
    · exact hnext v kn m' _ _ _ _ hK (mkRS h3 (KnLe.refl _) h4 h5) h5
    · exact hnext v kn m' _ _ _ _ hK (mkRS h3 (KnLe.refl _) h4 h5) h5
  · split at h
    · rename_i c hop
      obtain ⟨g, args, hc, Qc, hAC, hk1, hk2, _, _⟩ := h
      unfold calleeA at hc
      split at hc
      · rename_i f hcal
        split at hc
        · rename_i g' first caps hf
          cases hc
          have hfr := rel_opv hR.inv hR.env f
          rw [hf] at hfr
          generalize hfv : act.eval f = fv at hfr
          cases hfr with
          | fn _ _ _ first' caps' hl1 hl2 hr1 hr2 =>
            have hargs := rel_map hR.inv hR.env c.args
            have hrel : RelL kn m (first ++ (c.args.toList.map (opv C s.env) ++ caps)) (first'.toList ++ ((c.args.map act.eval).toList ++ caps'.toList)) := by
              refine RelL.append ⟨by simpa using hl1, fun i x v a b => hr1 i x v a (by simpa using b)⟩ (RelL.append ⟨by simp, fun i x v a b => hargs.2 i x v a (by rw [← Array.getElem?_toList]; exact b)⟩ ⟨by simpa using hl2, fun i x v a b => hr2 i x v a (by simpa using b)⟩)
            have hcall := hAC B kn m w _ hR.inv hrel
            have harr : (first'.toList ++ ((c.args.map act.eval).toList ++ caps'.toList)).toArray = first' ++ c.args.map act.eval ++ caps' := by
              apply Array.ext'
              simp
            rw [harr] at hcall
            have hexec : execOp act.eval o = callFunc g (first' ++ c.args.map act.eval ++ caps') := by
              obtain ⟨dst, op, type, pos, after, guard⟩ := o
              simp only at hop
              subst hop
              simp [execOp, resolve, hcal, hfv, Deferred.ofValue, invoke]
            have fin : ∀ e w', (∃ out kn' m' σ' nx', Qc out σ' nx' ∧ RelOut kn' m' out e ∧ KnLe kn kn' ∧ Inv C B kn' m' σ' nx' w' ∧ Keep m s.σ s.nx m' σ' nx') → (match e with
                | .returned u => next (act.put o.dst u) w'
                | .panicked ch => Q (.panic ch) act w'
                | .outgrown => False) := by
              rintro e w' ⟨out, kn', m', σ', nx', hq, ho, hkl, hI', hkp⟩
              cases out with
              | ret v =>
                cases e with
                | returned u => exact hnext v kn' m' _ _ _ _ (hk1 v σ' nx' hq) (mkRS ho hkl hI' hkp) hkp
                | panicked ch => exact ho.elim
                | outgrown => exact ho.elim
              | pan v =>
                cases e with
                | returned u => exact ho.elim
                | panicked ch =>
                  obtain ⟨u, rfl, hu⟩ := ho
                  exact hpan v u kn' m' σ' nx' act w' (hk2 v σ' nx' hq) hu ⟨hR.env.mono hkl (hkp.mple hR.inv), hR.defs, hI', hR.knle.trans hkl, hR.keep.trans hkp hlt₀⟩
                | outgrown => exact ho.elim
            rcases hcall with ⟨hbo, hcall⟩ | ⟨u, w', hval, hpost⟩
            · have hrun : (execOp act.eval o).run C.P w = .ok (.enter g (first' ++ c.args.map act.eval ++ caps')) w := by rw [hexec]; exact calls_of_bodyOK hbo _ w
              rw [hrun]
              simp only [Oper.upon]
              refine hcall.mono fun e w' he => ?_
              have := fin e w' he
              cases e with
              | returned u => exact this
              | panicked ch => exact this
              | outgrown => exact this.elim
            · rw [hexec, hval]
              simp only [Oper.upon]
              exact fin _ _ hpost
        · cases hc
      · cases hc
    · exact h.elim
  · split at h
    · rename_i x hop
      obtain ⟨t, v, hx, hKP⟩ := h
      have hxr := rel_opv hR.inv hR.env x
      rw [hx] at hxr
      generalize hxv : act.eval x = xv at hxr
      cases hxr with
      | iface _ _ v' hr =>
        have hrun : (execOp act.eval o).run C.P w = .halt (.panic (.iface t v')) w := by
          obtain ⟨dst, op, type, pos, after, guard⟩ := o
          simp only at hop
          subst hop
          simp [execOp, hxv, Instr.panic]
        rw [hrun]
        exact hpan _ _ kn m _ _ act w hKP (.iface t v v' hr) ⟨hR.env, hR.defs, hR.inv, hR.knle, hR.keep⟩
    · exact h.elim
  · exact h.elim
end
end Go.Ab
