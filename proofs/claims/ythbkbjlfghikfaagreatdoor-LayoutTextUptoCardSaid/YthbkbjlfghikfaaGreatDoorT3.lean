/- merged by minib.py -/
import Derived.Test.YthbkbjlfghikfaaGreatDoorT2
import Derived.Recover
import Derived.Test.YthbkbjlfghikfaaGreatDoorProg
set_option linter.unusedVariables false
set_option linter.unusedSimpArgs false
set_option maxRecDepth 100000
noncomputable section
namespace Go.Ab
open Go Go.RowKit
inductive AOut where
 | ret (v : AV)
 | pan (v : AV)
def RelOut (kn : Kn) (m : Mp) : AOut -> Ending -> Prop
 | .ret v, .returned u => Rel kn m v u
 | .pan v, .panicked chain => ∃ u, chain = [{ v := u, recovered := false }] /\ Rel kn m v u
 | _, _ => False
def m0 : Mp := fun _ => none
structure KnOK (C : Cx) (kn : Kn) (w : World) : Prop where
 ok : ∀ b o v, kn b o = some v -> w.cell? ⟨b, o, none⟩ = some v
 glob : ∀ g, Rel kn m0 (C.gl g) (.pointer (some ⟨g, 0, none⟩))
 tab : TabW C w
def X6Z (P : Program) (g : FuncId) : Bool :=
 match P.funcs[g]? with
 | some fn => !(fn.name == "runtime.NumGoroutine") && fn.body.isSome
 | none => false
theorem X2t {P : Program} {g : FuncId} (h : X6Z P g = true) (args : Array Value) (w : World) : (callFunc g args).run P w = .ok (.enter g args) w := by
 unfold X6Z at h;split at h
 ·rename_i fn hf;simp only [Bool.and_eq_true, Bool.not_eq_true', Option.isSome_iff_exists] at h;obtain ⟨h1, c, hc⟩ := h;unfold callFunc;have h1' : ¬ fn.name = "runtime.NumGoroutine" := by simpa using h1
  simp [hf, h1', hc]
 cases h
def Does (P : Program) (g : FuncId) (vs : Array Value) (w : World) (post : Ending -> World -> Prop) : Prop :=
 (X6Z P g = true /\ Calls P g vs w post) \/ (∃ u w', (callFunc g vs).run P w = .ok (.value u) w' /\ post (.returned u) w')
theorem Does.mono {P : Program} {g : FuncId} {vs : Array Value} {w : World} {post post' : Ending -> World -> Prop} (h : Does P g vs w post) (hp : ∀ e w', post e w' -> post' e w') : Does P g vs w post' :=
 h.elim (fun h => .inl ⟨h.1, h.2.mono hp⟩) (fun ⟨u, w', h1, h2⟩ => .inr ⟨u, w', h1, hp _ _ h2⟩)
def PCall (C : Cx) (g : FuncId) (args : List AV) (Q : AOut -> Prop) : Prop :=
 ∀ (kn : Kn) (w : World) (vs : List Value), KnOK C kn w -> RelL kn m0 args vs ->
  Does C.P g vs.toArray w fun e w' => ∃ out kn', Q out /\ RelOut kn' m0 out e /\ KnOK C kn' w' /\ Below w.heap.size w w' /\ ∀ b, b < w.heap.size -> kn' b = kn b
def ACall (C : Cx) (g : FuncId) (args : List AV) (σ : Sto) (nx : Nat) (Q : AOut -> Sto -> Nat -> Prop) : Prop :=
 ∀ (B : Base) (kn : Kn) (m : Mp) (w : World) (vs : List Value), Inv C B kn m σ nx w -> RelL kn m args vs ->
  Does C.P g vs.toArray w fun e w' => ∃ out kn' m' σ' nx', Q out σ' nx' /\ RelOut kn' m' out e /\ KnLe kn kn' /\ Inv C B kn' m' σ' nx' w' /\ Keep m σ nx m' σ' nx'
theorem PCall.mono {C : Cx} {g : FuncId} {args : List AV} {Q Q' : AOut -> Prop} (h : PCall C g args Q) (hq : ∀ o, Q o -> Q' o) : PCall C g args Q' :=
 fun kn w vs h1 h2 => (h kn w vs h1 h2).mono fun e w' ⟨out, kn', a, b⟩ => ⟨out, kn', hq _ a, b⟩
theorem ACall.mono {C : Cx} {g : FuncId} {args : List AV} {σ : Sto} {nx : Nat} {Q Q' : AOut -> Sto -> Nat -> Prop} (h : ACall C g args σ nx Q) (hq : ∀ o σ' nx', Q o σ' nx' -> Q' o σ' nx') : ACall C g args σ nx Q' :=
 fun B kn m w vs h1 h2 => (h B kn m w vs h1 h2).mono fun e w' ⟨out, kn', m', σ', nx', a, b⟩ => ⟨out, kn', m', σ', nx', hq _ _ _ a, b⟩
theorem Inv.knOK {C : Cx} {B : Base} {kn : Kn} {m : Mp} {σ : Sto} {nx : Nat} {w : World} (h : Inv C B kn m σ nx w) : KnOK C kn w := ⟨h.knok, fun g => (h.glob g).rf (C.rf g) m0, h.tabW⟩
theorem RelL.rf {kn : Kn} {m : Mp} {args : List AV} {vs : List Value} (h : RelL kn m args vs) (hf : RFL args) (m' : Mp) : RelL kn m' args vs := ⟨h.1, fun i x v a b => (h.2 i x v a b).rf (hf.get a) m'⟩
theorem RelOut.mono {kn kn' : Kn} {m m' : Mp} {o : AOut} {e : Ending} (h : RelOut kn m o e) (hk : KnLe kn kn') (hm : MpLe m m') : RelOut kn' m' o e := by
 cases o <;> cases e <;> simp only [RelOut] at h ⊢
 ·exact h.mono hk hm
 obtain ⟨u, a, b⟩ := h; exact ⟨u, a, b.mono hk hm⟩
theorem PCall.acall {C : Cx} {g : FuncId} {args : List AV} {Q : AOut -> Prop} (h : PCall C g args Q) (hf : RFL args) (σ : Sto) (nx : Nat) : ACall C g args σ nx (fun o σ' nx' => Q o /\ σ' = σ /\ nx' = nx) := by
 refine fun B kn m w vs hI hr => (h kn w vs hI.knOK (hr.rf hf m0)).mono ?_
 rintro e w' ⟨out, kn', hq, ho, hk, hb, hkn⟩;obtain ⟨hle, hI'⟩ := hI.grow (kn' := kn') hb.size hb.os hb.tape hb.output hb.block hkn (fun b o v _ e => hk.ok b o v e);exact ⟨out, kn', m, σ, nx, ⟨hq, rfl, rfl⟩, ho.mono (KnLe.refl _) (fun n l e => by cases e), hle, hI', Keep.refl _ _ _⟩
structure Hints where
 mb : List Nat := []
 ac : List Nat := []
 pl : List Nat := []
 cl : List Nat := []
 ty : List (Nat × E) := []
def celO : AObj -> AObj
 | .cells T cs => .cells T cs
 | _ => .none
def celS (σ : Sto) : Sto := σ.map fun q => (q.1, celO q.2)
inductive Kind where
 | fn | eff | call | panic | bad
 deriving DecidableEq
def X1v (l : List Nat) : Option Nat -> Bool
 | some d => l.contains d
 | none => false
def tyIn : List (Nat × E) -> Nat -> Option E
 | [], _ => none
 | (d', e) :: l, d => if d' = d then some e else tyIn l d
def tyOf (l : List (Nat × E)) : Option Nat -> Option E
 | some d => tyIn l d
 | none => none
def celP (H : Hints) (d : Option Nat) (σ : Sto) : Sto := if X1v H.cl d = true then celS σ else []
def kindOf (H : Hints) (o : Oper) : Kind :=
 match o.op with
 | .call c => match c.callee with
  | .builtin .append => .eff
  | .builtin .clear => .eff
  | .builtin _ => .fn
  | .value _ => .call
  | .invoke _ _ => .bad
 | .load _ _ => if X1v H.mb o.dst then .eff else .fn
 | .box _ _ => if X1v H.mb o.dst then .eff else .fn
 | .convert _ _ _ => if X1v H.mb o.dst then .eff else .fn
 | .buildSlice _ _ _ => if X1v H.mb o.dst then .eff else .fn
 | .slice _ _ _ _ _ => if X1v H.mb o.dst then .eff else .fn
 | .store _ _ _ => .eff
 | .makeSlice _ _ _ => .eff
 | .range _ _ => .eff
 | .next _ _ => .eff
 | .panic _ => .panic
 | _ => .fn
def X2Q (C : Cx) (c : Call) (env : Nat -> AV) : Option (FuncId × List AV) :=
 match c.callee with
 | .value f => match opv C env f with
  | .fn (.func g) first caps => some (g, first ++ (c.args.toList.map (opv C env) ++ caps))
  | _ => none
 | _ => none
def CallP (C : Cx) (own tot : Bool) (g : FuncId) (args : List AV) (σ : Sto) (nx : Nat) (K KP : AV -> Sto -> Nat -> Prop) : Prop :=
 ∃ Q : AOut -> Sto -> Nat -> Prop, ACall C g args σ nx Q /\ (∀ v σ' nx', Q (.ret v) σ' nx' -> K v σ' nx') /\ (∀ v σ' nx', Q (.pan v) σ' nx' -> KP v σ' nx') /\
  (tot = true \/ ∃ v σ' nx', Q (.ret v) σ' nx') /\ (own = true \/ (RFL args /\ ∃ Q', PCall C g args Q' /\ ∀ o σ' nx', Q o σ' nx' ↔ (Q' o /\ σ' = σ /\ nx' = nx)))
def aop (C : Cx) (H : Hints) (tot : Bool) (al : Nat × Nat) (o : Oper) (K KP : AV -> Sto -> Nat -> Prop) (s : St) : Prop :=
 match kindOf H o with
 | .fn => ∃ v, fop C al o.op s.env (if X1v H.pl o.dst = true then celP H o.dst s.σ else s.σ) = some v /\ K v s.σ s.nx
 | .eff => ∃ v σ' nx', eop C (tyOf H.ty o.dst) o.op s.env s.σ s.nx = some (v, σ', nx') /\ K v σ' nx'
 | .call => match o.op with
  | .call c => ∃ g args, X2Q C c s.env = some (g, args) /\ CallP C (X1v H.ac o.dst) tot g args s.σ s.nx K KP
  | _ => False
 | .panic => match o.op with
  | .panic x => ∃ t v, opv C s.env x = .iface t v /\ KP (.iface t v) s.σ s.nx
  | _ => False
 | .bad => False
theorem Z0f {P : Program} {T : TypeId} {a x : AV} (h : X1K P T [] a = some x) (σ : Sto) : X1K P T σ a = some x := by
 cases a <;> simp_all [X1K, sget]
theorem Z4c {C : Cx} {al : Nat × Nat} {op : Op} {env : Nat -> AV} {x : AV} (h : fop C al op env [] = some x) (σ : Sto) : fop C al op env σ = some x := by
 cases op <;> first | exact h | exact Z0f h σ
theorem X3r {σ : Sto} {p nm : Nat} {o : AObj} (h : sget (celS σ) p nm = some o) : (∃ T cs, o = .cells T cs /\ sget σ p nm = some o) \/ o = .none := by
 unfold sget celS at h;rw [List.getElem?_map] at h;cases hx : σ[p]? with
 | none => rw [hx] at h; cases h
 | some q =>
  obtain ⟨n, ob⟩ := q;rw [hx] at h;simp only [Option.map_some] at h;split at h
  ·rename_i hn;cases h;cases ob with
   | cells T cs => exact .inl ⟨T, cs, rfl, by unfold sget; rw [hx]; simp only; rw [if_pos hn]; rfl⟩
   | _ => exact .inr rfl
  cases h
theorem Y7E {P : Program} {T : TypeId} {σ : Sto} {a x : AV} (h : X1K P T (celS σ) a = some x) : X1K P T σ a = some x := by
 cases a with
 | ref p n off =>
  simp only [X1K] at h ⊢;cases hs : sget (celS σ) p n with
  | none => simp [hs] at h
  | some o =>
   rw [hs] at h;rcases X3r hs with ⟨T', cs, rfl, h2⟩ | rfl
   ·rw [h2]; exact h
   cases h
 | eref p n i off =>
  simp only [X1K] at h;cases hs : sget (celS σ) p n with
  | none => simp [hs] at h
  | some o =>
   rw [hs] at h;rcases X3r hs with ⟨T', cs, rfl, h2⟩ | rfl <;> cases h
 | rptr cs => exact h
 | _ => cases h
theorem Z1L {C : Cx} {H : Hints} {d : Option Nat} {al : Nat × Nat} {op : Op} {env : Nat -> AV} {σ : Sto} {x : AV} (h : fop C al op env (celP H d σ) = some x) : fop C al op env σ = some x := by
 unfold celP at h;split at h
 ·cases op <;> first | exact h | exact Y7E h
 exact Z4c h σ
inductive AExit where
 | normal
 | exit (id : Nat)
 | goto (l : Nat)
 | ret
 | pan (v : AV)
def X0x (kn : Kn) (m : Mp) : AExit -> Exit -> Prop
 | .normal, .normal => True
 | .exit i, .exit j => i = j
 | .goto i, .goto j => i = j
 | .ret, .ret => True
 | .pan v, .panic chain => ∃ u, chain = [{ v := u, recovered := false }] /\ Rel kn m v u
 | _, _ => False
structure RS (C : Cx) (B : Base) (n : Nat) (ds : List Deferred) (kn₀ : Kn) (m₀ : Mp) (σ₀ : Sto) (nx₀ : Nat) (kn : Kn) (m : Mp) (s : St) (act : Act) (w : World) : Prop where
 env : RelEnv kn m s.env n act
 defs : act.defers = ds
 inv : Inv C B kn m s.σ s.nx w
 knle : KnLe kn₀ kn
 keep : Keep m₀ σ₀ nx₀ m s.σ s.nx
section
variable {C : Cx} {B : Base} {n : Nat} {ds : List Deferred} {kn₀ : Kn} {m₀ : Mp} {σ₀ : Sto} {nx₀ : Nat}
theorem Y9j {H : Hints} {tot : Bool} {al : Nat × Nat} {o : Oper} {K KP : AV -> Sto -> Nat -> Prop} {s : St} {kn : Kn} {m : Mp} {act : Act} {w : World} (hlt₀ : ∀ (p nm : Nat) (ob : AObj), σ₀[p]? = some (nm, ob) -> nm < nx₀)
  (hR : RS C B n ds kn₀ m₀ σ₀ nx₀ kn m s act w) (hna : X0n o.op = false) (hd : ∀ d, o.dst = some d -> d < n) (h : aop C H tot al o K KP s)
  {next : Act -> World -> Prop} {Q : Exit -> Act -> World -> Prop}
  (hnext : ∀ v kn' m' σ' nx' act' w', K v σ' nx' -> RS C B n ds kn₀ m₀ σ₀ nx₀ kn' m' ⟨updo s.env o.dst v, σ', nx'⟩ act' w' -> Keep m s.σ s.nx m' σ' nx' -> next act' w')
  (hpan : ∀ v u kn' m' σ' nx' act' w', KP v σ' nx' -> Rel kn' m' v u -> RS C B n ds kn₀ m₀ σ₀ nx₀ kn' m' ⟨s.env, σ', nx'⟩ act' w' -> Q (.panic [{ v := u, recovered := false }]) act' w') :
  o.wp C.P act w next Q := by
 have mkRS : ∀ {v : AV} {u : Value} {kn' : Kn} {m' : Mp} {σ' : Sto} {nx' : Nat} {w' : World}, Rel kn' m' v u -> KnLe kn kn' -> Inv C B kn' m' σ' nx' w' -> Keep m s.σ s.nx m' σ' nx' ->
   RS C B n ds kn₀ m₀ σ₀ nx₀ kn' m' ⟨updo s.env o.dst v, σ', nx'⟩ (act.put o.dst u) w' := by
  intro v u kn' m' σ' nx' w' hv hk hI hkp;refine ⟨(hR.env.mono hk (hkp.mple hR.inv)).put o.dst hd hv, ?_, hI, hR.knle.trans hk, hR.keep.trans hkp hlt₀⟩;cases hdst : o.dst <;> simp [Act.put, hR.defs]
 unfold aop at h;unfold Oper.wp;split at h
 ·obtain ⟨v, hv, hK⟩ := h;have hv' : fop C al o.op s.env s.σ = some v := by
   split at hv
   ·exact Z1L hv
   exact hv
  obtain ⟨u, kn', w', h1, h2, h3, h4⟩ := Y9F hR.inv hR.env hna hv';rw [h1];exact hnext v kn' m _ _ _ _ hK (mkRS h3 h2 h4 (Keep.refl _ _ _)) (Keep.refl _ _ _)
 ·obtain ⟨v, σ', nx', hv, hK⟩ := h;obtain ⟨nxt, u, kn', m', w', h1, h2, hkk, h3, h4, h5⟩ := Y9C hR.inv hR.env hv;rw [h1];rcases h2 with rfl | ⟨rfl, rfl⟩
  ·exact hnext v kn' m' _ _ _ _ hK (mkRS h3 hkk h4 h5) h5
  exact hnext v kn' m' _ _ _ _ hK (mkRS h3 hkk h4 h5) h5
 ·split at h
  ·rename_i c hop;obtain ⟨g, args, hc, Qc, hAC, hk1, hk2, _, _⟩ := h;unfold X2Q at hc;split at hc
   ·rename_i f hcal;split at hc
    ·rename_i g' first caps hf
     cases hc;have hfr := X0o hR.inv hR.env f;rw [hf] at hfr;generalize hfv : act.eval f = fv at hfr;cases hfr with
     | fn _ _ _ first' caps' hl1 hl2 hr1 hr2 =>
      have hargs := X3E hR.inv hR.env c.args;have hrel : RelL kn m (first ++ (c.args.toList.map (opv C s.env) ++ caps)) (first'.toList ++ ((c.args.map act.eval).toList ++ caps'.toList)) := by
       refine RelL.append ⟨by simpa using hl1, fun i x v a b => hr1 i x v a (by simpa using b)⟩ (RelL.append ⟨by simp, fun i x v a b => hargs.2 i x v a (by rw [<- Array.getElem?_toList]; exact b)⟩ ⟨by simpa using hl2, fun i x v a b => hr2 i x v a (by simpa using b)⟩)
      have hcall := hAC B kn m w _ hR.inv hrel;have harr : (first'.toList ++ ((c.args.map act.eval).toList ++ caps'.toList)).toArray = first' ++ c.args.map act.eval ++ caps' := by
       apply Array.ext';simp
      rw [harr] at hcall;have hexec : execOp act.eval o = callFunc g (first' ++ c.args.map act.eval ++ caps') := by
       obtain ⟨dst, op, type, pos, after, guard⟩ := o;simp only at hop;subst hop;simp [execOp, resolve, hcal, hfv, Deferred.ofValue, invoke]
      have fin : ∀ e w', (∃ out kn' m' σ' nx', Qc out σ' nx' /\ RelOut kn' m' out e /\ KnLe kn kn' /\ Inv C B kn' m' σ' nx' w' /\ Keep m s.σ s.nx m' σ' nx') -> (match e with
        | .returned u => next (act.put o.dst u) w'
        | .panicked ch => Q (.panic ch) act w'
        | .outgrown => False) := by
       rintro e w' ⟨out, kn', m', σ', nx', hq, ho, hkl, hI', hkp⟩;cases out with
       | ret v =>
        cases e with
        | returned u => exact hnext v kn' m' _ _ _ _ (hk1 v σ' nx' hq) (mkRS ho hkl hI' hkp) hkp
        | panicked ch => exact ho.elim
        | outgrown => exact ho.elim
       | pan v =>
        cases e with
        | returned u => exact ho.elim
        | panicked ch =>
         obtain ⟨u, rfl, hu⟩ := ho;exact hpan v u kn' m' σ' nx' act w' (hk2 v σ' nx' hq) hu ⟨hR.env.mono hkl (hkp.mple hR.inv), hR.defs, hI', hR.knle.trans hkl, hR.keep.trans hkp hlt₀⟩
        | outgrown => exact ho.elim
      rcases hcall with ⟨hbo, hcall⟩ | ⟨u, w', hval, hpost⟩
      ·have hrun : (execOp act.eval o).run C.P w = .ok (.enter g (first' ++ c.args.map act.eval ++ caps')) w := by rw [hexec]; exact X2t hbo _ w
       rw [hrun];simp only [Oper.upon];refine hcall.mono fun e w' he => ?_
       have := fin e w' he;cases e with
       | returned u => exact this
       | panicked ch => exact this
       | outgrown => exact this.elim
      rw [hexec, hval];simp only [Oper.upon];exact fin _ _ hpost
    cases hc
   cases hc
  exact h.elim
 ·split at h
  ·rename_i x hop;obtain ⟨t, v, hx, hKP⟩ := h;have hxr := X0o hR.inv hR.env x;rw [hx] at hxr;generalize hxv : act.eval x = xv at hxr;cases hxr with
   | iface _ _ v' hr =>
    have hrun : (execOp act.eval o).run C.P w = .halt (.panic (.iface t v')) w := by
     obtain ⟨dst, op, type, pos, after, guard⟩ := o;simp only at hop;subst hop;simp [execOp, hxv, Instr.panic]
    rw [hrun];exact hpan _ _ kn m _ _ act w hKP (.iface t v v' hr) ⟨hR.env, hR.defs, hR.inv, hR.knle, hR.keep⟩
  exact h.elim
 exact h.elim
end
end Go.Ab
namespace Go.Ab
open Go Go.RowKit
def X0A (P : Program) : List Oper -> Nat -> Option Sto
 | [], _ => some []
 | o :: rest, nx => match o.op with
  | .alloc T => match zeroCells P T, X0A P rest (nx + 1) with
   | some z, some l => some ((nx, .cells T z) :: l)
   | _, _ => none
  | _ => X0A P rest nx
def rk (l : List Oper) (i : Nat) : Nat := ((l.take i).filter fun o => X0n o.op).length
theorem Y5j {l : List Oper} {i : Nat} {o : Oper} (h : l[i]? = some o) : rk l (i + 1) = rk l i + (if X0n o.op = true then 1 else 0) := by
 have hi := (List.getElem?_eq_some_iff.1 h);obtain ⟨hl, he⟩ := hi;unfold rk;rw [List.take_succ_eq_append_getElem hl, List.filter_append, List.length_append, he]
 by_cases ha : X0n o.op = true <;> simp [List.filter, ha]
theorem Z0i (l : List Oper) {i j : Nat} (h : i <= j) : rk l i <= rk l j := by
 unfold rk;have : l.take i = (l.take j).take i := by rw [List.take_take]; congr 1; omega
 rw [this];exact ((List.take_sublist i (l.take j)).filter _).length_le
theorem Z6f {l : List Oper} {i j : Nat} {o o' : Oper} (hi : l[i]? = some o) (hj : l[j]? = some o') (ho : X0n o.op = true) (ho' : X0n o'.op = true) (hne : i ≠ j) : rk l i ≠ rk l j := by
 rcases Nat.lt_or_gt_of_ne hne with h | h
 ·have h1 := Y5j hi; rw [if_pos ho] at h1; have := Z0i l (show i + 1 <= j from h); omega
 have h1 := Y5j hj; rw [if_pos ho'] at h1; have := Z0i l (show j + 1 <= i from h); omega
theorem X1p {P : Program} : ∀ {l : List Oper} {nx : Nat} {objs : Sto} (h : X0A P l nx = some objs) {j : Nat} {o : Oper} {T : TypeId}, l[j]? = some o -> o.op = .alloc T -> ∃ z, zeroCells P T = some z /\ objs[rk l j]? = some (nx + rk l j, .cells T z)
 | [], nx, objs, h, j, o, T, hj, ho => by simp at hj
 | o' :: rest, nx, objs, h, j, o, T, hj, ho => by
  unfold X0A at h;split at h
  ·rename_i T' ho';split at h
   ·rename_i z l hz hl;cases h;cases j with
    | zero =>
     simp at hj; subst hj;rw [ho] at ho'; cases ho';exact ⟨z, hz, by simp [rk]⟩
    | succ j =>
     obtain ⟨z', h1, h2⟩ := X1p hl (by simpa using hj) ho;refine ⟨z', h1, ?_⟩;have : rk (o' :: rest) (j + 1) = rk rest j + 1 := by simp [rk, List.filter, ho', X0n]
     rw [this];simpa [Nat.add_assoc, Nat.add_comm 1] using h2
   cases h
  rename_i hno;cases j with
  | zero => simp at hj; subst hj; exact absurd ho (hno T)
  | succ j =>
   obtain ⟨z', h1, h2⟩ := X1p h (by simpa using hj) ho;refine ⟨z', h1, ?_⟩;have hna : X0n o'.op = false := by
    cases hop : o'.op <;> simp [X0n]
    exact absurd hop (hno _)
   have : rk (o' :: rest) (j + 1) = rk rest j := by simp [rk, List.filter, hna]
   rw [this]; exact h2
theorem X2P {P : Program} : ∀ {l : List Oper} {nx : Nat} {objs : Sto} (h : X0A P l nx = some objs) {k nm : Nat} {ob : AObj}, objs[k]? = some (nm, ob) -> nm = nx + k /\ ∃ T z, ob = .cells T z /\ zeroCells P T = some z
 | [], nx, objs, h, k, nm, ob, hk => by simp [X0A] at h; subst h; simp at hk
 | o' :: rest, nx, objs, h, k, nm, ob, hk => by
  unfold X0A at h;split at h
  ·rename_i T' ho';split at h
   ·rename_i z l hz hl;cases h;cases k with
    | zero => simp at hk; obtain ⟨rfl, rfl⟩ := hk; exact ⟨rfl, T', z, rfl, hz⟩
    | succ k =>
     obtain ⟨h1, h2⟩ := X2P hl (by simpa using hk);exact ⟨by omega, h2⟩
   cases h
  exact X2P h hk
section
variable {C : Cx} {B : Base} {kn : Kn} {m : Mp} {σ : Sto} {nx : Nat} {w : World}
theorem Inv.ahead (hI : Inv C B kn m σ nx w) {l : List Oper} {objs : Sto} (h : X0A C.P l nx = some objs) : Inv C B kn m (σ ++ objs) (nx + objs.length) w /\ Keep m σ nx m (σ ++ objs) (nx + objs.length) := by
 have hget : ∀ (p nm : Nat) (ob : AObj), (σ ++ objs)[p]? = some (nm, ob) -> (p < σ.length /\ σ[p]? = some (nm, ob)) \/ (σ.length <= p /\ nm = nx + (p - σ.length) /\ p - σ.length < objs.length /\ ∃ T z, ob = .cells T z /\ zeroCells C.P T = some z) := fun p nm ob e => by
  rcases Nat.lt_or_ge p σ.length with hp | hp
  ·rw [List.getElem?_append_left hp] at e; exact .inl ⟨hp, e⟩
  rw [List.getElem?_append_right hp] at e;obtain ⟨h1, h2⟩ := X2P h e;exact .inr ⟨hp, h1, (List.getElem?_eq_some_iff.1 e).1, h2⟩
 refine ⟨⟨hI.knok, hI.size, hI.os, hI.tape, hI.output, hI.old, fun p nm ob e => ?_, fun p nm ob loc e hl hm hnl => ?_, fun p nm ob loc p' nm' ob' loc' e e' hl hl' hm hm' hn1 hn2 hne => ?_, fun n hn => hI.dom n (by omega), fun p nm ob e => ?_, fun p p' nm ob ob' e e' => ?_, fun p p' nm nm' ob ob' e e' s1 s2 => ?_, hI.glob, hI.tab⟩,
  ⟨by omega, fun _ _ => rfl, fun p nm ob e _ => by rw [List.getElem?_append_left (List.getElem?_eq_some_iff.1 e).1]; exact e⟩⟩
 ·rcases hget p nm ob e with ⟨_, e'⟩ | ⟨_, rfl, _, T, z, rfl, hz⟩
  ·exact hI.obj p nm ob e'
  simp only [ObjRel, hI.dom _ (Nat.le_add_right nx _)]; exact hz
 ·rcases hget p nm ob e with ⟨_, e'⟩ | ⟨_, rfl, _, _⟩
  ·exact hI.own p nm ob loc e' hl hm hnl
  rw [hI.dom _ (Nat.le_add_right nx _)] at hm; cases hm
 ·rcases hget p nm ob e with ⟨_, e1⟩ | ⟨_, rfl, _, _⟩
  ·rcases hget p' nm' ob' e' with ⟨_, e2⟩ | ⟨_, rfl, _, _⟩
   ·exact hI.dist p nm ob loc p' nm' ob' loc' e1 e2 hl hl' hm hm' hn1 hn2 hne
   rw [hI.dom _ (Nat.le_add_right nx _)] at hm'; cases hm'
  rw [hI.dom _ (Nat.le_add_right nx _)] at hm; cases hm
 ·rcases hget p nm ob e with ⟨_, e'⟩ | ⟨_, rfl, hlt, _⟩
  ·have := hI.lt p nm ob e'; omega
  omega
 ·rcases hget p nm ob e with ⟨_, e1⟩ | ⟨hp, h1, _, _⟩
  ·rcases hget p' nm ob' e' with ⟨_, e2⟩ | ⟨_, h2, _, _⟩
   ·exact hI.uniq p p' nm ob ob' e1 e2
   have := hI.lt p nm ob e1; omega
  rcases hget p' nm ob' e' with ⟨_, e2⟩ | ⟨hp', h2, _, _⟩
  ·have := hI.lt p' nm ob' e2; omega
  omega
 rcases hget p nm ob e with ⟨_, e1⟩ | ⟨_, _, _, T, z, rfl, _⟩
 ·rcases hget p' nm' ob' e' with ⟨_, e2⟩ | ⟨_, _, _, T, z, rfl, _⟩
  ·exact hI.stk1 _ _ _ _ _ _ e1 e2 s1 s2
  cases s2
 cases s1
theorem Inv.lay (hI : Inv C B kn m σ nx w) {p nm T : Nat} {z : List AV} (hp : σ[p]? = some (nm, .cells T z)) (hm : m nm = none) {zv : Array Value} (hz : RelC kn m z zv.toList) :
  Inv C B kn (mput m nm ⟨w.heap.size, 0, 0, 0, 0, false⟩) σ nx (w.alloc (.cells zv T)) := by
 have hmle : MpLe m (mput m nm ⟨w.heap.size, 0, 0, 0, 0, false⟩) := fun n l e => by
  rw [X0p]
  ·exact e
  intro en; subst en; rw [hm] at e; cases e
 obtain ⟨_, hI0⟩ := hI.grow (kn' := kn) (w' := w.alloc (.cells zv T)) (by simp) rfl rfl rfl (fun b hb => Below.heap_alloc _ _ _ hb) (fun _ _ => rfl) (fun b o v hb e => absurd (hI.kn_lt e) (by omega));have hlt := hI.lt p nm _ hp;refine ⟨hI0.knok, hI0.size, hI0.os, hI0.tape, hI0.output, hI0.old, fun p' nm' ob' e => ?_, fun p' nm' ob' l e hl hm' hnl => ?_, fun p1 n1 o1 l1 p2 n2 o2 l2 e1 e2 v1 v2 m1 m2 hn1 hn2 hne => ?_, fun n hn => ?_, hI.lt, hI.uniq, hI.stk1, fun g => (hI.glob g).mono (KnLe.refl _) hmle, hI.tab⟩
 ·by_cases hn : nm' = nm
  ·subst hn;have := hI.uniq p p' nm' _ _ hp e;subst this;rw [hp] at e; cases e;simp only [ObjRel, X0c];exact ⟨trivial, trivial, zv, heap_alloc_new w _, hz.mono (KnLe.refl _) hmle⟩
  have hm'' : mput m nm ⟨w.heap.size, 0, 0, 0, 0, false⟩ nm' = m nm' := X0p _ _ _ _ hn;have h1 := hI0.obj p' nm' ob' e;exact h1.mono_m hm'' hmle
 ·by_cases hn : nm' = nm
  ·subst hn;rw [X0c] at hm'; cases hm';refine ⟨by simp, .inl hI.size, fun _ o => ?_⟩;cases hk : kn w.heap.size o with
   | none => rfl
   | some v => have := hI.kn_lt hk; omega
  rw [X0p _ _ _ _ hn] at hm'; exact hI0.own p' nm' ob' l e hl hm' hnl
 ·by_cases h1 : n1 = nm
  ·subst h1;rw [X0c] at m1; cases m1
   by_cases h2 : n2 = n1
   ·subst h2; exact absurd (hI.uniq _ _ _ _ _ e1 e2) hne
   rw [X0p _ _ _ _ h2] at m2;have := (hI.own p2 n2 o2 l2 e2 v2 m2 hn2).1;exact fun h => by simp at h; omega
  rw [X0p _ _ _ _ h1] at m1
  by_cases h2 : n2 = nm
  ·subst h2;rw [X0c] at m2; cases m2;have := (hI.own p1 n1 o1 l1 e1 v1 m1 hn1).1;exact fun h => by simp at h; omega
  rw [X0p _ _ _ _ h2] at m2;exact hI.dist p1 n1 o1 l1 p2 n2 o2 l2 e1 e2 v1 v2 m1 m2 hn1 hn2 hne
 rw [X0p _ _ _ _ (by omega)]; exact hI.dom n hn
end
def X02 (ops : Array Oper) (env : Nat -> AV) (o : Oper) : Option Bool :=
 match o.guard with
 | none => some true
 | some (j, want) => match (ops[j]?).bind (·.dst) with
  | some t => match env t with
   | .bool b => some (b == want)
   | .base (.tuple _) => some false
   | _ => none
  | none => some false
theorem Y31 {kn : Kn} {m : Mp} {env : Nat -> AV} {n : Nat} {act : Act} (hE : RelEnv kn m env n act) {ops : Array Oper} {o : Oper} {b : Bool} (h : X02 ops env o = some b) : Region.wanted o (yielded ops act.tmps) = b := by
 unfold X02 at h;unfold Region.wanted;split at h
 ·rename_i hg; rw [hg]; cases h; rfl
 rename_i j want hg;rw [hg];simp only;unfold yielded;split at h
 ·rename_i t ht;rw [ht];simp only [Option.bind_some];have hr := hE.tmp t;split at h
  ·rename_i q hq;cases h;rw [hq] at hr;generalize hv : act.tmps.getD t undef = v at hr;cases hr;have : act.tmps[t]? = some (.bool q) := by
    simp only [Array.getD_eq_getD_getElem?] at hv;cases ha : act.tmps[t]? with
    | none => simp [ha, undef] at hv
    | some u => simp [ha] at hv; rw [hv]
   simp [this]
  ·rename_i vs hq;cases h;rw [hq] at hr;generalize hv : act.tmps.getD t undef = v at hr;cases hr;simp only [Array.getD_eq_getD_getElem?] at hv;cases ha : act.tmps[t]? with
   | none => simp
   | some u => simp [ha] at hv; simp [hv]
  cases h
 rename_i ht;rw [ht];cases h;rfl
def X33 (C : Cx) (H : Hints) (tt : Nat -> Bool) (ops : Array Oper) (p₀ n₀ : Nat) (i : Nat) (K : St -> Prop) (KP : AV -> Sto -> Nat -> Prop) (s : St) : Prop :=
 match ops[i]? with
 | none => K s
 | some o => ∃ t, X02 ops s.env o = some t /\ (t = true -> aop C H (tt i) (p₀ + rk ops.toList i, n₀ + rk ops.toList i) o (fun v σ nx => K ⟨updo s.env o.dst v, σ, nx⟩) KP s) /\ (t = false -> K ⟨updo s.env o.dst .undef, s.σ, s.nx⟩)
structure RR (C : Cx) (B : Base) (n : Nat) (ds : List Deferred) (kn₀ : Kn) (m₀ : Mp) (σ₀ : Sto) (nx₀ : Nat) (ops : Array Oper) (p₀ n₀ : Nat) (listed : Nat -> Bool) (kn : Kn) (m : Mp) (s : St) (act : Act) (w : World) : Prop where
 rs : RS C B n ds kn₀ m₀ σ₀ nx₀ kn m s act w
 pend : ∀ j o T, ops[j]? = some o -> o.op = .alloc T -> listed j = false -> m (n₀ + rk ops.toList j) = none /\ n₀ + rk ops.toList j < s.nx /\ nx₀ <= n₀ + rk ops.toList j /\ ∃ z, zeroCells C.P T = some z /\ s.σ[p₀ + rk ops.toList j]? = some (n₀ + rk ops.toList j, .cells T z)
def lput (l : Nat -> Bool) (i : Nat) : Nat -> Bool := fun j => if j = i then true else l j
section
variable {C : Cx} {B : Base} {n : Nat} {ds : List Deferred} {kn₀ : Kn} {m₀ : Mp} {σ₀ : Sto} {nx₀ : Nat} {ops : Array Oper} {p₀ n₀ : Nat}
theorem X8l {H : Hints} {tt : Nat -> Bool} {i : Nat} {K : St -> Prop} {KP : AV -> Sto -> Nat -> Prop} {s : St} {listed : Nat -> Bool} {kn : Kn} {m : Mp} {act : Act} {w : World} (hlt₀ : ∀ (p nm : Nat) (ob : AObj), σ₀[p]? = some (nm, ob) -> nm < nx₀)
  (hd : ∀ (i : Nat) (o : Oper) (d : Nat), ops[i]? = some o -> o.dst = some d -> d < n) (hR : RR C B n ds kn₀ m₀ σ₀ nx₀ ops p₀ n₀ listed kn m s act w) (hun : listed i = false) (h : X33 C H tt ops p₀ n₀ i K KP s)
  {next : Act -> World -> Prop} {Q : Exit -> Act -> World -> Prop}
  (hnext : ∀ s' kn' m' act' w', K s' -> RR C B n ds kn₀ m₀ σ₀ nx₀ ops p₀ n₀ (lput listed i) kn' m' s' act' w' -> next act' w')
  (hpan : ∀ v u env' kn' m' σ' nx' act' w', KP v σ' nx' -> Rel kn' m' v u -> RS C B n ds kn₀ m₀ σ₀ nx₀ kn' m' ⟨env', σ', nx'⟩ act' w' -> Q (.panic [{ v := u, recovered := false }]) act' w') :
  wpOp C.P ops Q i next act w := by
 unfold X33 at h;unfold wpOp;have pend' : ∀ {s' : St} {m' : Mp}, Keep m s.σ s.nx m' s'.σ s'.nx -> ∀ j o T, ops[j]? = some o -> o.op = .alloc T -> lput listed i j = false -> m' (n₀ + rk ops.toList j) = none /\ n₀ + rk ops.toList j < s'.nx /\ nx₀ <= n₀ + rk ops.toList j /\ ∃ z, zeroCells C.P T = some z /\ s'.σ[p₀ + rk ops.toList j]? = some (n₀ + rk ops.toList j, .cells T z) := by
  intro s' m' hk j o T hj ho hl;have hl' : listed j = false := by
   unfold lput at hl;split at hl
   ·cases hl
   exact hl
  obtain ⟨h1, h2, h3, z, h4, h5⟩ := hR.pend j o T hj ho hl';exact ⟨by rw [hk.ag _ h2]; exact h1, Nat.lt_of_lt_of_le h2 hk.le, h3, z, h4, hk.pend _ _ _ h5 h1⟩
 split at h
 ·rename_i ho;rw [ho];exact hnext s kn m act w h ⟨hR.rs, pend' (Keep.refl _ _ _)⟩
 rename_i o ho;obtain ⟨t, ht, h1, h2⟩ := h;have hw := Y31 hR.rs.env ht;rw [ho];simp only;rw [hw];cases t with
 | false =>
  simp only [Bool.false_eq_true, if_false];refine hnext _ kn m _ w (h2 rfl) ⟨⟨hR.rs.env.put o.dst (fun d => hd i o d ho) (.base _), ?_, hR.rs.inv, hR.rs.knle, hR.rs.keep⟩, pend' (Keep.refl _ _ _)⟩;cases hdst : o.dst <;> simp [Act.put, hR.rs.defs]
 | true =>
  simp only [if_true];refine .inl ?_
  by_cases ha : X0n o.op = true
  ·obtain ⟨T, hT⟩ : ∃ T, o.op = .alloc T := by
    cases hop : o.op <;> simp [hop, X0n] at ha
    exact ⟨_, rfl⟩
   have h1' := h1 rfl;have hkind : kindOf H o = .fn := by unfold kindOf; rw [hT]
   unfold aop at h1';rw [hkind] at h1';obtain ⟨v, hv, hK⟩ := h1';obtain ⟨q1, q2, q3, z, q4, q5⟩ := hR.pend i o T ho hT hun;rw [hT] at hv;simp only [fop, q4, Option.some.injEq] at hv;subst hv;obtain ⟨ti, zv, hi, hzv, rfl, hzr⟩ := X2p q4 kn m;have hI' := hR.rs.inv.lay (T := T) q5 q1 hzr;have hmle : MpLe m (mput m (n₀ + rk ops.toList i) ⟨w.heap.size, 0, 0, 0, 0, false⟩) := fun n l e => by
    rw [X0p]
    ·exact e
    intro en; subst en; rw [q1] at e; cases e
   have hrun : (execOp act.eval o).run C.P w = .ok (.value (.pointer (some ⟨w.heap.size, 0, none⟩))) (w.alloc (.cells zv.cells T)) := by
    obtain ⟨dst, op, type, pos, after, guard⟩ := o;simp only at hT;subst hT;simp only [execOp, Instr.alloc, zeroValue, Sem.run_bind, X1S hi, Result.andThen_ok, hzv, Sem.run_pure];rfl
   unfold Oper.wp;rw [hrun];refine hnext _ kn (mput m (n₀ + rk ops.toList i) ⟨w.heap.size, 0, 0, 0, 0, false⟩) _ _ hK ⟨⟨(hR.rs.env.mono (KnLe.refl _) hmle).put o.dst (fun d => hd i o d ho) (.ref _ _ _ _ (X0c _ _ _)), ?_, hI', hR.rs.knle, ?_⟩, ?_⟩
   ·cases hdst : o.dst <;> simp [Act.put, hR.rs.defs]
   ·exact ⟨hR.rs.keep.le, fun k hk => by rw [X0p _ _ _ _ (by omega)]; exact hR.rs.keep.ag k hk, hR.rs.keep.pend⟩
   intro j o' T' hj ho' hl;have hji : j ≠ i /\ listed j = false := by
    unfold lput at hl;split at hl
    ·cases hl
    rename_i hne; exact ⟨hne, hl⟩
   obtain ⟨r1, r2, r3, r4⟩ := hR.pend j o' T' hj ho' hji.2;have hrk := Z6f (l := ops.toList) (i := j) (j := i) (by simpa using hj) (by simpa using ho) (by simp [ho', X0n]) ha hji.1;exact ⟨by rw [X0p _ _ _ _ (by omega)]; exact r1, r2, r3, r4⟩
  have ha' : X0n o.op = false := by simpa using ha
  refine Y9j hlt₀ hR.rs ha' (fun d => hd i o d ho) (h1 rfl) (fun v kn' m' σ' nx' act' w' hK hRS hkp => ?_) (fun v u kn' m' σ' nx' act' w' hKP hv hRS => hpan v u _ kn' m' σ' nx' act' w' hKP hv hRS);exact hnext _ kn' m' act' w' hK ⟨hRS, pend' hkp⟩
def aseq (C : Cx) (H : Hints) (tt : Nat -> Bool) (ops : Array Oper) (p₀ n₀ : Nat) (K : St -> Prop) (KP : AV -> Sto -> Nat -> Prop) : List Nat -> St -> Prop
 | [], s => K s
 | i :: rest, s => X33 C H tt ops p₀ n₀ i (aseq C H tt ops p₀ n₀ K KP rest) KP s
theorem X92 {H : Hints} {tt : Nat -> Bool} {K : St -> Prop} {KP : AV -> Sto -> Nat -> Prop} (hlt₀ : ∀ (p nm : Nat) (ob : AObj), σ₀[p]? = some (nm, ob) -> nm < nx₀)
  (hd : ∀ (i : Nat) (o : Oper) (d : Nat), ops[i]? = some o -> o.dst = some d -> d < n) {Q : Exit -> Act -> World -> Prop}
  (hend : ∀ s' kn' m' act' w', K s' -> RS C B n ds kn₀ m₀ σ₀ nx₀ kn' m' s' act' w' -> Q .normal act' w')
  (hpan : ∀ v u env' kn' m' σ' nx' act' w', KP v σ' nx' -> Rel kn' m' v u -> RS C B n ds kn₀ m₀ σ₀ nx₀ kn' m' ⟨env', σ', nx'⟩ act' w' -> Q (.panic [{ v := u, recovered := false }]) act' w') :
  ∀ (l : List Nat) (listed : Nat -> Bool) (s : St) (kn : Kn) (m : Mp) (act : Act) (w : World), l.Nodup -> (∀ i ∈ l, listed i = false) -> RR C B n ds kn₀ m₀ σ₀ nx₀ ops p₀ n₀ listed kn m s act w -> aseq C H tt ops p₀ n₀ K KP l s ->
   wpOps C.P ops Q l act w
 | [], listed, s, kn, m, act, w, _, _, hR, h => by simpa [wpOps] using hend s kn m act w h hR.rs
 | i :: rest, listed, s, kn, m, act, w, hnd, hl, hR, h => by
  rw [wpOps_cons];refine X8l hlt₀ hd hR (hl i (by simp)) h (fun s' kn' m' act' w' hK hR' => ?_) hpan;refine X92 hlt₀ hd hend hpan rest (lput listed i) s' kn' m' act' w' (List.nodup_cons.1 hnd).2 (fun j hj => ?_) hR' hK;unfold lput;rw [if_neg (show ¬ j = i from fun e => (List.nodup_cons.1 hnd).1 (by rw [<- e]; exact hj))];exact hl j (by simp [hj])
end
end Go.Ab
namespace Go.Ab
open Go Go.RowKit
def aw (C : Cx) (n : Nat) (ds : List Deferred) (c : Code) (Q : AExit -> St -> Prop) (s : St) : Prop :=
 ∀ (B : Base) (kn : Kn) (m : Mp) (act : Act) (w : World), RelEnv kn m s.env n act -> act.defers = ds -> Inv C B kn m s.σ s.nx w ->
  c.wp C.P (fun e act' w' => ∃ ae s' kn' m', X0x kn' m' ae e /\ RS C B n ds kn m s.σ s.nx kn' m' s' act' w' /\ Q ae s') act w
section
variable {C : Cx} {n : Nat} {ds : List Deferred} {Q : AExit -> St -> Prop} {s : St}
theorem RS.refl {B : Base} {kn : Kn} {m : Mp} {act : Act} {w : World} (h1 : RelEnv kn m s.env n act) (h2 : act.defers = ds) (h3 : Inv C B kn m s.σ s.nx w) : RS C B n ds kn m s.σ s.nx kn m s act w :=
 ⟨h1, h2, h3, KnLe.refl _, Keep.refl _ _ _⟩
theorem RS.trans {B : Base} {kn kn1 kn2 : Kn} {m m1 m2 : Mp} {σ : Sto} {nx : Nat} {s1 s2 : St} {act1 act2 : Act} {w1 w2 : World} (hlt : ∀ (p nm : Nat) (ob : AObj), σ[p]? = some (nm, ob) -> nm < nx)
  (h : RS C B n ds kn m σ nx kn1 m1 s1 act1 w1) (k : RS C B n ds kn1 m1 s1.σ s1.nx kn2 m2 s2 act2 w2) : RS C B n ds kn m σ nx kn2 m2 s2 act2 w2 :=
 ⟨k.env, k.defs, k.inv, h.knle.trans k.knle, h.keep.trans k.keep hlt⟩
theorem Z3L {c : Code} {Q' : AExit -> St -> Prop} (h : aw C n ds c Q s) (hq : ∀ e s', Q e s' -> Q' e s') : aw C n ds c Q' s :=
 fun B kn m act w h1 h2 h3 => wp_mono (h B kn m act w h1 h2 h3) fun e a w' ⟨ae, s', kn', m', a1, a2, a3⟩ => ⟨ae, s', kn', m', a1, a2, hq _ _ a3⟩
theorem X1z (h : Q .normal s) : aw C n ds .skip Q s := fun B kn m act w h1 h2 h3 => wp_skip ⟨.normal, s, kn, m, trivial, .refl h1 h2 h3, h⟩
theorem X6r {id : Nat} (h : Q (.exit id) s) : aw C n ds (.exit id) Q s := fun B kn m act w h1 h2 h3 => wp_exit ⟨.exit id, s, kn, m, rfl, .refl h1 h2 h3, h⟩
theorem X0X (h : Q .ret s) : aw C n ds .ret Q s := fun B kn m act w h1 h2 h3 => wp_ret ⟨.ret, s, kn, m, trivial, .refl h1 h2 h3, h⟩
def Y2W (K : St -> Prop) (Q : AExit -> St -> Prop) : AExit -> St -> Prop
 | .normal, s => K s
 | e, s => Q e s
theorem X1l {x y : Code} (h : aw C n ds x (Y2W (aw C n ds y Q) Q) s) : aw C n ds (.seq x y) Q s := by
 intro B kn m act w h1 h2 h3;refine wp_seq (wp_mono (h B kn m act w h1 h2 h3) ?_);rintro e a1 w1 ⟨ae, s1, kn1, m1, hx, hR, hq⟩;cases e with
 | normal =>
  cases ae <;> simp only [X0x] at hx
  show y.wp C.P _ a1 w1;refine wp_mono (hq B kn1 m1 a1 w1 hR.env hR.defs hR.inv) ?_;rintro e a2 w2 ⟨ae2, s2, kn2, m2, hx2, hR2, hq2⟩;exact ⟨ae2, s2, kn2, m2, hx2, hR.trans h3.lt hR2, hq2⟩
 | exit id => cases ae <;> first | (simp only [X0x] at hx; done) | exact ⟨_, s1, kn1, m1, hx, hR, hq⟩
 | goto l => cases ae <;> first | (simp only [X0x] at hx; done) | exact ⟨_, s1, kn1, m1, hx, hR, hq⟩
 | ret => cases ae <;> first | (simp only [X0x] at hx; done) | exact ⟨_, s1, kn1, m1, hx, hR, hq⟩
 | panic ch => cases ae <;> first | (simp only [X0x] at hx; done) | exact ⟨_, s1, kn1, m1, hx, hR, hq⟩
 | outgrown => cases ae <;> simp only [X0x] at hx
theorem Z3I {c : Operand} {x y : Code} {b : Bool} (hc : opv C s.env c = .bool b) (ht : b = true -> aw C n ds x Q s) (hf : b = false -> aw C n ds y Q s) : aw C n ds (.cond c x y) Q s := by
 intro B kn m act w h1 h2 h3;have hr := X0o h3 h1 c;rw [hc] at hr;generalize hv : act.eval c = v at hr;cases hr;refine wp_cond hv ?_;cases b
 ·exact hf rfl B kn m act w h1 h2 h3
 exact ht rfl B kn m act w h1 h2 h3
def X32 (id : Nat) (Q : AExit -> St -> Prop) : AExit -> St -> Prop
 | .exit i, s => if i = id then Q .normal s else Q (.exit i) s
 | e, s => Q e s
theorem X2H {id : Nat} {c : Code} (h : aw C n ds c (X32 id Q) s) : aw C n ds (.block id c) Q s := by
 intro B kn m act w h1 h2 h3;refine wp_block (wp_mono (h B kn m act w h1 h2 h3) ?_);rintro e a1 w1 ⟨ae, s1, kn1, m1, hx, hR, hq⟩;cases e with
 | exit i =>
  cases ae <;> simp only [X0x] at hx
  subst hx;simp only [Exit.inBlock, X32] at hq ⊢;split at hq
  ·rename_i he; rw [if_pos he]; exact ⟨.normal, s1, kn1, m1, trivial, hR, hq⟩
  rename_i he; rw [if_neg he]; exact ⟨.exit _, s1, kn1, m1, rfl, hR, hq⟩
 | normal => cases ae <;> first | (simp only [X0x] at hx; done) | exact ⟨_, s1, kn1, m1, hx, hR, hq⟩
 | goto l => cases ae <;> first | (simp only [X0x] at hx; done) | exact ⟨_, s1, kn1, m1, hx, hR, hq⟩
 | ret => cases ae <;> first | (simp only [X0x] at hx; done) | exact ⟨_, s1, kn1, m1, hx, hR, hq⟩
 | panic ch => cases ae <;> first | (simp only [X0x] at hx; done) | exact ⟨_, s1, kn1, m1, hx, hR, hq⟩
 | outgrown => cases ae <;> simp only [X0x] at hx
theorem X5w {P : Program} {c : Code} {Q : Exit -> Act -> World -> Prop} (I : Nat -> Act -> World -> Prop) (round : ∀ d a w, I d a w -> c.wp P (Exit.then (fun a' w' => ∃ d', d' < d /\ I d' a' w') Q) a w) {d : Nat} {a : Act} {w : World} (h₀ : I d a w) :
  (Code.loop c).wp P Q a w := by
 intro b k cs;have key : ∀ d a w, I d a w -> ∃ e a' w', Q e a' w' /\ Arrives P (lone (b.at a (.code c :: .inLoop c :: k)) cs w) b k cs e a' w' := by
  intro d
  induction d using Nat.strongRecOn with
  | _ d ih =>
   intro a w hI;obtain ⟨e, a₁, w₁, hq, harr⟩ := round d a w hI b (.inLoop c :: k) cs;cases e with
   | normal =>
    obtain ⟨d', hlt, hI₁⟩ := hq;obtain ⟨e₂, a₂, w₂, hq₂, harr₂⟩ := ih d' hlt a₁ w₁ hI₁;exact ⟨e₂, a₂, w₂, hq₂, .of_steps (Steps.trans harr (.one step_inLoop)) harr₂⟩
   | exit id => exact ⟨_, a₁, w₁, hq, .pass (x := .inLoop c) rfl (fun _ _ => .inl (by simp)) harr⟩
   | goto l => exact ⟨_, a₁, w₁, hq, .pass (x := .inLoop c) rfl (fun _ _ => .inl (by simp)) harr⟩
   | ret => exact ⟨_, a₁, w₁, hq, .pass (x := .inLoop c) rfl (fun _ _ => .inl (by simp)) harr⟩
   | panic ch => exact ⟨_, a₁, w₁, hq, .pass (x := .inLoop c) rfl (fun _ _ => .inl (by simp)) harr⟩
   | outgrown => exact ⟨_, a₁, w₁, hq, .pass (x := .inLoop c) rfl (fun _ _ => .inl (by simp)) harr⟩
 obtain ⟨e, a', w', hq, harr⟩ := key d a w h₀;exact ⟨e, a', w', hq, .of_steps (.one step_loop) harr⟩
theorem Z3K {c : Code} (J : Nat -> St -> Prop) (round : ∀ d s, J d s -> aw C n ds c (Y2W (fun s' => ∃ d', d' < d /\ J d' s') Q) s) {d : Nat} (h₀ : J d s) : aw C n ds (.loop c) Q s := by
 intro B kn m act w h1 h2 h3;refine X5w (fun d a w' => ∃ s' kn' m', J d s' /\ RS C B n ds kn m s.σ s.nx kn' m' s' a w') ?_ ⟨s, kn, m, h₀, .refl h1 h2 h3⟩;rintro d a w' ⟨s', kn', m', hJ, hR⟩;refine wp_mono (round d s' hJ B kn' m' a w' hR.env hR.defs hR.inv) ?_;rintro e a1 w1 ⟨ae, s1, kn1, m1, hx, hR1, hq⟩;have hR' := hR.trans h3.lt hR1;cases e with
 | normal =>
  cases ae <;> simp only [X0x] at hx
  obtain ⟨d', hlt, hJ'⟩ := hq;exact ⟨d', hlt, s1, kn1, m1, hJ', hR'⟩
 | exit id => cases ae <;> first | (simp only [X0x] at hx; done) | exact ⟨_, s1, kn1, m1, hx, hR', hq⟩
 | goto l => cases ae <;> first | (simp only [X0x] at hx; done) | exact ⟨_, s1, kn1, m1, hx, hR', hq⟩
 | ret => cases ae <;> first | (simp only [X0x] at hx; done) | exact ⟨_, s1, kn1, m1, hx, hR', hq⟩
 | panic ch => cases ae <;> first | (simp only [X0x] at hx; done) | exact ⟨_, s1, kn1, m1, hx, hR', hq⟩
 | outgrown => cases ae <;> simp only [X0x] at hx
def areg (C : Cx) (H : Hints) (tt : Nat -> Bool) (ops : Array Oper) (K : St -> Prop) (KP : AV -> Sto -> Nat -> Prop) : List Oper -> Nat -> Nat × Nat -> St -> Prop
 | [], _, _, s => K s
 | o :: rest, k, al, s => ∃ t, X02 ops s.env o = some t /\
   (t = true -> aop C H (tt k) al o (fun v σ nx => areg C H tt ops K KP rest (k + 1) (if X0n o.op = true then (al.1 + 1, al.2 + 1) else al) ⟨updo s.env o.dst v, σ, nx⟩) KP s) /\
   (t = false -> areg C H tt ops K KP rest (k + 1) (if X0n o.op = true then (al.1 + 1, al.2 + 1) else al) ⟨updo s.env o.dst .undef, s.σ, s.nx⟩)
theorem X4D {H : Hints} {tot : Bool} {al : Nat × Nat} {o : Oper} {K K' KP KP' : AV -> Sto -> Nat -> Prop} {s : St} (h : aop C H tot al o K KP s) (hk : ∀ v σ nx, K v σ nx -> K' v σ nx) (hp : ∀ v σ nx, KP v σ nx -> KP' v σ nx) : aop C H tot al o K' KP' s := by
 unfold aop at h ⊢;split
 ·rename_i e; rw [e] at h; obtain ⟨v, a, b⟩ := h; exact ⟨v, a, hk _ _ _ b⟩
 ·rename_i e; rw [e] at h; obtain ⟨v, σ', nx', a, b⟩ := h; exact ⟨v, σ', nx', a, hk _ _ _ b⟩
 ·rename_i e; rw [e] at h;simp only at h;split
  ·rename_i c hc;rw [hc] at h;obtain ⟨g, args, a, Qc, b, c1, c2, d⟩ := h;exact ⟨g, args, a, Qc, b, fun v σ' nx' q => hk _ _ _ (c1 v σ' nx' q), fun v σ' nx' q => hp _ _ _ (c2 v σ' nx' q), d⟩
  rename_i hc;split at h
  ·rename_i c hc'; exact absurd hc' (hc c)
  exact h
 ·rename_i e; rw [e] at h;simp only at h;split
  ·rename_i x hx; rw [hx] at h; obtain ⟨t, v, a, b⟩ := h; exact ⟨t, v, a, hp _ _ _ b⟩
  rename_i hx;split at h
  ·rename_i x hx'; exact absurd hx' (hx x)
  exact h
 rename_i e; rw [e] at h; exact h
theorem X2G {H : Hints} {tt : Nat -> Bool} {ops : Array Oper} {K : St -> Prop} {KP : AV -> Sto -> Nat -> Prop} {p₀ n₀ : Nat} : ∀ (l : List Oper) (k : Nat) (s : St), (∀ j : Nat, l[j]? = ops[k + j]?) ->
  areg C H tt ops K KP l k (p₀ + rk ops.toList k, n₀ + rk ops.toList k) s -> aseq C H tt ops p₀ n₀ K KP (List.range' k l.length) s
 | [], k, s, hl, h => h
 | o :: rest, k, s, hl, h => by
  have h0 : ops[k]? = some o := by simpa using (hl 0).symm
  have hrest : ∀ j : Nat, rest[j]? = ops[k + 1 + j]? := fun j => by have := hl (j + 1); simpa [Nat.add_assoc, Nat.add_comm 1 j] using this
  have hrk := Y5j (l := ops.toList) (i := k) (o := o) (by simpa using h0);have hal : (if X0n o.op = true then (p₀ + rk ops.toList k + 1, n₀ + rk ops.toList k + 1) else (p₀ + rk ops.toList k, n₀ + rk ops.toList k)) = (p₀ + rk ops.toList (k + 1), n₀ + rk ops.toList (k + 1)) := by
   rw [hrk]; split <;> simp [Nat.add_assoc]
  simp only [areg, hal] at h;simp only [List.length_cons, List.range'_succ, aseq, X33, h0];obtain ⟨t, a, b, c⟩ := h;exact ⟨t, a, fun ht => X4D (b ht) (fun v σ nx hh => X2G rest (k + 1) _ hrest hh) (fun _ _ _ hh => hh), fun ht => X2G rest (k + 1) _ hrest (c ht)⟩
def Y1v (n : Nat) (ops : Array Oper) : Bool := ops.toList.all fun o => match o.dst with | some d => decide (d < n) | none => true
theorem X3t {ops : Array Oper} (h : Y1v n ops = true) : ∀ (i : Nat) (o : Oper) (d : Nat), ops[i]? = some o -> o.dst = some d -> d < n := by
 intro i o d hi hd;have := List.all_eq_true.1 h o (List.mem_of_getElem? (by simpa using hi));rw [hd] at this;simpa using this
theorem X8q {H : Hints} {id : Nat} {ops : Array Oper} {objs : Sto} (hd : Y1v n ops = true) (ho : X0A C.P ops.toList s.nx = some objs)
  (h : areg C H (fun _ => true) ops (Q .normal) (fun v σ nx => ∀ env, Q (.pan v) ⟨env, σ, nx⟩) ops.toList 0 (s.σ.length, s.nx) ⟨s.env, s.σ ++ objs, s.nx + objs.length⟩) : aw C n ds (.region id ops false) Q s := by
 intro B kn m act w h1 h2 h3;obtain ⟨hI', hk'⟩ := h3.ahead ho;refine wp_region ?_;have hs := X2G (ops := ops) (p₀ := s.σ.length) (n₀ := s.nx) ops.toList 0 ⟨s.env, s.σ ++ objs, s.nx + objs.length⟩ (fun j => by simp) (by simpa [rk] using h);have hrange : List.range' 0 ops.toList.length = List.range ops.size := by rw [List.range_eq_range']; simp
 rw [hrange] at hs
 refine X92 (KP := fun v σ nx => ∀ env, Q (.pan v) ⟨env, σ, nx⟩) (K := Q .normal) (B := B) (n := n) (ds := ds) (kn₀ := kn) (m₀ := m) (σ₀ := s.σ) (nx₀ := s.nx) h3.lt (X3t hd) (fun s' kn' m' act' w' hK hR => ⟨.normal, s', kn', m', trivial, hR, hK⟩)
  (fun v u env' kn' m' σ' nx' act' w' hKP hv hR => ⟨.pan v, ⟨env', σ', nx'⟩, kn', m', ⟨u, rfl, hv⟩, hR, hKP env'⟩) (List.range ops.size) (fun _ => false) ⟨s.env, s.σ ++ objs, s.nx + objs.length⟩ kn m act w List.nodup_range (fun _ _ => rfl) ⟨⟨h1, h2, hI', KnLe.refl _, hk'⟩, ?_⟩ hs
 intro j o T hj hT _;obtain ⟨z, hz, hg⟩ := X1p ho (j := j) (by simpa using hj) hT;refine ⟨h3.dom _ (Nat.le_add_right _ _), ?_, Nat.le_add_right _ _, z, hz, ?_⟩
 ·have := (List.getElem?_eq_some_iff.1 hg).1; simp; omega
 rw [List.getElem?_append_right (Nat.le_add_right _ _), Nat.add_sub_cancel_left]; exact hg
end
end Go.Ab
namespace Go.Ab
open Go Go.RowKit
theorem Inv.take {C : Cx} {B : Base} {kn : Kn} {m : Mp} {σ : Sto} {nx : Nat} {w : World} (h : Inv C B kn m σ nx w) (k : Nat) : Inv C B kn m (σ.take k) nx w := by
 have get : ∀ (p nm : Nat) (ob : AObj), (σ.take k)[p]? = some (nm, ob) -> σ[p]? = some (nm, ob) := fun p nm ob e => by
  rw [List.getElem?_take] at e;split at e
  ·exact e
  cases e
 exact ⟨h.knok, h.size, h.os, h.tape, h.output, h.old, fun p nm ob e => h.obj p nm ob (get p nm ob e), fun p nm ob loc e => h.own p nm ob loc (get p nm ob e),
  fun p nm ob loc p' nm' ob' loc' e e' => h.dist p nm ob loc p' nm' ob' loc' (get _ _ _ e) (get _ _ _ e'), h.dom, fun p nm ob e => h.lt p nm ob (get _ _ _ e), fun p p' nm ob ob' e e' => h.uniq p p' nm ob ob' (get _ _ _ e) (get _ _ _ e'), fun p p' nm nm' ob ob' e e' => h.stk1 _ _ _ _ _ _ (get _ _ _ e) (get _ _ _ e'), h.glob, h.tab⟩
theorem Y9n {C : Cx} {n : Nat} {ds : List Deferred} {c : Code} {Q : AExit -> St -> Prop} {s : St} (h : aw C n ds c (fun e s' => ∃ k, s.σ.length <= k /\ Q e ⟨s'.env, s'.σ.take k, s'.nx⟩) s) : aw C n ds c Q s := by
 intro B kn m act w h1 h2 h3;refine wp_mono (h B kn m act w h1 h2 h3) ?_;rintro e a1 w1 ⟨ae, s1, kn1, m1, hx, hR, k, hk, hq⟩;refine ⟨ae, ⟨s1.env, s1.σ.take k, s1.nx⟩, kn1, m1, hx, ⟨hR.env, hR.defs, hR.inv.take k, hR.knle, hR.keep.le, hR.keep.ag, fun p nm ob e e' => ?_⟩, hq⟩;have hp : p < s.σ.length := (List.getElem?_eq_some_iff.1 e).1;show (s1.σ.take k)[p]? = _;rw [List.getElem?_take, if_pos (by omega)];exact hR.keep.pend p nm ob e e'
def frzF (σ : Sto) : Nat -> AV -> AV
 | 0, v => v
 | f + 1, v => match v with
  | .sref p nm esz off len => match sget σ p nm with
   | some (.gvec esz' _ rows) => if esz' = esz /\ off + len <= rows.length then .vec esz (((rows.drop off).take len).map fun r => r.map (frzF σ f)) else v
   | _ => v
  | .ref p nm off => match sget σ p nm with
   | some (.cells _ cs) => .rptr ((cs.drop off).map (frzF σ f))
   | _ => v
  | .eref p nm i off => match sget σ p nm with
   | some (.gvec _ _ rows) => match rows[i]? with
    | some row => .rptr ((row.drop off).map (frzF σ f))
    | none => v
   | _ => v
  | .gs p nm e len => match sget σ p nm with
   | some (.tg e2 _ l) => if h : e2 = e then .tvec e (X5j h l) else v
   | _ => v
  | .agg cs => .agg (cs.map (frzF σ f))
  | .tup cs => .tup (cs.map (frzF σ f))
  | .iface t x => .iface t (frzF σ f x)
  | v => v
def X28 (kn : Kn) (sz : Nat) (w : World) : Kn := fun b o => if b < sz then kn b o else w.cell? ⟨b, o, none⟩
theorem Y1E {C : Cx} {B : Base} {kn : Kn} {m : Mp} {σ : Sto} {nx : Nat} {w : World} (h : Inv C B kn m σ nx w) (sz : Nat) : KnLe kn (X28 kn sz w) := fun b o v e => by
 unfold X28;split
 ·exact e
 exact h.knok b o v e
theorem Z5V {kn kn' : Kn} {m : Mp} {w : World} {p nm esz ety len : Nat} {rows : List (List AV)} {v : Value} (hgv : GvRel kn m w nm esz ety rows) (hv : Rel kn m (.sref p nm esz 0 len) v) (hl : len = rows.length) (hle : KnLe kn kn')
  (hk : ∀ loc, m nm = some loc -> loc.nil = false -> ∀ o, kn' loc.blk o = w.cell? ⟨loc.blk, o, none⟩) : Rel kn' m (.vec esz rows) v := by
 cases hv with
 | srefNil _ _ _ loc hm hn =>
  have := hgv.nilRows hm hn;subst this;exact .vecNone _
 | sref _ _ _ _ _ loc hm hn he hc hm62 =>
  obtain ⟨hll, he', arr, hw, hsz, hlc, hmx, hone, hrl, hrr⟩ := hgv.get hm hn;have hkn := hk loc hm hn;subst hl;have hcell : ∀ i row j x, rows[i]? = some row -> row[j]? = some x -> ∃ hlt : loc.off + i * esz + j < arr.size, w.cell? ⟨loc.blk, loc.off + i * esz + j, none⟩ = some arr[loc.off + i * esz + j] /\ Rel kn m x arr[loc.off + i * esz + j] /\ arr[loc.off + i * esz + j].oneCell' = true := by
   intro i row j x hr hj;have hjl : j < esz := by rw [<- hrl _ _ hr]; exact (List.getElem?_eq_some_iff.1 hj).1
   have h1 := X1H (show i < loc.cap by have := (List.getElem?_eq_some_iff.1 hr).1; omega) hjl;have hlt : loc.off + i * esz + j < arr.size := by omega
   exact ⟨hlt, by simp [World.cell?, hw, hlt], hrr _ _ _ _ _ hr hj (by simp [hlt]), hone _ (by simp)⟩
  have := Rel.vec (kn := kn') (m := m) esz rows loc.blk loc.off loc.cap (fun i j => arr.getD (loc.off + i * esz + j) undef) (by omega) hm62 hrl
   (fun i row j x hr hj => by
    obtain ⟨hlt, c1, c2, c3⟩ := hcell i row j x hr hj;rw [hkn, c1]; simp [hlt])
   (fun i row j x hr hj => by
    obtain ⟨hlt, c1, c2, c3⟩ := hcell i row j x hr hj;have := c2.mono hle (MpLe.refl m);simpa [hlt] using this)
   (fun i row j x hr hj => by
    obtain ⟨hlt, c1, c2, c3⟩ := hcell i row j x hr hj;simpa [hlt] using c3)
  simpa using this
theorem Y9L {P : Program} {B : Base} {kn kn' : Kn} {m : Mp} {σ : Sto} {w : World} (hle : KnLe kn kn') (hobj : ∀ (p nm : Nat) (ob : AObj), σ[p]? = some (nm, ob) -> live ob -> ObjRel P B kn m w nm ob)
  (known : ∀ (p nm : Nat) (ob : AObj) (loc : Loc), σ[p]? = some (nm, ob) -> live ob -> m nm = some loc -> loc.nil = false -> ∀ o, kn' loc.blk o = w.cell? ⟨loc.blk, o, none⟩) :
  ∀ (f : Nat) (x : AV) (v : Value), Rel kn m x v -> Rel kn' m (frzF σ f x) v := by
 intro f
 induction f with
 | zero => intro x v hr; exact hr.mono hle (MpLe.refl m)
 | succ f ih =>
  intro x v hr;have stay := hr.mono hle (MpLe.refl m);cases hr with
  | gs p nm e len v loc hm hl hr =>
   simp only [frzF];split
   ·rename_i e2 ety l hs;split
    ·rename_i he;subst he;have hp := X0j hs;have hgv : GvRel kn m w nm e2.size ety (l.map e2.row) := hobj _ _ _ hp trivial;refine .tvec _ _ _ (Z5V hgv hr ?_ hle (fun loc' hm' hn' => known p nm _ loc' hp trivial hm' hn'));obtain ⟨loc2, hm2, hl2, _⟩ := hgv;rw [hm] at hm2; cases hm2;rw [X35];omega
    exact stay
   exact stay
  | srefNil p nm esz loc hm hn =>
   simp only [frzF];split
   ·rename_i esz' ety rows hs;split
    ·rename_i hc;obtain ⟨rfl, hle⟩ := hc;simp only [List.drop_zero, List.take_zero, List.map_nil];exact .vecNone _
    exact stay
   exact stay
  | sref p nm esz off len loc hm hnl he hl hm' =>
   simp only [frzF];split
   ·rename_i esz' ety rows hs;split
    ·rename_i hc;obtain ⟨rfl, hle⟩ := hc;have hp := X0j hs;obtain ⟨hll, hez, arr, hw, hsz, hle', hmx, hone, hrl, hrr⟩ := GvRel.get (hobj _ _ _ hp trivial) hm hnl;have hkn := known p nm _ loc hp trivial hm hnl;have hlen : (((rows.drop off).take len).map fun r => r.map (frzF σ f)).length = len := by simp; omega
     have hsub : ∀ (i : Nat) (row : List AV), (((rows.drop off).take len).map fun r => r.map (frzF σ f))[i]? = some row -> i < len /\ ∃ row0, rows[off + i]? = some row0 /\ row = row0.map (frzF σ f) := fun i row hi => by
      rw [List.getElem?_map, List.getElem?_take] at hi;split at hi
      ·rename_i hil;rw [List.getElem?_drop] at hi;cases hr0 : rows[off + i]? with
       | none => simp [hr0] at hi
       | some row0 => simp [hr0] at hi; exact ⟨hil, row0, rfl, hi.symm⟩
      simp at hi
     have hcell : ∀ i row0 j x, i < len -> rows[off + i]? = some row0 -> row0[j]? = some x -> ∃ hlt : loc.off + (off + i) * loc.esz + j < arr.size, w.cell? ⟨loc.blk, loc.off + (off + i) * loc.esz + j, none⟩ = some arr[loc.off + (off + i) * loc.esz + j] /\ Rel kn m x arr[loc.off + (off + i) * loc.esz + j] /\ arr[loc.off + (off + i) * loc.esz + j].oneCell' = true := by
      intro i row0 j x hi hr0 hj;have hjl : j < esz' := by rw [<- hrl _ _ hr0]; exact (List.getElem?_eq_some_iff.1 hj).1
      have h1 := X1H (show off + i < loc.cap by omega) hjl;have hlt : loc.off + (off + i) * loc.esz + j < arr.size := by rw [he]; omega
      exact ⟨hlt, by simp [World.cell?, hw, hlt], hrr _ _ _ _ _ hr0 hj (by rw [<- he]; simp [hlt]), hone _ (by simp)⟩
     have := Rel.vec (kn := kn') (m := m) esz' (((rows.drop off).take len).map fun r => r.map (frzF σ f)) loc.blk (loc.off + off * loc.esz) (loc.cap - off)
      (fun i j => arr.getD (loc.off + (off + i) * loc.esz + j) undef) (by rw [hlen]; omega) (by rw [hlen]; exact hm')
      (fun i row hi => by obtain ⟨_, row0, h1, rfl⟩ := hsub i row hi; rw [List.length_map]; exact hrl _ _ h1)
      (fun i row j x hi hj => by
       obtain ⟨hil, row0, h1, rfl⟩ := hsub i row hi;rw [List.getElem?_map] at hj;cases hj0 : row0[j]? with
       | none => simp [hj0] at hj
       | some x0 =>
        obtain ⟨hlt, c1, c2, c3⟩ := hcell i row0 j x0 hil h1 hj0;rw [hkn, show loc.off + off * loc.esz + i * esz' + j = loc.off + (off + i) * loc.esz + j by rw [Nat.add_mul, he]; omega, c1];simp [hlt])
      (fun i row j x hi hj => by
       obtain ⟨hil, row0, h1, rfl⟩ := hsub i row hi;rw [List.getElem?_map] at hj;cases hj0 : row0[j]? with
       | none => simp [hj0] at hj
       | some x0 =>
        simp [hj0] at hj;subst hj;obtain ⟨hlt, c1, c2, c3⟩ := hcell i row0 j x0 hil h1 hj0;have := ih x0 _ c2;simpa [hlt] using this)
      (fun i row j x hi hj => by
       obtain ⟨hil, row0, h1, rfl⟩ := hsub i row hi;rw [List.getElem?_map] at hj;cases hj0 : row0[j]? with
       | none => simp [hj0] at hj
       | some x0 =>
        obtain ⟨hlt, c1, c2, c3⟩ := hcell i row0 j x0 hil h1 hj0;simpa [hlt] using c3)
     rw [hlen] at this;exact this
    exact stay
   exact stay
  | ref p nm off loc hm =>
   simp only [frzF];split
   ·rename_i T cs hs;have hp := X0j hs;have hob := hobj _ _ _ hp trivial;simp only [ObjRel, hm] at hob;obtain ⟨hnl, h0, arr, hw, hrl⟩ := hob;have hkn := known p nm _ loc hp trivial hm hnl;have hcell : ∀ j x, cs[off + j]? = some x -> ∃ hlt : off + j < arr.size, w.cell? ⟨loc.blk, off + j, none⟩ = some arr[off + j] /\ Rel kn m x arr[off + j] /\ arr[off + j].oneCell' = true := by
     intro j x hj;have hlt : off + j < arr.size := by rw [<- Array.length_toList, <- hrl.1.1]; exact (List.getElem?_eq_some_iff.1 hj).1
     exact ⟨hlt, by simp [World.cell?, hw, hlt], hrl.1.2 _ _ _ hj (by simp [hlt]), hrl.2 _ (by simp)⟩
    refine .rptr _ loc.blk _ (fun j => arr.getD (off + j) undef) (fun j x hj => ?_) (fun j x hj => ?_) (fun j x hj => ?_) <;>
    ·rw [List.getElem?_map, List.getElem?_drop] at hj;cases hj0 : cs[off + j]? with
     | none => simp [hj0] at hj
     | some x0 =>
      simp [hj0] at hj;obtain ⟨hlt, c1, c2, c3⟩ := hcell j x0 hj0
      first
       | (rw [hkn, h0, Nat.zero_add, c1]; simp [hlt]; done)
       | (subst hj; have := ih x0 _ c2; simpa [hlt] using this)
       | (simpa [hlt] using c3)
   exact stay
  | eref p nm i off loc hm =>
   simp only [frzF];split
   ·rename_i esz' ety rows hs;split
    ·rename_i row hrow;have hp := X0j hs;have hnl : loc.nil = false := by
      cases hx : loc.nil with
      | false => rfl
      | true => rw [GvRel.nilRows (hobj _ _ _ hp trivial) hm hx] at hrow; simp at hrow
     obtain ⟨hll, hez, arr, hw, hsz, hle', hmx, hone, hrl, hrr⟩ := GvRel.get (hobj _ _ _ hp trivial) hm hnl;have hkn := known p nm _ loc hp trivial hm hnl;have hcell : ∀ j x, row[off + j]? = some x -> ∃ hlt : loc.off + i * loc.esz + (off + j) < arr.size, w.cell? ⟨loc.blk, loc.off + i * loc.esz + (off + j), none⟩ = some arr[loc.off + i * loc.esz + (off + j)] /\ Rel kn m x arr[loc.off + i * loc.esz + (off + j)] /\ arr[loc.off + i * loc.esz + (off + j)].oneCell' = true := by
      intro j x hj;have hjl : off + j < esz' := by rw [<- hrl _ _ hrow]; exact (List.getElem?_eq_some_iff.1 hj).1
      have h1 := X1H (show i < loc.cap by have := (List.getElem?_eq_some_iff.1 hrow).1; omega) hjl;have hlt : loc.off + i * loc.esz + (off + j) < arr.size := by rw [hez]; omega
      exact ⟨hlt, by simp [World.cell?, hw, hlt], hrr _ _ _ _ _ hrow hj (by rw [<- hez]; simp [hlt]), hone _ (by simp)⟩
     refine .rptr _ loc.blk _ (fun j => arr.getD (loc.off + i * loc.esz + (off + j)) undef) (fun j x hj => ?_) (fun j x hj => ?_) (fun j x hj => ?_) <;>
     ·rw [List.getElem?_map, List.getElem?_drop] at hj;cases hj0 : row[off + j]? with
      | none => simp [hj0] at hj
      | some x0 =>
       simp [hj0] at hj;obtain ⟨hlt, c1, c2, c3⟩ := hcell j x0 hj0
       first
        | (rw [hkn, Nat.add_assoc (loc.off + i * loc.esz), c1]; simp [hlt]; done)
        | (subst hj; have := ih x0 _ c2; simpa [hlt] using this)
        | (simpa [hlt] using c3)
    exact stay
   exact stay
  | agg cs vs hl hr h1 =>
   simp only [frzF];refine .agg _ _ (by simpa using hl) (fun i x v a b => ?_) h1;rw [List.getElem?_map] at a;cases hc : cs[i]? with
   | none => simp [hc] at a
   | some x0 => simp [hc] at a; subst a; exact ih x0 v (hr i x0 v hc b)
  | tup cs vs hl hr =>
   simp only [frzF];refine .tup _ _ (by simpa using hl) (fun i x v a b => ?_);rw [List.getElem?_map] at a;cases hc : cs[i]? with
   | none => simp [hc] at a
   | some x0 => simp [hc] at a; subst a; exact ih x0 v (hr i x0 v hc b)
  | iface t x v hr => simp only [frzF]; exact .iface t _ _ (ih x v hr)
  | _ => simpa only [frzF] using stay
theorem Y3b {C : Cx} {B : Base} {kn : Kn} {m : Mp} {σ : Sto} {nx : Nat} {w : World} (h : Inv C B kn m σ nx w) (hown : ∀ b, ¬ B.own b) : ∀ (f : Nat) (x : AV) (v : Value), Rel kn m x v -> Rel (X28 kn B.w.heap.size w) m (frzF σ f x) v :=
 Y9L (P := C.P) (Y1E h _) (fun p nm ob e _ => h.obj p nm ob e) (fun p nm ob loc e l hm hnl o => by
  have := (h.own p nm ob loc e l hm hnl).2.1;unfold X28;rw [if_neg];rcases this with h1 | h1
  ·omega
  exact absurd h1 (hown _))
def res1 (P : Program) (s : St) : ResultVar -> Option AV
 | .tmp t => some (s.env t)
 | .cell a T => X1K P T s.σ (s.env a)
def resA (P : Program) (rs : List ResultVar) (s : St) : Option AV :=
 match rs with
 | [r] => res1 P s r
 | rs => (rs.mapM (res1 P s)).map .tup
def Y3G (tmps : Array Value) : ResultVar -> Sem Value
 | .tmp t => pure (tmps.getD t undef)
 | .cell a t => do loadVar t (<- asAddr (tmps.getD a undef))
theorem Y0B (fn : Func) (tmps : Array Value) : results fn tmps = (do let vs <- fn.results.mapM (Y3G tmps); pure (if h : vs.size = 1 then vs[0] else .tuple vs)) := by
 unfold results
 congr 2
theorem Y7H {C : Cx} {B : Base} {kn : Kn} {m : Mp} {s : St} {w : World} {n : Nat} {act : Act} (hI : Inv C B kn m s.σ s.nx w) (hE : RelEnv kn m s.env n act) {r : ResultVar} {x : AV} (h : res1 C.P s r = some x) :
  ∃ v, (Y3G act.tmps r).run C.P w = .ok v w /\ Rel kn m x v := by
 cases r with
 | tmp t => simp only [res1, Option.some.injEq] at h; subst h; exact ⟨_, rfl, hE.tmp t⟩
 | cell a T =>
  simp only [res1] at h;have ha := hE.tmp a;obtain ⟨u, h1, h2⟩ := Y3J hI h ha;refine ⟨u, ?_, h2⟩;generalize hv : act.tmps.getD a undef = v at *
  have : ∃ ad, v = .pointer (some ad) := by
   cases hx : s.env a <;> rw [hx] at ha h <;> simp [X1K] at h <;> cases ha <;> exact ⟨_, rfl⟩
  obtain ⟨ad, rfl⟩ := this;simp only [Y3G, hv, asAddr];simpa [Instr.loadAt, Instr.sureAddr] using h1
theorem X1g {C : Cx} {B : Base} {kn : Kn} {m : Mp} {s : St} {w : World} {n : Nat} {act : Act} (hI : Inv C B kn m s.σ s.nx w) (hE : RelEnv kn m s.env n act) {fn : Func} {x : AV} (h : resA C.P fn.results.toList s = some x) :
  ∃ v, (results fn act.tmps).run C.P w = .ok v w /\ Rel kn m x v := by
 have many : ∀ (rs : List ResultVar) (xs : List AV), rs.mapM (res1 C.P s) = some xs -> ∃ vs : List Value, (rs.mapM (Y3G act.tmps)).run C.P w = .ok vs w /\ RelL kn m xs vs := by
  intro rs
  induction rs with
  | nil => intro xs h; simp at h; subst h; exact ⟨[], rfl, .nil _ _⟩
  | cons r rest ih =>
   intro xs h;simp only [List.mapM_cons, Option.bind_eq_bind] at h;cases h1 : res1 C.P s r with
   | none => simp [h1] at h
   | some x =>
    cases h2 : rest.mapM (res1 C.P s) with
    | none => simp [h1, h2] at h
    | some xs' =>
     simp [h1, h2] at h;subst h;obtain ⟨v, q1, q2⟩ := Y7H hI hE h1;obtain ⟨vs, q3, q4⟩ := ih xs' h2;refine ⟨v :: vs, ?_, .cons q2 q4⟩;simp only [List.mapM_cons, Sem.run_bind, q1, q3, Result.andThen_ok, Sem.run_pure]
 have hmap : ∀ (xs : List AV), fn.results.toList.mapM (res1 C.P s) = some xs -> ∃ vs : List Value, (fn.results.mapM (Y3G act.tmps)).run C.P w = .ok vs.toArray w /\ RelL kn m xs vs := by
  intro xs hx;obtain ⟨vs, q1, q2⟩ := many _ _ hx;refine ⟨vs, ?_, q2⟩;rw [Array.mapM_eq_mapM_toList, Sem.run_map, q1];rfl
 unfold resA at h;split at h
 ·rename_i r hr;obtain ⟨vs, q1, q2⟩ := hmap [x] (by rw [hr]; simp [h]);obtain ⟨v, vs', rfl, h1, h2⟩ := q2.uncons;have : vs' = [] := List.eq_nil_of_length_eq_zero h2.1.symm;subst this;refine ⟨v, ?_, h1⟩;rw [Y0B];simp only [Sem.run_bind, q1, Result.andThen_ok];rfl
 rename_i hne;cases hx : fn.results.toList.mapM (res1 C.P s) with
 | none => simp [hx] at h
 | some xs =>
  simp [hx] at h;subst h;obtain ⟨vs, q1, q2⟩ := hmap xs hx;refine ⟨.tuple vs.toArray, ?_, .tup _ _ (by simpa using q2.1) (fun i x v a b => q2.2 i x v a (by simpa using b))⟩;rw [Y0B];simp only [Sem.run_bind, q1, Result.andThen_ok];have hlen : vs.length ≠ 1 := by
   rw [<- q2.1];have : xs.length = fn.results.toList.length := by
    have gen : ∀ (rs : List ResultVar) (xs : List AV), rs.mapM (res1 C.P s) = some xs -> xs.length = rs.length := by
     intro rs
     induction rs with
     | nil => intro xs h; simp at h; subst h; rfl
     | cons r rest ih =>
      intro xs h;simp only [List.mapM_cons, Option.bind_eq_bind] at h;cases h1 : res1 C.P s r with
      | none => simp [h1] at h
      | some x =>
       cases h2 : rest.mapM (res1 C.P s) with
       | none => simp [h1, h2] at h
       | some xs' => simp [h1, h2] at h; subst h; simp [ih xs' h2]
    exact gen _ _ hx
   rw [this];intro h1;obtain ⟨r, hr⟩ := List.length_eq_one_iff.1 h1;exact hne r hr
  simp [hlen]
def X3L (args : List AV) : Nat -> AV := fun t => args.getD t .undef
theorem X4E {kn : Kn} {m : Mp} {args : List AV} {vs : List Value} (h : RelL kn m args vs) {n : Nat} (hn : args.length <= n) : RelEnv kn m (X3L args) n { tmps := vs.toArray ++ Array.replicate (n - vs.toArray.size) undef, defers := [] } := by
 refine ⟨by simp [h.1] at *; omega, fun t => ?_⟩;simp only [X3L, Array.getD_eq_getD_getElem?, List.getD_eq_getElem?_getD];rcases Nat.lt_or_ge t args.length with hlt | hge
 ·have hlt' : t < vs.length := by rw [<- h.1]; exact hlt
  rw [Array.getElem?_append_left (by simpa using hlt')];simp only [List.getElem?_toArray, List.getElem?_eq_getElem hlt, List.getElem?_eq_getElem hlt', Option.getD_some];exact h.2 t _ _ (List.getElem?_eq_getElem hlt) (List.getElem?_eq_getElem hlt')
 rw [List.getElem?_eq_none hge, Array.getElem?_append_right (by simpa [<- h.1] using hge)];have : (Array.replicate (n - vs.toArray.size) undef)[t - vs.toArray.size]?.getD undef = undef := by
  rw [Array.getElem?_replicate]; split <;> rfl
 rw [this];exact .base _
def Z1l (C : Cx) (F : Nat) (rs : List ResultVar) (Q : AOut -> Prop) : AExit -> St -> Prop
 | .normal, s => ∃ r, resA C.P rs s = some r /\ RF (frzF s.σ F r) /\ Q (.ret (frzF s.σ F r))
 | .ret, s => ∃ r, resA C.P rs s = some r /\ RF (frzF s.σ F r) /\ Q (.ret (frzF s.σ F r))
 | .pan v, s => RF (frzF s.σ F v) /\ Q (.pan (frzF s.σ F v))
 | _, _ => False
theorem X5N {P : Program} {g : FuncId} {fn : Func} {c : Code} (hf : P.funcs[g]? = some fn) (hb : fn.body = some c) (hname : (fn.name == "runtime.NumGoroutine") = false) : X6Z P g = true := by
 unfold X6Z; simp [hf, hb]; simpa using hname
theorem Y47 {C : Cx} {g : FuncId} {fn : Func} {c : Code} {args : List AV} (F : Nat) (hf : C.P.funcs[g]? = some fn) (hb : fn.body = some c) (hname : (fn.name == "runtime.NumGoroutine") = false) (hn : args.length <= fn.ntmps) {Q : AOut -> Prop}
  (h : aw C fn.ntmps [] c (Z1l C F fn.results.toList Q) ⟨X3L args, [], 0⟩) : PCall C g args Q := by
 refine fun kn w vs hk hr => .inl ⟨X5N hf hb hname, ?_⟩
 let B : Base := ⟨w, kn, fun _ => False⟩
 have hI : Inv C B kn m0 [] 0 w := ⟨hk.ok, Nat.le_refl _, rfl, rfl, rfl, fun _ _ _ => ⟨rfl, rfl⟩, fun p nm ob e => by simp at e, fun p nm ob loc e => by simp at e, fun p nm ob loc p' nm' ob' loc' e => by simp at e, fun _ _ => rfl, fun p nm ob e => by simp at e, fun p p' nm ob ob' e => by simp at e, fun p p' nm nm' ob ob' e => by simp at e, hk.glob, hk.tab.base _ (fun _ _ _ h => h)⟩;refine calls_of_wp hf hb (wp_mono (h B kn m0 _ w (X4E hr hn) rfl hI) ?_);rintro e act' w' ⟨ae, s', kn', m', hx, hR, hq⟩;have fin : ∀ (x : AV) (v : Value), Rel kn' m' x v -> RF (frzF s'.σ F x) -> Rel (X28 kn' w.heap.size w') m0 (frzF s'.σ F x) v := fun x v hr hf => (Y3b hR.inv (fun _ h => h) F x v hr).rf hf m0
 have hbel : Below w.heap.size w w' := ⟨hR.inv.os, hR.inv.tape, hR.inv.output, hR.inv.size, fun k hk => (hR.inv.old k hk (fun h => h)).1⟩;have hkok : KnOK C (X28 kn' w.heap.size w') w' := ⟨fun b o v e => by
  unfold X28 at e;split at e
  ·exact hR.inv.knok b o v e
  ·exact e, fun g => ((hR.inv.glob g).mono (Y1E hR.inv _) (MpLe.refl _)).rf (C.rf g) m0, hR.inv.tabW⟩
 have hkold : ∀ b, b < w.heap.size -> X28 kn' w.heap.size w' b = kn b := fun b hb => by
  funext o
  unfold X28;rw [if_pos hb];rw [(hR.inv.old b hb (fun h => h)).2]
 have back : ∀ (v : AV), Rel kn' m' v undef -> True := fun _ _ => trivial
 cases e with
 | normal =>
  cases ae <;> first | (simp only [X0x] at hx; done) | skip
  obtain ⟨r, h1, h2, h3⟩ := hq;obtain ⟨v, q1, q2⟩ := X1g hR.inv hR.env h1;exact ⟨hR.defs, v, q1, _, X28 kn' w.heap.size w', h3, fin r v q2 h2, hkok, hbel, hkold⟩
 | ret =>
  cases ae <;> first | (simp only [X0x] at hx; done) | skip
  obtain ⟨r, h1, h2, h3⟩ := hq;obtain ⟨v, q1, q2⟩ := X1g hR.inv hR.env h1;exact ⟨hR.defs, v, q1, _, X28 kn' w.heap.size w', h3, fin r v q2 h2, hkok, hbel, hkold⟩
 | panic ch =>
  cases ae <;> first | (simp only [X0x] at hx; done) | skip
  obtain ⟨u, rfl, hu⟩ := hx;exact ⟨hR.defs, _, X28 kn' w.heap.size w', hq.2, ⟨u, rfl, fin _ u hu hq.1⟩, hkok, hbel, hkold⟩
 | exit id => cases ae <;> first | (simp only [X0x] at hx; done) | exact hq.elim
 | goto l => cases ae <;> first | (simp only [X0x] at hx; done) | exact hq.elim
 | outgrown => cases ae <;> (simp only [X0x] at hx)
def Z0W (C : Cx) (rs : List ResultVar) (Q : AOut -> Sto -> Nat -> Prop) : AExit -> St -> Prop
 | .normal, s => ∃ r, resA C.P rs s = some r /\ Q (.ret r) s.σ s.nx
 | .ret, s => ∃ r, resA C.P rs s = some r /\ Q (.ret r) s.σ s.nx
 | .pan v, s => Q (.pan v) s.σ s.nx
 | _, _ => False
theorem Y4z {C : Cx} {g : FuncId} {fn : Func} {c : Code} {args : List AV} {σ : Sto} {nx : Nat} (hf : C.P.funcs[g]? = some fn) (hb : fn.body = some c) (hname : (fn.name == "runtime.NumGoroutine") = false) (hn : args.length <= fn.ntmps) {Q : AOut -> Sto -> Nat -> Prop}
  (h : aw C fn.ntmps [] c (Z0W C fn.results.toList Q) ⟨X3L args, σ, nx⟩) : ACall C g args σ nx Q := by
 refine fun B kn m w vs hI hr => .inl ⟨X5N hf hb hname, ?_⟩
 refine calls_of_wp hf hb (wp_mono (h B kn m _ w (X4E hr hn) rfl hI) ?_);rintro e act' w' ⟨ae, s', kn', m', hx, hR, hq⟩;cases e with
 | normal =>
  cases ae <;> first | (simp only [X0x] at hx; done) | skip
  obtain ⟨r, h1, h3⟩ := hq;obtain ⟨v, q1, q2⟩ := X1g hR.inv hR.env h1;exact ⟨hR.defs, v, q1, _, kn', m', _, _, h3, q2, hR.knle, hR.inv, hR.keep⟩
 | ret =>
  cases ae <;> first | (simp only [X0x] at hx; done) | skip
  obtain ⟨r, h1, h3⟩ := hq;obtain ⟨v, q1, q2⟩ := X1g hR.inv hR.env h1;exact ⟨hR.defs, v, q1, _, kn', m', _, _, h3, q2, hR.knle, hR.inv, hR.keep⟩
 | panic ch =>
  cases ae <;> first | (simp only [X0x] at hx; done) | skip
  obtain ⟨u, rfl, hu⟩ := hx;exact ⟨hR.defs, _, kn', m', _, _, hq, ⟨u, rfl, hu⟩, hR.knle, hR.inv, hR.keep⟩
 | exit id => cases ae <;> first | (simp only [X0x] at hx; done) | exact hq.elim
 | goto l => cases ae <;> first | (simp only [X0x] at hx; done) | exact hq.elim
 | outgrown => cases ae <;> (simp only [X0x] at hx)
end Go.Ab
namespace Go.Ab
open Go Go.RowKit
theorem Z17 {C : Cx} {env : Nat -> AV} {dst : Option Tmp} {v : AV} {x : Operand} (h : ∀ d, dst = some d -> x ≠ .tmp d) : opv C (updo env dst v) x = opv C env x := by
 cases dst with
 | none => rfl
 | some d =>
  cases x with
  | tmp t =>
   have hne : t ≠ d := fun e => h d rfl (by rw [e])
   simp [opv, updo, upd, hne]
  | _ => rfl
theorem Z0I (env : Nat -> AV) {x y : Option Tmp} (v u : AV) (h : ∀ d, x = some d -> y ≠ some d) : updo (updo env x v) y u = updo (updo env y u) x v := by
 cases x with
 | none => rfl
 | some d =>
  cases y with
  | none => rfl
  | some e =>
   have hne : d ≠ e := fun he => h d rfl (he ▸ rfl)
   funext t
   simp only [updo, upd]
   by_cases h1 : t = e <;> by_cases h2 : t = d <;> simp_all
theorem X3B {C : Cx} {env env' : Nat -> AV} (ps : Array (Nat × Operand)) (h : ∀ x ∈ (ps.toList.map (·.2)).toArray, opv C env' x = opv C env x) : (ps.toList.map fun p => (p.1, opv C env' p.2)) = (ps.toList.map fun p => (p.1, opv C env p.2)) :=
 List.map_congr_left fun p hp => by rw [h p.2 (by simpa using ⟨p.1, by simpa using hp⟩)]
theorem X2m {C : Cx} {env env' : Nat -> AV} (ags : Array Operand) (h : ∀ x ∈ ags, opv C env' x = opv C env x) : ags.toList.map (opv C env') = ags.toList.map (opv C env) :=
 List.map_congr_left fun x hx => h x (by simpa using hx)
theorem X4b {C : Cx} {al : Nat × Nat} {op : Op} {env env' : Nat -> AV} {σ : Sto} (h : ∀ x ∈ op.operands, opv C env' x = opv C env x) : fop C al op env' σ = fop C al op env σ := by
 cases op <;> simp only [Op.operands] at h <;> simp only [fop]
 case build t ps => rw [X3B ps h]
 case buildSlice t n ps => rw [X3B ps h]
 case makeFunc fn first captured => rw [X2m first fun x hx => h x (by simp [hx]), X2m captured fun x hx => h x (by simp [hx])]
 case call c =>
  have hargs := X2m c.args fun x hx => h x (by simp [Call.operands, hx])
  rw [hargs]
 case slice t x lo hi mx =>
  have h0 := h x (by simp);have h1 : lo.map (opv C env') = lo.map (opv C env) := by cases lo <;> simp_all
  have h2 : hi.map (opv C env') = hi.map (opv C env) := by cases hi <;> simp_all
  have h3 : mx.map (opv C env') = mx.map (opv C env) := by cases mx <;> simp_all
  rw [h0, h1, h2, h3]
 all_goals (first | rfl | (simp_all; done))
theorem Y7i {C : Cx} {ty : Option E} {op : Op} {env env' : Nat -> AV} {σ : Sto} {nx : Nat} (h : ∀ x ∈ op.operands, opv C env' x = opv C env x) : eop0 C ty op env' σ nx = eop0 C ty op env σ nx := by
 by_cases hs : ∃ t x lo hi mx, op = .slice t x lo hi mx
 ·obtain ⟨t, x, lo, hi, mx, rfl⟩ := hs;have h0 := h x (by simp [Op.operands]);have h1 : lo.map (opv C env') = lo.map (opv C env) := by cases lo <;> simp_all [Op.operands]
  have h2 : hi.map (opv C env') = hi.map (opv C env) := by cases hi <;> simp_all [Op.operands]
  cases mx with
  | none => show X5s C.P t σ nx (opv C env' x) (lo.map (opv C env')) (hi.map (opv C env')) = X5s C.P t σ nx (opv C env x) (lo.map (opv C env)) (hi.map (opv C env)); rw [h0, h1, h2]
  | some k => rfl
 cases op <;> simp only [Op.operands] at h <;> (try simp only [eop0])
 case slice t x lo hi mx => exact absurd ⟨t, x, lo, hi, mx, rfl⟩ hs
 case buildSlice t n ps => rw [X3B ps h]
 case call c =>
  have hargs := X2m c.args fun x hx => h x (by simp [Call.operands, hx])
  rw [hargs]
 case store T a x => rw [h a (by simp), h x (by simp)]
 case next x b => cases b <;> first | rfl | (simp only [h x (by simp)])
 all_goals (first | rfl | (simp_all; done))
theorem Z0u {C : Cx} {e : E} {pe : Bool} {op : Op} {env env' : Nat -> AV} {σ : Sto} {nx : Nat} (h : ∀ x ∈ op.operands, opv C env' x = opv C env x) : sop C e pe op env' σ nx = sop C e pe op env σ nx := by
 by_cases hs : ∃ t x lo hi mx, op = .slice t x lo hi mx
 ·obtain ⟨t, x, lo, hi, mx, rfl⟩ := hs;have h0 := h x (by simp [Op.operands]);have h1 : lo.map (opv C env') = lo.map (opv C env) := by cases lo <;> simp_all [Op.operands]
  have h2 : hi.map (opv C env') = hi.map (opv C env) := by cases hi <;> simp_all [Op.operands]
  cases mx with
  | none => show X7a C.P t σ nx (opv C env' x) (lo.map (opv C env')) (hi.map (opv C env')) = X7a C.P t σ nx (opv C env x) (lo.map (opv C env)) (hi.map (opv C env)); rw [h0, h1, h2]
  | some k => rfl
 cases op <;> simp only [Op.operands] at h <;> (try simp only [sop])
 case slice t x lo hi mx => exact absurd ⟨t, x, lo, hi, mx, rfl⟩ hs
 case buildSlice t n ps => rw [X3B ps h]
 case load T a => rw [h a (by simp)]
 case call c =>
  have hargs := X2m c.args fun x hx => h x (by simp [Call.operands, hx])
  rw [hargs]
theorem X5U {C : Cx} {ty : Option E} {op : Op} {env env' : Nat -> AV} {σ : Sto} {nx : Nat} (h : ∀ x ∈ op.operands, opv C env' x = opv C env x) : eop C ty op env' σ nx = eop C ty op env σ nx := by
 have h0 := Y7i (C := C) (ty := ty) (σ := σ) (nx := nx) h;have h1 := fun e pe => Z0u (C := C) (e := e) (pe := pe) (σ := σ) (nx := nx) h
 cases op with
 | buildSlice t len parts => simp only [eop, h0, h1]
 | load T a => simp only [eop, h1]
 | slice t a lo hi mx => simp only [eop, h0, h1]
 | call c => simp only [eop, h0, h1]
 | _ => exact h0
theorem X1N {C : Cx} {c : Call} {env env' : Nat -> AV} (h : ∀ x ∈ c.operands, opv C env' x = opv C env x) : X2Q C c env' = X2Q C c env := by
 have hargs := X2m c.args fun x hx => h x (by simp [Call.operands, hx])
 unfold X2Q;rw [hargs];cases hc : c.callee with
 | value f => have hf := h f (by simp [Call.operands, hc]); simp only [hf]
 | invoke r m => rfl
 | builtin b => rfl
section
variable {C : Cx} {ops : Array Oper} {H : Hints}
theorem X8m {tot : Bool} {al : Nat × Nat} {o : Oper} {K KP : AV -> Sto -> Nat -> Prop} {env env' : Nat -> AV} {σ : Sto} {nx : Nat} (h : ∀ x ∈ o.op.operands, opv C env' x = opv C env x) : aop C H tot al o K KP ⟨env', σ, nx⟩ ↔ aop C H tot al o K KP ⟨env, σ, nx⟩ := by
 unfold aop;split
 ·simp only [X4b h]
 ·simp only [X5U h]
 ·split
  ·rename_i c hc; rw [X1N (by rw [hc] at h; exact h)]
  rfl
 ·split
  ·rename_i x hx; rw [h x (by rw [hx]; simp [Op.operands])]
  rfl
 rfl
theorem X2w {o : Oper} {dst : Option Tmp} {env : Nat -> AV} {v : AV} (h : ∀ d, dst = some d -> d ∉ o.looksAt ops) : ∀ x ∈ o.op.operands, opv C (updo env dst v) x = opv C env x :=
 fun x hx => Z17 fun d hd hxd => h d hd (by
  subst hxd;exact List.mem_append_left _ (List.mem_filterMap.2 ⟨.tmp d, by simpa using hx, rfl⟩))
theorem X1C {o : Oper} {dst : Option Tmp} {env : Nat -> AV} {v : AV} (h : ∀ d, dst = some d -> d ∉ o.looksAt ops) : X02 ops (updo env dst v) o = X02 ops env o := by
 cases dst with
 | none => rfl
 | some d =>
  unfold X02;cases hg : o.guard with
  | none => rfl
  | some gw =>
   obtain ⟨g, want⟩ := gw;simp only;cases ht : (ops[g]?).bind (·.dst) with
   | none => rfl
   | some t =>
    have hne : t ≠ d := fun e => h d rfl (by subst e; simp [Oper.looksAt, hg, ht])
    simp only [updo, upd, if_neg hne]
theorem Y7c {tot : Bool} {al : Nat × Nat} {o : Oper} {K K' KP KP' : AV -> Sto -> Nat -> Prop} {s : St} (h : aop C H tot al o K KP s) (hk : ∀ v σ nx, (kindOf H o = .fn \/ (kindOf H o = .call /\ X1v H.ac o.dst = false) -> σ = s.σ) -> kindOf H o ≠ .panic -> (kindOf H o = .eff -> eop C (tyOf H.ty o.dst) o.op s.env s.σ s.nx = some (v, σ, nx)) -> K v σ nx -> K' v σ nx) (hp : ∀ v σ nx, KP v σ nx -> KP' v σ nx) : aop C H tot al o K' KP' s := by
 by_cases hf : kindOf H o = .fn
 ·unfold aop at h ⊢;rw [hf] at h ⊢;obtain ⟨v, a, b⟩ := h;exact ⟨v, a, hk _ _ _ (fun _ => rfl) (by rw [hf]; exact Kind.noConfusion) (fun e => by rw [hf] at e; cases e) b⟩
 by_cases hq : kindOf H o = .panic
 ·unfold aop at h ⊢;rw [hq] at h ⊢;simp only at h ⊢;split
  ·rename_i x hx; rw [hx] at h; obtain ⟨t, v, a, b⟩ := h; exact ⟨t, v, a, hp _ _ _ b⟩
  rename_i hx;split at h
  ·rename_i x hx'; exact absurd hx' (hx x)
  exact h
 by_cases hc : kindOf H o = .call /\ X1v H.ac o.dst = false
 ·unfold aop at h ⊢;rw [hc.1] at h ⊢;simp only at h ⊢;split
  ·rename_i c hx;rw [hx] at h;obtain ⟨g, args, hcal, Q, hA, k1, k2, hne, hown⟩ := h;refine ⟨g, args, hcal, Q, hA, fun v σ' nx' hQ => hk v σ' nx' (fun _ => ?_) hq (fun e => by rw [hc.1] at e; cases e) (k1 v σ' nx' hQ), fun v σ' nx' hQ => hp _ _ _ (k2 v σ' nx' hQ), hne, hown⟩;rcases hown with h1 | ⟨_, Q', _, hiff⟩
   ·rw [hc.2] at h1; cases h1
   exact ((hiff _ _ _).1 hQ).2.1
  rename_i hx;split at h
  ·rename_i c hx'; exact absurd hx' (hx c)
  exact h
 by_cases he : kindOf H o = .eff
 ·unfold aop at h ⊢;rw [he] at h ⊢;obtain ⟨v, σ', nx', a, b⟩ := h;exact ⟨v, σ', nx', a, hk _ _ _ (fun e => e.elim (fun e => absurd e hf) (fun e => absurd e hc)) hq (fun _ => a) b⟩
 exact X4D h (fun v σ nx => hk v σ nx (fun e => e.elim (fun e => absurd e hf) (fun e => absurd e hc)) hq (fun e => absurd e he)) hp
def Y7O (H : Hints) (o : Oper) : Bool :=
 match o.op with
 | .load _ _ => X1v H.pl o.dst && !X1v H.cl o.dst
 | _ => true
def Z2o (H : Hints) (o : Oper) : Bool :=
 match o.op with
 | .load _ _ => X1v H.pl o.dst && X1v H.cl o.dst
 | _ => false
def Z2p (H : Hints) (o : Oper) : Bool :=
 match o.op with
 | .load _ _ => (isSE (tyOf H.ty o.dst)).isSome
 | .buildSlice _ _ _ => (isSE (tyOf H.ty o.dst)).isSome
 | .slice _ _ _ _ _ => (isSE (tyOf H.ty o.dst)).isSome
 | .call _ => (isSE (tyOf H.ty o.dst)).isSome
 | _ => false
def totA (P : Program) (o : Oper) : Bool := o.guard.isNone && match o.op with
 | .move _ | .assign _ | .makeFunc _ _ _ => true
 | .makeInterface t _ => conT P t
 | .alloc T => (zeroCells P T).isSome
 | _ => false
def X7b (P : Program) (H : Hints) (tot : Bool) (ops : Array Oper) (x y : Oper) : Bool := x.apart ops y && match kindOf H x, kindOf H y with
 | .fn, .fn => true
 | .fn, .eff => Y7O H x || (Z2o H x && Z2p H y)
 | .fn, .call => Y7O H x || !X1v H.ac y.dst
 | .fn, .panic => true
 | .eff, .fn => Y7O H y || (Z2o H y && Z2p H x)
 | .call, .fn => (Y7O H y || !X1v H.ac x.dst) && (!tot || totA P y)
 | .panic, .fn => totA P y
 | _, _ => false
def fval (C : Cx) (H : Hints) (al : Nat × Nat) (o : Oper) (env : Nat -> AV) (σ : Sto) : Option AV := fop C al o.op env (if X1v H.pl o.dst = true then celP H o.dst σ else σ)
theorem X5V {al : Nat × Nat} {o : Oper} {env : Nat -> AV} {σ σ' : Sto} (h : Y7O H o = true) : fval C H al o env σ' = fval C H al o env σ := by
 unfold fval Y7O at *
 split at h
 ·simp only [Bool.and_eq_true, Bool.not_eq_true'] at h;unfold celP;rw [if_pos h.1, if_pos h.1, h.2, if_neg (by decide), if_neg (by decide)]
 rename_i hne;generalize hop : o.op = op at hne;cases op <;> first | rfl | exact absurd rfl (hne _ _)
def SameC (σ σ' : Sto) : Prop := ∀ p nm T cs, sget σ' p nm = some (.cells T cs) ↔ sget σ p nm = some (.cells T cs)
theorem Z2l {σ : Sto} {p q nm n : Nat} {o : AObj} : sget (σ.set p (n, o)) q nm = if p = q /\ p < σ.length then (if n = nm then some o else none) else sget σ q nm := by
 unfold sget;rw [List.getElem?_set]
 by_cases h : p = q
 ·subst h
  by_cases hl : p < σ.length
  ·simp [hl]
  rw [if_pos rfl, if_neg hl, if_neg (by simp [hl]), List.getElem?_eq_none (by omega)]
 rw [if_neg h, if_neg (by simp [h])]
def Y43 : AObj -> Bool
 | .cells _ _ => false
 | _ => true
theorem SameC.set {σ : Sto} {p n n' : Nat} {o o' : AObj} (hp : σ[p]? = some (n', o')) (h : Y43 o = true) (h' : Y43 o' = true) : SameC σ (σ.set p (n, o)) := fun q nm T cs => by
 rw [Z2l];split
 ·rename_i hq;obtain ⟨rfl, hl⟩ := hq;constructor
  ·intro e;split at e
   ·cases e; cases h
   cases e
  intro e;have := X0j e;rw [hp] at this; cases this; cases h'
 exact Iff.rfl
theorem SameC.app {σ : Sto} {n : Nat} {o : AObj} (h : Y43 o = true) : SameC σ (σ ++ [(n, o)]) := fun q nm T cs => by
 unfold sget;rcases Nat.lt_trichotomy q σ.length with hq | hq | hq
 ·rw [List.getElem?_append_left hq]
 ·subst hq;rw [List.getElem?_append_right (Nat.le_refl _), List.getElem?_eq_none (Nat.le_refl _)];simp only [Nat.sub_self, List.getElem?_cons_zero];constructor
  ·intro e;split at e
   ·cases e; cases h
   cases e
  intro e; cases e
 rw [List.getElem?_eq_none (by simp; omega), List.getElem?_eq_none (by omega)]
theorem SameC.trans {a b c : Sto} (h : SameC a b) (k : SameC b c) : SameC a c := fun p nm T cs => (k p nm T cs).trans (h p nm T cs)
theorem Y5e {P : Program} {T : TypeId} {σ σ' : Sto} (h : SameC σ σ') (a : AV) : X1K P T (celS σ') a = X1K P T (celS σ) a := by
 have key : ∀ (σ : Sto) p nm T cs, sget (celS σ) p nm = some (.cells T cs) ↔ sget σ p nm = some (.cells T cs) := fun σ p nm T cs => by
  constructor
  ·intro e;rcases X3r e with ⟨_, _, h1, h2⟩ | h1
   ·exact h2
   cases h1
  intro e;have := X0j e;unfold sget celS;rw [List.getElem?_map, this];simp [celO]
 cases a with
 | ref p n off =>
  simp only [X1K];cases hs : sget (celS σ) p n with
  | none =>
   cases hs' : sget (celS σ') p n with
   | none => rfl
   | some o =>
    rcases X3r hs' with ⟨T', cs, rfl, h2⟩ | rfl
    ·rw [(key σ p n T' cs).2 ((h p n T' cs).1 h2)] at hs; cases hs
    rfl
  | some o =>
   rcases X3r hs with ⟨T', cs, rfl, h2⟩ | rfl
   ·rw [(key σ' p n T' cs).2 ((h p n T' cs).2 h2)]
   cases hs' : sget (celS σ') p n with
   | none => rfl
   | some o =>
    rcases X3r hs' with ⟨T', cs, rfl, h2⟩ | rfl
    ·rw [(key σ p n T' cs).2 ((h p n T' cs).1 h2)] at hs; cases hs
    rfl
 | eref p n i off =>
  have no : ∀ (σ : Sto), (X1K P T (celS σ) (.eref p n i off)) = none := fun σ => by
   simp only [X1K];cases hs : sget (celS σ) p n with
   | none => rfl
   | some o => rcases X3r hs with ⟨T', cs, rfl, h2⟩ | rfl <;> rfl
  rw [no, no]
 | _ => rfl
theorem Z0v {C : Cx} {e : E} {pe : Bool} {op : Op} {env : Nat -> AV} {σ σ' : Sto} {nx nx' : Nat} {x : AV} (h : sop C e pe op env σ nx = some (x, σ', nx')) : SameC σ σ' := by
 unfold sop at h;split at h
 ·unfold Y3M at h;split at h
  ·split at h
   ·split at h
    ·split at h
     ·split at h
      ·cases h; exact .app rfl
      cases h
     cases h
    cases h
   cases h
  cases h
 ·unfold Y7Q at h;split at h
  ·split at h
   ·rename_i hs;split at h
    ·cases h; exact (SameC.set (X0j hs) rfl rfl).trans (.app rfl)
    cases h
   cases h
  cases h
 ·unfold X7a at h;split at h
  ·split at h
   ·rename_i hs;split at h
    ·cases h; exact .set (X0j hs) rfl rfl
    cases h
   cases h
  cases h
 ·split at h
  ·unfold X5t at h;split at h
   ·split at h
    ·rename_i hs;split at h
     ·split at h
      ·cases h; exact .set (X0j hs) rfl rfl
      cases h
     cases h
    ·rename_i hs;split at h
     ·rename_i hps _ _;split at h
      ·rename_i hc;cases h;exact (SameC.set hps rfl rfl).trans (.set ((List.getElem?_set_ne hc.2.2.2.2.1).trans (X0j hs)) rfl rfl)
      cases h
     cases h
    cases h
   cases h
  cases h
 cases h
theorem X9a {C : Cx} {H : Hints} {o : Oper} {env : Nat -> AV} {σ σ' : Sto} {nx nx' : Nat} {x : AV} (ho : Z2p H o = true) (h : eop C (tyOf H.ty o.dst) o.op env σ nx = some (x, σ', nx')) : SameC σ σ' := by
 unfold Z2p at ho;split at ho
 all_goals first
  | (rename_i hop
     rw [hop] at h;obtain ⟨e, he⟩ := Option.isSome_iff_exists.1 ho;simp only [eop, he] at h;exact Z0v h)
  | cases ho
theorem Y0i {al : Nat × Nat} {o : Oper} {env : Nat -> AV} {σ σ' : Sto} (h : Z2o H o = true) (hs : SameC σ σ') : fval C H al o env σ' = fval C H al o env σ := by
 unfold Z2o at h;split at h
 ·rename_i T a hop;simp only [Bool.and_eq_true] at h;unfold fval celP;rw [if_pos h.1, if_pos h.1, if_pos h.2, if_pos h.2, hop];exact Y5e hs _
 cases h
theorem Y0J {al : Nat × Nat} {o : Oper} {env : Nat -> AV} {σ : Sto} (h : totA C.P o = true) : X02 ops env o = some true /\ ∃ u, fval C H al o env σ = some u := by
 unfold totA at h;simp only [Bool.and_eq_true, Option.isNone_iff_eq_none] at h;obtain ⟨hg, h⟩ := h;refine ⟨by unfold X02; rw [hg], ?_⟩;unfold fval;split at h
 ·rename_i x hx; rw [hx]; exact ⟨_, rfl⟩
 ·rename_i x hx; rw [hx]; exact ⟨_, rfl⟩
 ·rename_i f a b hx; rw [hx]; exact ⟨_, rfl⟩
 ·rename_i t x hx; rw [hx]; simp only [fop]; rw [if_pos h]; exact ⟨_, rfl⟩
 ·rename_i T hx;rw [hx];obtain ⟨z, hz⟩ := Option.isSome_iff_exists.1 h;simp only [fop, hz];exact ⟨_, rfl⟩
 cases h
variable {tt : Nat -> Bool} {p₀ n₀ : Nat}
theorem X1q {i : Nat} {K K' : St -> Prop} {KP : AV -> Sto -> Nat -> Prop} {s : St} (hk : ∀ s, K s -> K' s) (h : X33 C H tt ops p₀ n₀ i K KP s) : X33 C H tt ops p₀ n₀ i K' KP s := by
 unfold X33 at *
 split
 ·rename_i e; rw [e] at h; exact hk _ h
 rename_i o e; rw [e] at h; obtain ⟨t, a, b, c⟩ := h; exact ⟨t, a, fun ht => X4D (b ht) (fun _ _ _ => hk _) (fun _ _ _ h => h), fun ht => hk _ (c ht)⟩
theorem X34 {tot : Bool} {al : Nat × Nat} {o : Oper} {K KP : AV -> Sto -> Nat -> Prop} {s : St} (h : kindOf H o = .fn) : aop C H tot al o K KP s ↔ ∃ v, fval C H al o s.env s.σ = some v /\ K v s.σ s.nx := by unfold aop fval; rw [h]
theorem Y1p {tot : Bool} {al : Nat × Nat} {o : Oper} {K KP : AV -> Sto -> Nat -> Prop} {s : St} (h : kindOf H o = .eff) : aop C H tot al o K KP s ↔ ∃ v σ' nx', eop C (tyOf H.ty o.dst) o.op s.env s.σ s.nx = some (v, σ', nx') /\ K v σ' nx' := by unfold aop; rw [h]
theorem X7y {tot : Bool} {al : Nat × Nat} {o : Oper} {K KP : AV -> Sto -> Nat -> Prop} {s : St} {c : Call} (h : kindOf H o = .call) (hc : o.op = .call c) : aop C H tot al o K KP s ↔ ∃ g args, X2Q C c s.env = some (g, args) /\ CallP C (X1v H.ac o.dst) tot g args s.σ s.nx K KP := by unfold aop; rw [h, hc]
theorem Z3S {o : Oper} (h : kindOf H o = .call) : ∃ c, o.op = .call c := by
 unfold kindOf at h;cases hop : o.op <;> simp only [hop] at h <;> first | exact ⟨_, rfl⟩ | (cases h; done) | (split at h <;> cases h)
theorem Z18 {o : Oper} (h : kindOf H o = .panic) : ∃ x, o.op = .panic x := by
 unfold kindOf at h;cases hop : o.op <;> simp only [hop] at h <;> first | exact ⟨_, rfl⟩ | (cases h; done) | (split at h <;> cases h)
theorem Z7e {i j : Nat} {oi oj : Oper} {K : St -> Prop} {KP : AV -> Sto -> Nat -> Prop} {s : St} (hi : ops[i]? = some oi) (hj : ops[j]? = some oj) (hs : X7b C.P H (tt i) ops oi oj = true)
  (h : X33 C H tt ops p₀ n₀ i (X33 C H tt ops p₀ n₀ j K KP) KP s) : X33 C H tt ops p₀ n₀ j (X33 C H tt ops p₀ n₀ i K KP) KP s := by
 unfold X7b at hs;simp only [Bool.and_eq_true] at hs;obtain ⟨hap, hkk⟩ := hs;obtain ⟨q1, q2, q3⟩ := Oper.apart_spec hap;obtain ⟨env, σ, nx⟩ := s;simp only [X33, hi, hj] at h ⊢;obtain ⟨ti, wi, h1, h2⟩ := h;have wi' : ∀ u, X02 ops (updo env oj.dst u) oi = some ti := fun u => by rw [X1C q3]; exact wi
 have cm : ∀ v u, updo (updo env oj.dst u) oi.dst v = updo (updo env oi.dst v) oj.dst u := fun v u => (Z0I env v u q2).symm
 have fj : ∀ (al : Nat × Nat) v σ', fval C H al oj (updo env oi.dst v) σ' = fval C H al oj env σ' := fun al v σ' => X4b (X2w q1)
 have fi : ∀ (al : Nat × Nat) v σ', fval C H al oi (updo env oj.dst v) σ' = fval C H al oi env σ' := fun al v σ' => X4b (X2w q3)
 cases ti with
 | false =>
  obtain ⟨tj, wj, b1, b2⟩ := h2 rfl;rw [X1C q1] at wj;refine ⟨tj, wj, fun ht => ?_, fun ht => ⟨false, wi' _, fun e => (by cases e), fun _ => ?_⟩⟩
  ·have hb := (X8m (X2w q1)).1 (b1 ht);refine X4D hb (fun u σ' nx' hK => ⟨false, wi' _, fun e => (by cases e), fun _ => ?_⟩) (fun _ _ _ h => h);simp only [cm]; exact hK
  simp only [cm]; exact b2 ht
 | true =>
  have h1 := h1 rfl;cases hki : kindOf H oi with
  | fn =>
   rw [X34 hki] at h1;obtain ⟨v, hv, tj, wj, b1, b2⟩ := h1;rw [X1C q1] at wj;refine ⟨tj, wj, fun ht => ?_, fun ht => ⟨true, wi' _, fun _ => (X34 hki).2 ⟨v, (fi _ _ _).trans hv, ?_⟩, fun e => (by cases e)⟩⟩
   ·have hb := (X8m (X2w q1)).1 (b1 ht);refine Y7c hb (fun u σ' nx' hσ hnp heo hK => ⟨true, wi' _, fun _ => (X34 hki).2 ⟨v, (fi _ _ _).trans ?_, ?_⟩, fun e => (by cases e)⟩) (fun _ _ _ h => h)
    ·cases hkj : kindOf H oj with
     | fn => have := hσ (.inl hkj); simp only at this; subst this; exact hv
     | eff =>
      simp only [hki, hkj, Bool.or_eq_true, Bool.and_eq_true] at hkk;rcases hkk with hkk | hkk
      ·exact (X5V hkk).trans hv
      exact (Y0i hkk.1 (X9a hkk.2 (heo hkj))).trans hv
     | call =>
      simp only [hki, hkj, Bool.or_eq_true, Bool.not_eq_true'] at hkk;rcases hkk with hkk | hkk
      ·exact (X5V hkk).trans hv
      have := hσ (.inr ⟨hkj, hkk⟩); simp only at this; subst this; exact hv
     | panic => exact absurd hkj hnp
     | bad => simp only [hki, hkj] at hkk; cases hkk
    simp only [cm]; exact hK
   simp only [cm]; exact b2 ht
  | eff =>
   cases hkj : kindOf H oj with
   | fn =>
    simp only [hki, hkj] at hkk;rw [Y1p hki] at h1;obtain ⟨v, σ', nx', hv, tj, wj, b1, b2⟩ := h1;rw [X1C q1] at wj;have hv' : ∀ u, eop C (tyOf H.ty oi.dst) oi.op (updo env oj.dst u) σ nx = some (v, σ', nx') := fun u => (X5U (X2w q3)).trans hv
    refine ⟨tj, wj, fun ht => (X34 hkj).2 ?_, fun ht => ⟨true, wi' _, fun _ => (Y1p hki).2 ⟨v, σ', nx', hv' _, ?_⟩, fun e => (by cases e)⟩⟩
    ·obtain ⟨u, hu, hK⟩ := (X34 hkj).1 (b1 ht);refine ⟨u, ?_, true, wi' _, fun _ => (Y1p hki).2 ⟨v, σ', nx', hv' _, ?_⟩, fun e => (by cases e)⟩
     ·rw [<- hu, fj];simp only [Bool.or_eq_true, Bool.and_eq_true] at hkk;rcases hkk with hkk | hkk
      ·exact (X5V hkk).symm
      exact (Y0i hkk.1 (X9a hkk.2 hv)).symm
     simp only [cm]; exact hK
    simp only [cm]; exact b2 ht
   | _ => simp only [hki, hkj] at hkk; cases hkk
  | call =>
   cases hkj : kindOf H oj with
   | fn =>
    simp only [hki, hkj, Bool.and_eq_true, Bool.or_eq_true, Bool.not_eq_true'] at hkk;obtain ⟨hst', htot⟩ := hkk;obtain ⟨c, hc⟩ := Z3S hki;rw [X7y hki hc] at h1;obtain ⟨g, args, hcal, Qc, hAC, k1, k2, hne, hown⟩ := h1;have hst : ∀ {al : Nat × Nat} {σ' : Sto} {nx' : Nat} {o : AOut}, Qc o σ' nx' -> fval C H al oj env σ' = fval C H al oj env σ := by
     intro al σ' nx' o hQ;rcases hst' with h | h
     ·exact X5V h
     rcases hown with h1 | ⟨_, Q', _, hiff⟩
     ·rw [h] at h1; cases h1
     rw [((hiff _ _ _).1 hQ).2.1]
    have hcal' : ∀ u, X2Q C c (updo env oj.dst u) = some (g, args) := fun u => (X1N (by have := X2w (C := C) (env := env) (v := u) q3; rw [hc] at this; exact this)).trans hcal
    have key : ∃ tj, X02 ops env oj = some tj /\ (tj = true -> ∃ u, fval C H (p₀ + rk ops.toList j, n₀ + rk ops.toList j) oj env σ = some u) := by
     rcases hne with ht | ⟨v0, σ0, nx0, hq⟩
     ·simp only [ht] at htot
      replace htot : totA C.P oj = true := htot.elim (fun h => by cases h) id
      obtain ⟨a, b⟩ := Y0J (C := C) (H := H) (ops := ops) (al := (p₀ + rk ops.toList j, n₀ + rk ops.toList j)) (env := env) (σ := σ) htot;exact ⟨true, a, fun _ => b⟩
     obtain ⟨tj, wj, b1, b2⟩ := k1 _ _ _ hq;rw [X1C q1] at wj;refine ⟨tj, wj, fun ht => ?_⟩;obtain ⟨u, hu, _⟩ := (X34 hkj).1 (b1 ht);exact ⟨u, by rw [<- hu, fj]; exact (hst hq).symm⟩
    obtain ⟨tj, wj, hval⟩ := key;refine ⟨tj, wj, fun ht => (X34 hkj).2 ?_, fun ht => ⟨true, wi' _, fun _ => (X7y hki hc).2 ⟨g, args, hcal' _, Qc, hAC, fun v σ' nx' hq => ?_, k2, hne, hown⟩, fun e => (by cases e)⟩⟩
    ·obtain ⟨u, hu⟩ := hval ht;refine ⟨u, hu, true, wi' _, fun _ => (X7y hki hc).2 ⟨g, args, hcal' _, Qc, hAC, fun v σ' nx' hq => ?_, k2, hne, hown⟩, fun e => (by cases e)⟩;obtain ⟨tj', wj', b1, b2⟩ := k1 _ _ _ hq;rw [X1C q1, wj] at wj';cases wj';obtain ⟨u', hu', hK⟩ := (X34 hkj).1 (b1 ht);rw [fj, hst hq, hu] at hu';cases hu';simp only [cm]; exact hK
    obtain ⟨tj', wj', b1, b2⟩ := k1 _ _ _ hq;rw [X1C q1, wj] at wj';cases wj';simp only [cm]; exact b2 ht
   | _ => simp only [hki, hkj] at hkk; cases hkk
  | panic =>
   cases hkj : kindOf H oj with
   | fn =>
    simp only [hki, hkj] at hkk;obtain ⟨x, hx⟩ := Z18 hki;obtain ⟨wj, u, hu⟩ := Y0J (C := C) (H := H) (ops := ops) (al := (p₀ + rk ops.toList j, n₀ + rk ops.toList j)) (env := env) (σ := σ) hkk;refine ⟨true, wj, fun _ => (X34 hkj).2 ⟨u, hu, true, wi' _, fun _ => ?_, fun e => (by cases e)⟩, fun e => (by cases e)⟩;rw [X8m (X2w q3)];unfold aop at h1 ⊢;rw [hki, hx] at h1 ⊢;exact h1
   | _ => simp only [hki, hkj] at hkk; cases hkk
  | bad => simp only [hki] at hkk; cases hkk
def aAny (C : Cx) (H : Hints) (tt : Nat -> Bool) (ops : Array Oper) (p₀ n₀ : Nat) (K : St -> Prop) (KP : AV -> Sto -> Nat -> Prop) : Nat -> Array Bool -> St -> Prop
 | 0, listed, s => Region.ready .any ops listed = [] /\ K s
 | fuel + 1, listed, s => (Region.ready .any ops listed = [] -> K s) /\ ∀ i ∈ Region.ready .any ops listed, X33 C H tt ops p₀ n₀ i (aAny C H tt ops p₀ n₀ K KP fuel (listed.setIfInBounds i true)) KP s
def Closed (ops : Array Oper) (listed : Array Bool) : Prop := ∀ j o, ops[j]? = some o -> listed.getD j true = true -> ∀ e ∈ o.after, Region.binds .any e = true -> listed.getD e.on false = true
theorem Closed.ready {listed : Array Bool} {i : Nat} (h : Closed ops listed) (hi : i ∈ Region.ready .any ops listed) : Closed ops (listed.setIfInBounds i true) := by
 intro j o ho hl e he hb
 by_cases hij : i = j
 ·subst hij;obtain ⟨_, o', ho', hall⟩ := mem_ready.1 hi;rw [ho] at ho'; cases ho';exact getD_set_true (hall e he hb)
 rw [getD_set_ne true hij] at hl;exact getD_set_true (h j o ho hl e he hb)
def X4s (ops : Array Oper) (ms : List Nat) : Bool := (List.range ops.size).all fun j => match ops[j]? with
 | some o => (List.range j).all fun b => !(ms.getD j 0).testBit b || o.after.any fun e => Region.binds .any e && (e.on == b || (decide (e.on < j) && decide (b < e.on) && (ms.getD e.on 0).testBit b))
 | none => true
theorem X4U {ms : List Nat} (hw : X4s ops ms = true) {listed : Array Bool} (hc : Closed ops listed) : ∀ (j : Nat) (o : Oper), ops[j]? = some o -> (∀ e ∈ o.after, Region.binds .any e = true -> listed.getD e.on false = true) -> ∀ b, b < j -> (ms.getD j 0).testBit b = true -> listed.getD b false = true := by
 intro j
 induction j using Nat.strongRecOn with
 | _ j ih =>
  intro o ho hall b hb hbit;have hlt : j < ops.size := (Array.getElem?_eq_some_iff.1 ho).1;have h1 := List.all_eq_true.1 hw j (List.mem_range.2 hlt);rw [ho] at h1;simp only at h1;have h2 := List.all_eq_true.1 h1 b (List.mem_range.2 hb);rw [hbit] at h2;simp only [Bool.not_true, Bool.false_or, Array.any_eq_true'] at h2;obtain ⟨e, he, h3⟩ := h2;simp only [Bool.and_eq_true, Bool.or_eq_true, beq_iff_eq, decide_eq_true_eq] at h3;obtain ⟨hbi, h4⟩ := h3;have hl := hall e he hbi;rcases h4 with rfl | ⟨⟨hlt', hbe⟩, hbit'⟩
  ·exact hl
  have hon : e.on < ops.size := Nat.lt_trans hlt' hlt;have ho' : ops[e.on]? = some ops[e.on] := Array.getElem?_eq_getElem hon;refine ih e.on hlt' _ ho' (fun e' he' hb' => hc e.on _ ho' ?_ e' he' hb') b hbe hbit';rw [Array.getD_eq_getD_getElem?] at hl ⊢;cases hq : listed[e.on]? with
  | none => rfl
  | some q => rw [hq] at hl; exact hl
def Y25 (P : Program) (H : Hints) (tt : Nat -> Bool) (ops : Array Oper) (ms : List Nat) : Bool := X4s ops ms && (List.range ops.size).all fun j => match ops[j]? with
 | some oj => oj.after.all (fun e => !Region.binds .any e || decide (e.on < j)) && (List.range j).all fun i => (ms.getD j 0).testBit i || match ops[i]? with
  | some oi => X7b P H (tt i) ops oi oj
  | none => true
 | none => true
theorem X5o : ∀ (r k : Nat) (L : List Nat), L.Nodup -> (∀ x ∈ L, k <= x /\ x < k + r) -> L.length <= r
 | 0, k, L, _, h => by
  cases L with
  | nil => simp
  | cons x _ => have := h x (by simp); omega
 | r + 1, k, L, hn, h => by
  by_cases hm : k + r ∈ L
  ·have h1 := X5o r k (L.erase (k + r)) (hn.erase _) (fun x hx => by
    have h2 := h x (List.mem_of_mem_erase hx);have h3 : x ≠ k + r := (hn.mem_erase_iff.1 hx).1;omega)
   rw [List.length_erase_of_mem hm] at h1;omega
  have h1 := X5o r k L hn (fun x hx => by
   have h2 := h x hx;have h3 : x ≠ k + r := fun e => hm (e ▸ hx)
   omega)
  omega
theorem X6p {K : St -> Prop} {KP : AV -> Sto -> Nat -> Prop} {i : Nat} {oi : Oper} (hi : ops[i]? = some oi) : ∀ (fuel : Nat) (listed : Array Bool) (s : St),
  (∀ (l' : Array Bool) j oj, Closed ops l' -> (∀ k, listed.getD k true = true -> l'.getD k true = true) -> ops[j]? = some oj -> j ≠ i -> l'.getD i true = false -> j ∈ Region.ready .any ops l' -> X7b C.P H (tt i) ops oi oj = true) ->
  (∀ L : List Nat, L.Nodup -> (∀ j ∈ L, listed.getD j true = false) -> L.length <= fuel + 1) ->
  Closed ops listed -> i ∈ Region.ready .any ops listed -> X33 C H tt ops p₀ n₀ i (aAny C H tt ops p₀ n₀ K KP fuel (listed.setIfInBounds i true)) KP s -> aAny C H tt ops p₀ n₀ K KP (fuel + 1) listed s := by
 intro fuel
 induction fuel with
 | zero =>
  intro listed s hsw hfu hc hr h;refine ⟨fun e => (by rw [e] at hr; cases hr), fun j hj => ?_⟩
  by_cases hji : j = i
  ·subst hji; exact h
  have := hfu [i, j] (by simp [Ne.symm hji]) (fun k hk => by
   simp only [List.mem_cons, List.mem_nil_iff, or_false] at hk;rcases hk with rfl | rfl
   ·exact (mem_ready.1 hr).1
   exact (mem_ready.1 hj).1)
  simp at this
 | succ fuel ih =>
  intro listed s hsw hfu hc hr h;refine ⟨fun e => (by rw [e] at hr; cases hr), fun j hj => ?_⟩
  by_cases hji : j = i
  ·subst hji; exact h
  obtain ⟨_, oj, hoj, _⟩ := mem_ready.1 hj;have hs := hsw listed j oj hc (fun _ h => h) hoj hji (mem_ready.1 hr).1 hj;have h1 := Z7e hi hoj hs (X1q (fun s' hK => hK.2 j (ready_mono hj hji)) h);refine X1q (fun s' h2 => ?_) h1;refine ih (listed.setIfInBounds j true) s' (fun l' k ok hc' hsub hk hki hun hrd => hsw l' k ok hc' (fun q hq => hsub q ?_) hk hki hun hrd) (fun L hL hLu => ?_) (hc.ready hj) (ready_mono hr (Ne.symm hji)) ?_
  ·by_cases hjq : j = q
   ·subst hjq;have hlt : j < ops.size := (Array.getElem?_eq_some_iff.1 hoj).1
    by_cases hb : j < listed.size
    ·simp [hb]
    simp [Array.getElem?_eq_none (Nat.le_of_not_lt hb), hb]
   rw [getD_set_ne true hjq]; exact hq
  ·have hjL : j ∉ L := fun hm => by
    have := hLu j hm
    by_cases hb : j < listed.size
    ·simp [hb] at this
    simp [Array.getElem?_eq_none (Nat.le_of_not_lt hb), hb] at this
   have := hfu (j :: L) (List.nodup_cons.2 ⟨hjL, hL⟩) (fun k hk => by
    rcases List.mem_cons.1 hk with rfl | hk
    ·exact (mem_ready.1 hj).1
    have hne : j ≠ k := fun e => hjL (e ▸ hk)
    have := hLu k hk;rw [getD_set_ne true hne] at this;exact this)
   simp at this;omega
  rw [Array.setIfInBounds_comm _ _ hji]; exact h2
def X1F (n k : Nat) : Array Bool := Array.ofFn (n := n) fun i => decide (i.val < k)
theorem X1d (n k j : Nat) (d : Bool) : (X1F n k).getD j d = if j < n then decide (j < k) else d := by
 rw [Array.getD_eq_getD_getElem?];unfold X1F
 by_cases h : j < n <;> simp [h]
theorem Y7m (n k : Nat) : (X1F n k).setIfInBounds k true = X1F n (k + 1) := by
 apply Array.ext
 ·simp [X1F]
 intro i h1 h2;have e1 : ((X1F n k).setIfInBounds k true)[i] = ((X1F n k).setIfInBounds k true).getD i false := by simp [Array.getD_eq_getD_getElem?, Array.getElem?_eq_getElem h1]
 have e2 : (X1F n (k + 1))[i] = (X1F n (k + 1)).getD i false := by simp [Array.getD_eq_getD_getElem?, Array.getElem?_eq_getElem h2]
 have hin : i < n := by simpa [X1F] using h2
 rw [e1, e2, X1d, if_pos hin]
 by_cases hk : k = i
 ·subst hk;have : k < (X1F n k).size := by simpa [X1F] using hin
  simp [Array.getD_eq_getD_getElem?, this]
 rw [getD_set_ne false hk, X1d, if_pos hin];have : (i < k) = (i < k + 1) := by apply propext; omega
 simp only [this]
theorem Y86 {K : St -> Prop} {KP : AV -> Sto -> Nat -> Prop} {ms : List Nat} (hB : Y25 C.P H tt ops ms = true) : ∀ (r k : Nat) (s : St), k + r = ops.size -> aseq C H tt ops p₀ n₀ K KP (List.range' k r) s -> aAny C H tt ops p₀ n₀ K KP r (X1F ops.size k) s := by
 unfold Y25 at hB;rw [Bool.and_eq_true] at hB;obtain ⟨hw, hB⟩ := hB;have hpair : ∀ i j oi oj, i < j -> ops[i]? = some oi -> ops[j]? = some oj -> (∀ e ∈ oj.after, Region.binds .any e = true -> e.on < j) /\ ((ms.getD j 0).testBit i = true \/ X7b C.P H (tt i) ops oi oj = true) := by
  intro i j oi oj hij ho hoj;have h1 := List.all_eq_true.1 hB j (List.mem_range.2 (Array.getElem?_eq_some_iff.1 hoj).1);simp only [hoj, Bool.and_eq_true] at h1;have h2 := List.all_eq_true.1 h1.2 i (List.mem_range.2 hij);simp only [ho, Bool.or_eq_true] at h2;refine ⟨fun e he hb => ?_, h2⟩;have := Array.all_eq_true_iff_forall_mem.1 h1.1 e he;simpa [hb] using this
 have hback : ∀ j oj, ops[j]? = some oj -> ∀ e ∈ oj.after, Region.binds .any e = true -> e.on < j := by
  intro j oj hoj e he hb;have h1 := List.all_eq_true.1 hB j (List.mem_range.2 (Array.getElem?_eq_some_iff.1 hoj).1);simp only [hoj, Bool.and_eq_true] at h1;have := Array.all_eq_true_iff_forall_mem.1 h1.1 e he;simpa [hb] using this
 intro r
 induction r with
 | zero =>
  intro k s hk h;refine ⟨?_, h⟩;cases hr : Region.ready .any ops (X1F ops.size k) with
  | nil => rfl
  | cons j rest =>
   have hj : j ∈ Region.ready .any ops (X1F ops.size k) := by rw [hr]; simp
   obtain ⟨hun, oj, hoj, _⟩ := mem_ready.1 hj;have hlt := (Array.getElem?_eq_some_iff.1 hoj).1;rw [X1d, if_pos hlt] at hun;simp at hun;omega
 | succ r ih =>
  intro k s hk h;have hlt : k < ops.size := by omega
  have hok : ops[k]? = some ops[k] := Array.getElem?_eq_getElem hlt;simp only [List.range'_succ, aseq] at h;have hcl : Closed ops (X1F ops.size k) := by
   intro j o ho hl e he hb;have hj := (Array.getElem?_eq_some_iff.1 ho).1;rw [X1d, if_pos hj] at hl;have := hback j o ho e he hb;rw [X1d, if_pos (by omega)];simp at hl ⊢;omega
  have hrd : k ∈ Region.ready .any ops (X1F ops.size k) := by
   refine mem_ready.2 ⟨by rw [X1d, if_pos hlt]; simp, _, hok, fun e he hb => ?_⟩;have := hback k _ hok e he hb;rw [X1d, if_pos (by omega)];simpa using this
  refine X6p hok r _ s (fun l' j oj hc' hsub hoj hjk hun hj => ?_) (fun L hL hLu => X5o (r + 1) k L hL fun x hx => ?_) hcl hrd ?_
  ·have hjs := (Array.getElem?_eq_some_iff.1 hoj).1;obtain ⟨hjun, oj', hoj', hall⟩ := mem_ready.1 hj;rw [hoj] at hoj'; cases hoj';have hkj : k < j := by
    rcases Nat.lt_or_ge k j with h' | h'
    ·exact h'
    have := hsub j (by rw [X1d, if_pos hjs]; simp; omega);rw [this] at hjun; cases hjun
   rcases (hpair k j _ oj hkj hok hoj).2 with hbit | hsw
   ·have := X4U hw hc' j oj hoj hall k hkj hbit;rw [Array.getD_eq_getD_getElem?] at this hun;cases hq : l'[k]? with
    | none => rw [hq] at hun; cases hun
    | some q => rw [hq] at this hun; simp at this hun; rw [this] at hun; cases hun
   exact hsw
  ·have := hLu x hx;rw [X1d] at this;split at this
   ·simp at this; omega
   cases this
  rw [Y7m];exact X1q (fun s' h' => ih (k + 1) s' (by omega) h') h
end
section
variable {C : Cx} {B : Base} {n : Nat} {ds : List Deferred} {kn₀ : Kn} {m₀ : Mp} {σ₀ : Sto} {nx₀ : Nat} {ops : Array Oper} {p₀ n₀ : Nat}
theorem X4C {H : Hints} {tt : Nat -> Bool} {K : St -> Prop} {KP : AV -> Sto -> Nat -> Prop} (hlt₀ : ∀ (p nm : Nat) (ob : AObj), σ₀[p]? = some (nm, ob) -> nm < nx₀)
  (hd : ∀ (i : Nat) (o : Oper) (d : Nat), ops[i]? = some o -> o.dst = some d -> d < n) {Q : Exit -> Act -> World -> Prop}
  (hend : ∀ s' kn' m' act' w', K s' -> RS C B n ds kn₀ m₀ σ₀ nx₀ kn' m' s' act' w' -> Q .normal act' w')
  (hpan : ∀ v u env' kn' m' σ' nx' act' w', KP v σ' nx' -> Rel kn' m' v u -> RS C B n ds kn₀ m₀ σ₀ nx₀ kn' m' ⟨env', σ', nx'⟩ act' w' -> Q (.panic [{ v := u, recovered := false }]) act' w') :
  ∀ (fuel : Nat) (listed : Array Bool) (s : St) (kn : Kn) (m : Mp) (act : Act) (w : World), RR C B n ds kn₀ m₀ σ₀ nx₀ ops p₀ n₀ (fun j => listed.getD j true) kn m s act w -> aAny C H tt ops p₀ n₀ K KP fuel listed s ->
   wpAny C.P .any ops Q fuel listed act w
 | 0, listed, s, kn, m, act, w, hR, h => ⟨h.1, hend s kn m act w h.2 hR.rs⟩
 | fuel + 1, listed, s, kn, m, act, w, hR, h => by
  refine ⟨fun e => hend s kn m act w (h.1 e) hR.rs, fun i hi => ?_⟩;refine X8l hlt₀ hd hR (mem_ready.1 hi).1 (h.2 i hi) (fun s' kn' m' act' w' hK hR' => ?_) hpan;refine X4C hlt₀ hd hend hpan fuel _ s' kn' m' act' w' ?_ hK;have : lput (fun j => listed.getD j true) i = fun j => (listed.setIfInBounds i true).getD j true := by
   funext j
   unfold lput;split
   ·rename_i e; subst e
    by_cases hb : j < listed.size
    ·simp [hb]
    simp [Array.getElem?_eq_none (Nat.le_of_not_lt hb), hb]
   rename_i e; rw [getD_set_ne true (Ne.symm e)]
  rw [<- this];exact hR'
theorem X7k (n : Nat) : Array.replicate n false = X1F n 0 := by
 apply Array.ext <;> simp [X1F]
theorem Z3J {H : Hints} {tl : List Nat} {ms : List Nat} {id : Nat} {ops : Array Oper} {objs : Sto} {Q : AExit -> St -> Prop} {s : St} (hm : C.P.follows .mixedOrders = true) (hB : Y25 C.P H (fun i => tl.contains i) ops ms = true) (hd : Y1v n ops = true) (ho : X0A C.P ops.toList s.nx = some objs)
  (h : areg C H (fun i => tl.contains i) ops (Q .normal) (fun v σ nx => ∀ env, Q (.pan v) ⟨env, σ, nx⟩) ops.toList 0 (s.σ.length, s.nx) ⟨s.env, s.σ ++ objs, s.nx + objs.length⟩) : aw C n ds (.region id ops true) Q s := by
 intro B kn m act w h1 h2 h3;obtain ⟨hI', hk'⟩ := h3.ahead ho;refine wp_region_any hm ?_;have hs := X2G (ops := ops) (p₀ := s.σ.length) (n₀ := s.nx) ops.toList 0 ⟨s.env, s.σ ++ objs, s.nx + objs.length⟩ (fun j => by simp) (by simpa [rk] using h);have ha := Y86 hB ops.size 0 _ (by simp) (by simpa using hs);rw [X7k]
 refine X4C (KP := fun v σ nx => ∀ env, Q (.pan v) ⟨env, σ, nx⟩) (K := Q .normal) (B := B) (n := n) (ds := ds) (kn₀ := kn) (m₀ := m) (σ₀ := s.σ) (nx₀ := s.nx) h3.lt (X3t hd) (fun s' kn' m' act' w' hK hR => ⟨.normal, s', kn', m', trivial, hR, hK⟩)
  (fun v u env' kn' m' σ' nx' act' w' hKP hv hR => ⟨.pan v, ⟨env', σ', nx'⟩, kn', m', ⟨u, rfl, hv⟩, hR, hKP env'⟩) ops.size (X1F ops.size 0) ⟨s.env, s.σ ++ objs, s.nx + objs.length⟩ kn m act _ ⟨⟨h1, h2, hI'.drew, KnLe.refl _, hk'⟩, ?_⟩ ha
 intro j o T hj hT _;obtain ⟨z, hz, hg⟩ := X1p ho (j := j) (by simpa using hj) hT;refine ⟨h3.dom _ (Nat.le_add_right _ _), ?_, Nat.le_add_right _ _, z, hz, ?_⟩
 ·have := (List.getElem?_eq_some_iff.1 hg).1; simp; omega
 rw [List.getElem?_append_right (Nat.le_add_right _ _), Nat.add_sub_cancel_left]; exact hg
end
end Go.Ab
namespace Go.Ab
open Go Go.RowKit
def setL (n : Nat) (l : List Nat) : Array Bool := Array.ofFn (n := n) fun i => decide (i.val ∈ l)
theorem X0Q (n : Nat) (l : List Nat) (j : Nat) (d : Bool) : (setL n l).getD j d = if j < n then decide (j ∈ l) else d := by
 rw [Array.getD_eq_getD_getElem?];unfold setL
 by_cases h : j < n <;> simp [h]
theorem X7J (n : Nat) (l : List Nat) (k : Nat) : (setL n l).setIfInBounds k true = setL n (l ++ [k]) := by
 apply Array.ext
 ·simp [setL]
 intro i h1 h2;have e1 : ((setL n l).setIfInBounds k true)[i] = ((setL n l).setIfInBounds k true).getD i false := by simp [Array.getD_eq_getD_getElem?, Array.getElem?_eq_getElem h1]
 have e2 : (setL n (l ++ [k]))[i] = (setL n (l ++ [k])).getD i false := by simp [Array.getD_eq_getD_getElem?, Array.getElem?_eq_getElem h2]
 have hin : i < n := by simpa [setL] using h2
 rw [e1, e2, X0Q, if_pos hin]
 by_cases hk : k = i
 ·subst hk;have : k < (setL n l).size := by simpa [setL] using hin
  simp [Array.getD_eq_getD_getElem?, this]
 rw [getD_set_ne false hk, X0Q, if_pos hin];have : (i ∈ l) = (i ∈ l ++ [k]) := by apply propext; simp; exact fun e => absurd e.symm hk
 simp only [this]
theorem Y6B (n : Nat) : Array.replicate n false = setL n [] := by
 apply Array.ext <;> simp [setL]
def cntA (ops : Array Oper) (l : List Nat) : Nat := (l.filter fun i => match ops[i]? with | some o => X0n o.op | none => false).length
def Y3v (P : Program) (H : Hints) (tl : List Nat) (ops : Array Oper) (ms : List Nat) (π : List Nat) : Bool :=
 X4s ops ms && (decide (π.length = ops.size) && ((List.range ops.size).all (fun i => π.contains i) && (List.range π.length).all fun q => match π[q]? with
  | some j => match ops[j]? with
   | some oj => (!(π.take q).contains j && (oj.after.all fun e => !Region.binds .any e || (π.take q).contains e.on)) && ((!X0n oj.op || cntA ops (π.take q) == rk ops.toList j) &&
     (List.range q).all fun p => match π[p]? with
      | some i => (decide (i < j) && (ms.getD j 0).testBit i) || match ops[i]? with
       | some oi => X7b P H (tl.contains p) ops oi oj
       | none => true
      | none => true)
   | none => false
  | none => true))
theorem X9g : ∀ (L A : List Nat), L.Nodup -> (∀ x ∈ L, x ∈ A) -> L.length <= A.length
 | [], A, _, _ => Nat.zero_le _
 | x :: L, A, hn, h => by
  have hx := h x (by simp);have := X9g L (A.erase x) (List.nodup_cons.1 hn).2 (fun y hy => by
   have hne : y ≠ x := fun e => (List.nodup_cons.1 hn).1 (e ▸ hy)
   exact (List.mem_erase_of_ne hne).2 (h y (by simp [hy])))
  rw [List.length_erase_of_mem hx] at this;have : 0 < A.length := List.length_pos_of_mem hx;simp only [List.length_cons]; omega
section
variable {C : Cx} {H : Hints} {ops : Array Oper} {p₀ n₀ : Nat}
structure PermOK (P : Program) (H : Hints) (tl : List Nat) (ops : Array Oper) (ms : List Nat) (π : List Nat) : Prop where
 waits : X4s ops ms = true
 len : π.length = ops.size
 all : ∀ i, i < ops.size -> i ∈ π
 get : ∀ q j, π[q]? = some j -> ∃ oj, ops[j]? = some oj /\ j ∉ π.take q /\ (∀ e ∈ oj.after, Region.binds .any e = true -> e.on ∈ π.take q) /\ (X0n oj.op = true -> cntA ops (π.take q) = rk ops.toList j) /\
  ∀ p i oi, p < q -> π[p]? = some i -> ops[i]? = some oi -> (i < j /\ (ms.getD j 0).testBit i = true) \/ X7b P H (tl.contains p) ops oi oj = true
theorem Y48 {P : Program} {H : Hints} {tl : List Nat} {ops : Array Oper} {ms π : List Nat} (h : Y3v P H tl ops ms π = true) : PermOK P H tl ops ms π := by
 unfold Y3v at h;simp only [Bool.and_eq_true, decide_eq_true_eq] at h;obtain ⟨h1, h2, h3, h4⟩ := h;refine ⟨h1, h2, fun i hi => ?_, fun q j hq => ?_⟩
 ·have := List.all_eq_true.1 h3 i (List.mem_range.2 hi);simpa using this
 have hql : q < π.length := (List.getElem?_eq_some_iff.1 hq).1;have := List.all_eq_true.1 h4 q (List.mem_range.2 hql);rw [hq] at this;simp only at this;split at this
 ·rename_i oj hoj;simp only [Bool.and_eq_true] at this;obtain ⟨⟨a, b⟩, c, d⟩ := this;refine ⟨oj, hoj, by simpa using a, fun e he hb => ?_, fun ha => ?_, fun p i oi hp hpi hoi => ?_⟩
  ·have := Array.all_eq_true_iff_forall_mem.1 b e he;simpa [hb] using this
  ·simpa [ha] using c
  have := List.all_eq_true.1 d p (List.mem_range.2 hp);rw [hpi] at this;simp only [hoi, Bool.or_eq_true, Bool.and_eq_true, decide_eq_true_eq] at this;exact this
 cases this
theorem Y84 {K : St -> Prop} {KP : AV -> Sto -> Nat -> Prop} {tl ms π : List Nat} (hB : PermOK C.P H tl ops ms π) : ∀ (r pre : List Nat) (s : St), π = pre ++ r -> aseq C H (fun i => tl.contains (π.idxOf i)) ops p₀ n₀ K KP r s -> aAny C H (fun i => tl.contains (π.idxOf i)) ops p₀ n₀ K KP r.length (setL ops.size pre) s := by
 intro r
 induction r with
 | nil =>
  intro pre s hp h;refine ⟨?_, h⟩;cases hr : Region.ready .any ops (setL ops.size pre) with
  | nil => rfl
  | cons j rest =>
   have hj : j ∈ Region.ready .any ops (setL ops.size pre) := by rw [hr]; simp
   obtain ⟨hun, oj, hoj, _⟩ := mem_ready.1 hj;have hlt := (Array.getElem?_eq_some_iff.1 hoj).1;rw [X0Q, if_pos hlt] at hun;have := hB.all j hlt;rw [hp, List.append_nil] at this;simp [this] at hun
 | cons k r ih =>
  intro pre s hp h;have hk : π[pre.length]? = some k := by rw [hp]; simp
  obtain ⟨ok, hok, hnk, hek, _, _⟩ := hB.get _ _ hk;have hlt := (Array.getElem?_eq_some_iff.1 hok).1;have htk : π.take pre.length = pre := by rw [hp]; simp
  rw [htk] at hnk hek;simp only [aseq] at h;have hcl : Closed ops (setL ops.size pre) := by
   intro j o ho hl e he hb;have hj := (Array.getElem?_eq_some_iff.1 ho).1;rw [X0Q, if_pos hj] at hl;have hjp : j ∈ pre := by simpa using hl
   obtain ⟨q, hq, hqj⟩ := List.mem_iff_getElem.1 hjp;have hqπ : π[q]? = some j := by rw [hp, List.getElem?_append_left hq, List.getElem?_eq_getElem hq, hqj]
   obtain ⟨oj, hoj, _, hej, _, _⟩ := hB.get _ _ hqπ;rw [ho] at hoj; cases hoj;have hm := hej e he hb;have hm' : e.on ∈ pre := by
    rw [hp, List.take_append_of_le_length (Nat.le_of_lt hq)] at hm;exact List.mem_of_mem_take hm
   have hin : e.on < ops.size := by
    obtain ⟨q', hq', hqe⟩ := List.mem_iff_getElem.1 hm';have hqπ' : π[q']? = some e.on := by rw [hp, List.getElem?_append_left hq', List.getElem?_eq_getElem hq', hqe]
    obtain ⟨oe, hoe, _⟩ := hB.get _ _ hqπ';exact (Array.getElem?_eq_some_iff.1 hoe).1
   rw [X0Q, if_pos hin]; simp [hm']
  have hrd : k ∈ Region.ready .any ops (setL ops.size pre) := by
   refine mem_ready.2 ⟨by rw [X0Q, if_pos hlt]; simp [hnk], _, hok, fun e he hb => ?_⟩;have hm' := hek e he hb;have hin : e.on < ops.size := by
    obtain ⟨q', hq', hqe⟩ := List.mem_iff_getElem.1 hm';have hqπ' : π[q']? = some e.on := by rw [hp, List.getElem?_append_left hq', List.getElem?_eq_getElem hq', hqe]
    obtain ⟨oe, hoe, _⟩ := hB.get _ _ hqπ';exact (Array.getElem?_eq_some_iff.1 hoe).1
   rw [X0Q, if_pos hin]; simp [hm']
  have hidx : π.idxOf k = pre.length := by
   rw [hp, List.idxOf_append, if_neg hnk]; simp
  have rest : ∀ j, j < ops.size -> j ∉ pre -> j ≠ k -> j ∈ r := by
   intro j hj hjp hjk;have := hB.all j hj;rw [hp] at this;rcases List.mem_append.1 this with h | h
   ·exact absurd h hjp
   rcases List.mem_cons.1 h with h | h
   ·exact absurd h hjk
   exact h
  refine X6p hok _ _ s (fun l' j oj hc' hsub hoj hjk hun hj => ?_) (fun L hL hLu => ?_) hcl hrd ?_
  ·have hjs := (Array.getElem?_eq_some_iff.1 hoj).1;obtain ⟨hjun, oj', hoj', hall⟩ := mem_ready.1 hj;rw [hoj] at hoj'; cases hoj';have hjp : j ∉ pre := fun hm => by
    have := hsub j (by rw [X0Q, if_pos hjs]; simp [hm]);rw [this] at hjun; cases hjun
   have hjr := rest j hjs hjp hjk;obtain ⟨q, hq, hqj⟩ := List.mem_iff_getElem.1 hjr;have hqπ : π[pre.length + (q + 1)]? = some j := by
    rw [hp, List.getElem?_append_right (by omega)];simp [hq, hqj]
   obtain ⟨oj', hoj', _, _, _, hpair⟩ := hB.get _ _ hqπ;rw [hoj] at hoj'; cases hoj';rcases hpair pre.length k ok (by omega) hk hok with ⟨hkj, hbit⟩ | hsw
   ·have := X4U hB.waits hc' j oj hoj hall k hkj hbit;rw [Array.getD_eq_getD_getElem?] at this hun;cases hq : l'[k]? with
    | none => rw [hq] at hun; cases hun
    | some q => rw [hq] at this hun; simp at this hun; rw [this] at hun; cases hun
   simp only [hidx]; exact hsw
  ·have := X9g L (k :: r) hL (fun x hx => by
    have := hLu x hx;rw [X0Q] at this;split at this
    ·rename_i hxl
     by_cases hxk : x = k
     ·simp [hxk]
     have hxp : x ∉ pre := by simpa using this
     simp [rest x hxl hxp hxk]
    cases this)
   simpa using this
  rw [X7J];exact X1q (fun s' h' => ih (pre ++ [k]) s' (by rw [hp]; simp) h') h
theorem Z5R {al al' : Nat × Nat} {op : Op} {env : Nat -> AV} {σ : Sto} (h : X0n op = false) : fop C al op env σ = fop C al' op env σ := by
 cases op <;> first | rfl | (simp [X0n] at h)
theorem Z2R {tot : Bool} {al al' : Nat × Nat} {o : Oper} {K KP : AV -> Sto -> Nat -> Prop} {s : St} (h : X0n o.op = false) (hh : aop C H tot al o K KP s) : aop C H tot al' o K KP s := by
 unfold aop at hh ⊢;split
 ·rename_i e; rw [e] at hh; obtain ⟨v, a, b⟩ := hh; exact ⟨v, by rw [Z5R h]; exact a, b⟩
 ·rename_i e; rw [e] at hh; exact hh
 ·rename_i e; rw [e] at hh; exact hh
 ·rename_i e; rw [e] at hh; exact hh
 rename_i e; rw [e] at hh; exact hh
theorem Y20 (ops : Array Oper) (l : List Nat) (k : Nat) (o : Oper) (h : ops[k]? = some o) : cntA ops (l ++ [k]) = cntA ops l + (if X0n o.op = true then 1 else 0) := by
 unfold cntA;rw [List.filter_append, List.length_append]
 congr 1
 rw [List.filter_cons, h];simp only;split <;> simp
theorem X3q {K : St -> Prop} {KP : AV -> Sto -> Nat -> Prop} {tl ms π : List Nat} (hB : PermOK C.P H tl ops ms π) : ∀ (r pre : List Nat) (s : St), π = pre ++ r ->
  areg C H (fun i => tl.contains i) ops K KP (r.filterMap (ops[·]?)) pre.length (p₀ + cntA ops pre, n₀ + cntA ops pre) s -> aseq C H (fun i => tl.contains (π.idxOf i)) ops p₀ n₀ K KP r s
 | [], pre, s, hp, h => h
 | k :: r, pre, s, hp, h => by
  have hk : π[pre.length]? = some k := by rw [hp]; simp
  obtain ⟨ok, hok, hnk, _, hal, _⟩ := hB.get _ _ hk;have htk : π.take pre.length = pre := by rw [hp]; simp
  rw [htk] at hnk hal;have hidx : π.idxOf k = pre.length := by
   rw [hp, List.idxOf_append, if_neg hnk]; simp
  have hcnt := Y20 ops pre k ok hok;have hnext : (if X0n ok.op = true then (p₀ + cntA ops pre + 1, n₀ + cntA ops pre + 1) else (p₀ + cntA ops pre, n₀ + cntA ops pre)) = (p₀ + cntA ops (pre ++ [k]), n₀ + cntA ops (pre ++ [k])) := by
   rw [hcnt]; split <;> simp [Nat.add_assoc]
  simp only [List.filterMap_cons, hok, areg, hnext] at h;simp only [aseq, X33, hok, hidx];obtain ⟨t, a, b, c⟩ := h;have hlen : pre.length + 1 = (pre ++ [k]).length := by simp
  rw [hlen] at b c;refine ⟨t, a, fun ht => ?_, fun ht => X3q hB r (pre ++ [k]) _ (by rw [hp]; simp) (c ht)⟩;have hb := X4D (b ht) (fun v σ nx hh => X3q hB r (pre ++ [k]) _ (by rw [hp]; simp) hh) (fun _ _ _ hh => hh)
  by_cases ha : X0n ok.op = true
  ·rw [<- hal ha]; exact hb
  exact Z2R (by simpa using ha) hb
end
section
variable {C : Cx} {n : Nat} {ds : List Deferred} {Q : AExit -> St -> Prop} {s : St} {id : Nat} {ops : Array Oper} {y : Code} {objs : Sto}
theorem Z1u {H : Hints} {tl ms π : List Nat} {l : List Oper} (hm : C.P.follows .mixedOrders = true) (hB : Y3v C.P H tl ops ms π = true) (hd : Y1v n ops = true) (ho : X0A C.P ops.toList s.nx = some objs) (hl : π.filterMap (ops[·]?) = l)
  (h : areg C H (fun i => tl.contains i) ops (Q .normal) (fun v σ nx => ∀ env, Q (.pan v) ⟨env, σ, nx⟩) l 0 (s.σ.length, s.nx) ⟨s.env, s.σ ++ objs, s.nx + objs.length⟩) : aw C n ds (.region id ops true) Q s := by
 subst hl;have hP := Y48 hB;intro B kn m act w h1 h2 h3;obtain ⟨hI', hk'⟩ := h3.ahead ho;refine wp_region_any hm ?_;have hs := X3q (p₀ := s.σ.length) (n₀ := s.nx) hP π [] ⟨s.env, s.σ ++ objs, s.nx + objs.length⟩ rfl h;have ha := Y84 hP π [] _ rfl hs;rw [hP.len] at ha;rw [Y6B]
 refine X4C (KP := fun v σ nx => ∀ env, Q (.pan v) ⟨env, σ, nx⟩) (K := Q .normal) (B := B) (n := n) (ds := ds) (kn₀ := kn) (m₀ := m) (σ₀ := s.σ) (nx₀ := s.nx) h3.lt (X3t hd) (fun s' kn' m' act' w' hK hR => ⟨.normal, s', kn', m', trivial, hR, hK⟩)
  (fun v u env' kn' m' σ' nx' act' w' hKP hv hR => ⟨.pan v, ⟨env', σ', nx'⟩, kn', m', ⟨u, rfl, hv⟩, hR, hKP env'⟩) ops.size (setL ops.size []) ⟨s.env, s.σ ++ objs, s.nx + objs.length⟩ kn m act _ ⟨⟨h1, h2, hI'.drew, KnLe.refl _, hk'⟩, ?_⟩ ha
 intro j o T hj hT _;obtain ⟨z, hz, hg⟩ := X1p ho (j := j) (by simpa using hj) hT;refine ⟨h3.dom _ (Nat.le_add_right _ _), ?_, Nat.le_add_right _ _, z, hz, ?_⟩
 ·have := (List.getElem?_eq_some_iff.1 hg).1; simp; omega
 rw [List.getElem?_append_right (Nat.le_add_right _ _), Nat.add_sub_cancel_left]; exact hg
end
end Go.Ab
namespace Go.Ab
open Go Go.RowKit
inductive Tok {α : Sort _} (a : α) : Type
 | mk : Tok a
def seen (o : Option AV) (K : AV -> Prop) (t : Tok K) : Prop := ∃ v, o = some v /\ K v
def Y5m (o : Option (AV × Sto × Nat)) (K : AV -> Sto -> Nat -> Prop) (t : Tok K) : Prop := ∃ v σ nx, o = some (v, σ, nx) /\ K v σ nx
@[go_sem] theorem Z6h (v : AV) (K : AV -> Prop) (t : Tok K) : seen (some v) K t ↔ K v := by simp [seen]
@[go_sem] theorem Z5g (v : AV) (σ : Sto) (nx : Nat) (K : AV -> Sto -> Nat -> Prop) (t : Tok K) : Y5m (some (v, σ, nx)) K t ↔ K v σ nx := by
  constructor
  ·rintro ⟨v', σ', nx', h, hk⟩; cases h; exact hk
  intro h; exact ⟨v, σ, nx, rfl, h⟩
def Z61 (C : Cx) (own tot : Bool) (g : FuncId) (args : List AV) (σ : Sto) (nx : Nat) (K KP : AV -> Sto -> Nat -> Prop) (t : Tok K) (t' : Tok KP) : Prop := CallP C own tot g args σ nx K KP
def gsel (o : Option Bool) (A B : Prop) (t : Tok A) (t' : Tok B) : Prop := match o with
 | some true => A
 | some false => B
 | none => False
@[go_sem] theorem Z5U (A B : Prop) (t : Tok A) (t' : Tok B) : gsel (some true) A B t t' ↔ A := Iff.rfl
@[go_sem] theorem Z5c (A B : Prop) (t : Tok A) (t' : Tok B) : gsel (some false) A B t t' ↔ B := Iff.rfl
section
variable {C : Cx} {H : Hints} {tt : Nat -> Bool} {ops : Array Oper} {K : St -> Prop} {KP : AV -> Sto -> Nat -> Prop} {rest : List Oper} {k : Nat} {al : Nat × Nat} {env : Nat -> AV} {σ : Sto} {nx : Nat} {d : Option Tmp} {ty : TypeId} {pos : String} {af : Array Edge}
@[go_sem ↓] theorem Z6C {s : St} : areg C H tt ops K KP [] k al s ↔ K s := Iff.rfl
theorem X5M {o : Oper} {s : St} (hg : o.guard = none) : areg C H tt ops K KP (o :: rest) k al s ↔ aop C H (tt k) al o (fun v σ nx => areg C H tt ops K KP rest (k + 1) (if X0n o.op = true then (al.1 + 1, al.2 + 1) else al) ⟨updo s.env o.dst v, σ, nx⟩) KP s := by
 constructor
 ·rintro ⟨t, h1, h2, h3⟩;unfold X02 at h1;rw [hg] at h1;simp only [Option.some.injEq] at h1;exact h2 h1.symm
 intro h;refine ⟨true, by unfold X02; rw [hg], fun _ => h, fun e => by cases e⟩
@[go_sem ↓] theorem Z4R {j : Nat} {w : Bool} {op : Op} {s : St} : areg C H tt ops K KP (⟨d, op, ty, pos, af, some (j, w)⟩ :: rest) k al s ↔
  gsel (X02 ops s.env ⟨d, op, ty, pos, af, some (j, w)⟩) (areg C H tt ops K KP (⟨d, op, ty, pos, af, none⟩ :: rest) k al s) (areg C H tt ops K KP rest (k + 1) (if X0n op = true then (al.1 + 1, al.2 + 1) else al) ⟨updo s.env d .undef, s.σ, s.nx⟩) .mk .mk := by
  rw [X5M (o := ⟨d, op, ty, pos, af, none⟩) rfl];constructor
  ·rintro ⟨t, h1, h2, h3⟩;rw [h1];cases t
   ·exact h3 rfl
   exact h2 rfl
  intro h;cases hw : X02 ops s.env ⟨d, op, ty, pos, af, some (j, w)⟩ with
  | none => rw [hw] at h; exact h.elim
  | some t =>
   rw [hw] at h;refine ⟨t, hw, fun ht => ?_, fun ht => ?_⟩ <;> subst ht <;> exact h
theorem X2b {op : Op} (hk : kindOf H ⟨d, op, ty, pos, af, none⟩ = .fn) (ha : X0n op = false) : areg C H tt ops K KP (⟨d, op, ty, pos, af, none⟩ :: rest) k al ⟨env, σ, nx⟩ ↔
  seen (fop C al op env (if X1v H.pl d = true then celP H d σ else σ)) (fun v => areg C H tt ops K KP rest (k + 1) al ⟨updo env d v, σ, nx⟩) .mk := by
 rw [X5M rfl, X34 hk];simp only [ha, Bool.false_eq_true, if_false];rfl
theorem X5L {op : Op} (hk : kindOf H ⟨d, op, ty, pos, af, none⟩ = .eff) (ha : X0n op = false) : areg C H tt ops K KP (⟨d, op, ty, pos, af, none⟩ :: rest) k al ⟨env, σ, nx⟩ ↔
  Y5m (eop C (tyOf H.ty d) op env σ nx) (fun v σ nx => areg C H tt ops K KP rest (k + 1) al ⟨updo env d v, σ, nx⟩) .mk := by
 rw [X5M rfl, Y1p hk];simp only [ha, Bool.false_eq_true, if_false];rfl
@[go_sem ↓] theorem Z5F {x : Operand} : areg C H tt ops K KP (⟨d, .move x, ty, pos, af, none⟩ :: rest) k al ⟨env, σ, nx⟩ ↔ seen (some (opv C env x)) (fun v => areg C H tt ops K KP rest (k + 1) al ⟨updo env d v, σ, nx⟩) .mk := X2b rfl rfl
@[go_sem ↓] theorem Z3G {x : Operand} : areg C H tt ops K KP (⟨d, .assign x, ty, pos, af, none⟩ :: rest) k al ⟨env, σ, nx⟩ ↔ seen (some (opv C env x)) (fun v => areg C H tt ops K KP rest (k + 1) al ⟨updo env d v, σ, nx⟩) .mk := X2b rfl rfl
def Z4r : AV -> AV -> AV -> Option AV
 | .bool t, a, b => some (if t = true then a else b)
 | _, _, _ => none
@[go_sem] theorem Z5f (t : Bool) (a b : AV) : Z4r (.bool t) a b = some (if t = true then a else b) := rfl
@[go_sem ↓] theorem Z5H {c a b : Operand} : areg C H tt ops K KP (⟨d, .pick c a b, ty, pos, af, none⟩ :: rest) k al ⟨env, σ, nx⟩ ↔ seen (Z4r (opv C env c) (opv C env a) (opv C env b)) (fun v => areg C H tt ops K KP rest (k + 1) al ⟨updo env d v, σ, nx⟩) .mk := by
  rw [X2b rfl rfl];simp only [fop, Z4r];cases opv C env c <;> rfl
def Y9i : Option (List AV) -> Nat × Nat -> Option AV
 | some _, al => some (.ref al.1 al.2 0)
 | none, _ => none
@[go_sem] theorem Z3C (z : List AV) (p n : Nat) : Y9i (some z) (p, n) = some (.ref p n 0) := rfl
@[go_sem ↓] theorem Z4P {T : TypeId} {p n : Nat} : areg C H tt ops K KP (⟨d, .alloc T, ty, pos, af, none⟩ :: rest) k (p, n) ⟨env, σ, nx⟩ ↔ seen (Y9i (zeroCells C.P T) (p, n)) (fun v => areg C H tt ops K KP rest (k + 1) (p + 1, n + 1) ⟨updo env d v, σ, nx⟩) .mk := by
  rw [X5M rfl, X34 rfl];simp only [fval, fop, X0n, if_true];unfold Y9i;cases zeroCells C.P T <;> rfl
def bslA (sz len : Nat) (z : Option (List AV)) (parts : List (Nat × AV)) : Option (List (List AV)) :=
 match z with
 | some z => if 0 < sz /\ z.length = sz /\ len * sz <= 16777216 then X4o sz (List.replicate len z) parts else none
 | none => none
def bslF (P : Program) (t : TypeId) (len : Nat) (parts : List (Nat × AV)) : Option AV :=
 match elmT P t with
 | some (e, sz, _) => (bslA sz len (zeroCells P e) parts).map (.vec sz)
 | none => none
def bslE (C : Cx) (ety : Option E) (t : TypeId) (len : Nat) (ps : Array (Nat × Operand)) (env : Nat -> AV) (σ : Sto) (nx : Nat) : Option (AV × Sto × Nat) :=
 match ety with
 | some e => eop C (some e) (.buildSlice t len ps) env σ nx
 | none => match elmT C.P t with
  | some (e, sz, _) => (bslA sz len (zeroCells C.P e) (ps.toList.map fun p => (p.1, opv C env p.2))).map fun rows => (.sref σ.length nx sz 0 len, σ ++ [(nx, .gvec sz e rows)], nx + 1)
  | none => none
@[go_sem ↓] theorem Z5E {T : TypeId} {x : Operand} : areg C H tt ops K KP (⟨d, .load T x, ty, pos, af, none⟩ :: rest) k al ⟨env, σ, nx⟩ ↔
  if X1v H.mb d = true then Y5m (eop C (tyOf H.ty d) (.load T x) env σ nx) (fun v σ nx => areg C H tt ops K KP rest (k + 1) al ⟨updo env d v, σ, nx⟩) .mk
  else seen (X1K C.P T (if X1v H.pl d = true then celP H d σ else σ) (opv C env x)) (fun v => areg C H tt ops K KP rest (k + 1) al ⟨updo env d v, σ, nx⟩) .mk := by
  split
  ·rename_i h; exact X5L (op := .load T x) (by simp [kindOf, h]) rfl
  rename_i h; rw [X2b (op := .load T x) (by simp [kindOf, h]) rfl]; rfl
@[go_sem ↓] theorem Z1s {x : Operand} : areg C H tt ops K KP (⟨d, .nilCheck x, ty, pos, af, none⟩ :: rest) k al ⟨env, σ, nx⟩ ↔ seen (Y6p (opv C env x)) (fun v => areg C H tt ops K KP rest (k + 1) al ⟨updo env d v, σ, nx⟩) .mk := X2b rfl rfl
@[go_sem ↓] theorem Z4Q {op : BinOp} {t u : TypeId} {x y : Operand} : areg C H tt ops K KP (⟨d, .binOp op t x y u, ty, pos, af, none⟩ :: rest) k al ⟨env, σ, nx⟩ ↔ seen (abin C op t x y (opv C env x) (opv C env y)) (fun v => areg C H tt ops K KP rest (k + 1) al ⟨updo env d v, σ, nx⟩) .mk := X2b rfl rfl
@[go_sem ↓] theorem Z5I {op : UnOp} {t : TypeId} {x : Operand} : areg C H tt ops K KP (⟨d, .unOp op t x, ty, pos, af, none⟩ :: rest) k al ⟨env, σ, nx⟩ ↔ seen (aun op (opv C env x)) (fun v => areg C H tt ops K KP rest (k + 1) al ⟨updo env d v, σ, nx⟩) .mk := X2b rfl rfl
@[go_sem ↓] theorem Z0R {t : TypeId} {x i : Operand} : areg C H tt ops K KP (⟨d, .indexAddr t x i, ty, pos, af, none⟩ :: rest) k al ⟨env, σ, nx⟩ ↔ seen (idxA C.P t (opv C env x) (opv C env i)) (fun v => areg C H tt ops K KP rest (k + 1) al ⟨updo env d v, σ, nx⟩) .mk := X2b rfl rfl
@[go_sem ↓] theorem Z4S {t : TypeId} {x i : Operand} : areg C H tt ops K KP (⟨d, .index t x i, ty, pos, af, none⟩ :: rest) k al ⟨env, σ, nx⟩ ↔ seen (X8I C.P t (opv C env x) (opv C env i)) (fun v => areg C H tt ops K KP rest (k + 1) al ⟨updo env d v, σ, nx⟩) .mk := X2b rfl rfl
@[go_sem ↓] theorem Z4U {t : TypeId} {x : Operand} {lo hi mx : Option Operand} : areg C H tt ops K KP (⟨d, .slice t x lo hi mx, ty, pos, af, none⟩ :: rest) k al ⟨env, σ, nx⟩ ↔ if X1v H.mb d = true then Y5m (eop C (tyOf H.ty d) (.slice t x lo hi mx) env σ nx) (fun v σ nx => areg C H tt ops K KP rest (k + 1) al ⟨updo env d v, σ, nx⟩) .mk
  else seen (X1I C.P t (opv C env x) (lo.map (opv C env)) (hi.map (opv C env)) (mx.map (opv C env))) (fun v => areg C H tt ops K KP rest (k + 1) al ⟨updo env d v, σ, nx⟩) .mk := by
  split
  ·rename_i h; exact X5L (op := .slice t x lo hi mx) (by simp [kindOf, h]) rfl
  rename_i h; rw [X2b (op := .slice t x lo hi mx) (by simp [kindOf, h]) rfl]; rfl
@[go_sem ↓] theorem Z2S {x : Operand} {i : Nat} : areg C H tt ops K KP (⟨d, .extract x i, ty, pos, af, none⟩ :: rest) k al ⟨env, σ, nx⟩ ↔ seen (extA (opv C env x) i) (fun v => areg C H tt ops K KP rest (k + 1) al ⟨updo env d v, σ, nx⟩) .mk := X2b rfl rfl
@[go_sem] theorem Z6R {α : Type} (a : α) (b : Option α) : orS (some a) b = some a := rfl
@[go_sem ↓] theorem Z4V {T : TypeId} {a x : Operand} : areg C H tt ops K KP (⟨d, .store T a x, ty, pos, af, none⟩ :: rest) k al ⟨env, σ, nx⟩ ↔ Y5m (orS ((X2B C.P T σ (opv C env a) (opv C env x)).map fun σ' => (.undef, σ', nx)) ((X9e C.P T σ (opv C env a) (opv C env x)).map fun σ' => (.undef, σ', nx))) (fun v σ nx => areg C H tt ops K KP rest (k + 1) al ⟨updo env d v, σ, nx⟩) .mk := X5L rfl rfl
@[go_sem ↓] theorem Z4T {t : TypeId} {x : Operand} : areg C H tt ops K KP (⟨d, .range t x, ty, pos, af, none⟩ :: rest) k al ⟨env, σ, nx⟩ ↔ Y5m (Y3z C.P t σ nx (opv C env x)) (fun v σ nx => areg C H tt ops K KP rest (k + 1) al ⟨updo env d v, σ, nx⟩) .mk := X5L rfl rfl
@[go_sem ↓] theorem Z5G {x : Operand} : areg C H tt ops K KP (⟨d, .next x true, ty, pos, af, none⟩ :: rest) k al ⟨env, σ, nx⟩ ↔ Y5m (Y94 σ nx (opv C env x)) (fun v σ nx => areg C H tt ops K KP rest (k + 1) al ⟨updo env d v, σ, nx⟩) .mk := X5L rfl rfl
@[go_sem] theorem Z5b {ags : Array Operand} {t t' : TypeId} {x y : Operand} : eop C none (.call ⟨.builtin .append, #[x, y], #[t, t']⟩) env σ nx = X8o C.P t t' σ nx (opv C env x) (opv C env y) := rfl
theorem Y2U {b : Builtin} {ags : Array Operand} {ts : Array TypeId} (hb : kindOf H ⟨d, .call ⟨.builtin b, ags, ts⟩, ty, pos, af, none⟩ = .fn) : areg C H tt ops K KP (⟨d, .call ⟨.builtin b, ags, ts⟩, ty, pos, af, none⟩ :: rest) k al ⟨env, σ, nx⟩ ↔
  seen (bfun C.P b ts.toList (ags.toList.map (opv C env))) (fun v => areg C H tt ops K KP rest (k + 1) al ⟨updo env d v, σ, nx⟩) .mk := X2b hb rfl
@[go_sem ↓] theorem Z6B {ags : Array Operand} {ts : Array TypeId} : areg C H tt ops K KP (⟨d, .call ⟨.builtin .len, ags, ts⟩, ty, pos, af, none⟩ :: rest) k al ⟨env, σ, nx⟩ ↔
  seen (bfun C.P .len ts.toList (ags.toList.map (opv C env))) (fun v => areg C H tt ops K KP rest (k + 1) al ⟨updo env d v, σ, nx⟩) .mk := Y2U rfl
def Z3R (C : Cx) (own tot : Bool) (f : AV) (args : List AV) (σ : Sto) (nx : Nat) (K KP : AV -> Sto -> Nat -> Prop) (t : Tok K) (t' : Tok KP) : Prop :=
 match f with
 | .fn (.func g) first caps => CallP C own tot g (first ++ (args ++ caps)) σ nx K KP
 | _ => False
@[go_sem] theorem Z6E {own tot : Bool} {g : FuncId} {first caps args : List AV} {K KP : AV -> Sto -> Nat -> Prop} {t : Tok K} {t' : Tok KP} : Z3R C own tot (.fn (.func g) first caps) args σ nx K KP t t' ↔ Z61 C own tot g (first ++ (args ++ caps)) σ nx K KP t t' := Iff.rfl
@[go_sem ↓] theorem Z5D {f : Operand} {ags : Array Operand} {ts : Array TypeId} : areg C H tt ops K KP (⟨d, .call ⟨.value f, ags, ts⟩, ty, pos, af, none⟩ :: rest) k al ⟨env, σ, nx⟩ ↔
  Z3R C (X1v H.ac d) (tt k) (opv C env f) (ags.toList.map (opv C env)) σ nx (fun v σ nx => areg C H tt ops K KP rest (k + 1) al ⟨updo env d v, σ, nx⟩) KP .mk .mk := by
  rw [X5M rfl, X7y rfl rfl];simp only [X0n, Bool.false_eq_true, if_false, X2Q];constructor
  ·rintro ⟨g, args, h1, h2⟩;split at h1
   ·rename_i g' first caps hf; cases h1; rw [hf]; exact h2
   cases h1
  intro h;unfold Z3R at h;split at h
  ·rename_i g first caps hf; first | (rw [hf]; exact ⟨g, _, rfl, h⟩) | exact ⟨g, _, rfl, h⟩
  exact h.elim
end
@[go_sem ↓] theorem Z7b (C : Cx) (env : Nat -> AV) (t : Nat) : opv C env (.tmp t) = env t := rfl
@[go_sem ↓] theorem Z57 (C : Cx) (env : Nat -> AV) (v : Value) : opv C env (.const v) = X11 v := rfl
@[go_sem ↓] theorem Z5e (C : Cx) (env : Nat -> AV) (g : Nat) : opv C env (.global g) = C.gl g := rfl
@[go_sem ↓] theorem Z6Q (C : Cx) (env : Nat -> AV) (f : FuncId) : opv C env (.func f) = .fn (.func f) [] [] := rfl
@[go_sem] theorem Z54 (k : IntKind) (n : Int) : X11 (.int k n) = .int k n := rfl
@[go_sem] theorem Z5d (b : Bool) : X11 (.bool b) = .bool b := rfl
@[go_sem] theorem Z4n (a : Option Addr) (l c : Nat) : X11 (.slice a l c) = .base (.slice a l c) := rfl
@[go_sem] theorem Z15 (a : Option Addr) : X11 (.pointer a) = .base (.pointer a) := rfl
@[go_sem] theorem Z53 (a : Array Value) : X11 (.agg a) = .base (.agg a) := rfl
@[go_sem] theorem Z0V : X11 .nilIface = .base .nilIface := rfl
@[go_sem] theorem Z14 : X11 .nilFunc = .base .nilFunc := rfl
@[go_sem] theorem Z55 (a : Option Nat) : X11 (.map a) = .base (.map a) := rfl
@[go_sem ↓] theorem Z6n (env : Nat -> AV) (v : AV) : updo env none v = env := rfl
@[go_sem ↓] theorem Z6o (env : Nat -> AV) (d t : Nat) (v : AV) : updo env (some d) v t = if t = d then v else env t := rfl
@[go_sem ↓] theorem Z3H (a : AV) (l : List AV) : X3L (a :: l) 0 = a := rfl
@[go_sem ↓] theorem Z4W (a b : AV) (l : List AV) : X3L (a :: b :: l) 1 = b := rfl
@[go_sem ↓] theorem Z4X (a b c : AV) (l : List AV) : X3L (a :: b :: c :: l) 2 = c := rfl
@[go_sem ↓] theorem Z2T (a b c d : AV) (l : List AV) : X3L (a :: b :: c :: d :: l) 3 = d := rfl
def Y9u (w : Bool) : AV -> Option Bool
 | .bool b => some (b == w)
 | .base (.tuple _) => some false
 | _ => none
def gdv (env : Nat -> AV) (w : Bool) : List Oper -> Nat -> Option Bool
 | [], _ => some false
 | o :: _, 0 => (match o.dst with
  | some t => Y9u w (env t)
  | none => some false)
 | _ :: r, j + 1 => gdv env w r j
theorem Y9M (env : Nat -> AV) (w : Bool) : ∀ (l : List Oper) (j : Nat), gdv env w l j = match (l[j]?).bind (·.dst) with
  | some t => Y9u w (env t)
  | none => some false
 | [], _ => rfl
 | o :: _, 0 => rfl
 | _ :: r, j + 1 => by
  rw [gdv, Y9M env w r j];simp only [List.getElem?_cons_succ]
@[go_sem ↓] theorem Z27 {ops : List Oper} {env : Nat -> AV} {d : Option Tmp} {op : Op} {ty : TypeId} {pos : String} {af : Array Edge} {j : Nat} {w : Bool} : X02 ops.toArray env ⟨d, op, ty, pos, af, some (j, w)⟩ = gdv env w ops j := by
  unfold X02;rw [Y9M];simp only [List.getElem?_toArray];cases (ops[j]?).bind (·.dst) <;> rfl
@[go_sem ↓] theorem Z6J (env : Nat -> AV) (w : Bool) (t : Tmp) (op : Op) (ty : TypeId) (pos : String) (af : Array Edge) (g : Option (Nat × Bool)) (r : List Oper) : gdv env w (⟨some t, op, ty, pos, af, g⟩ :: r) 0 = Y9u w (env t) := rfl
@[go_sem ↓] theorem Z6I (env : Nat -> AV) (w : Bool) (o : Oper) (j : Nat) (r : List Oper) : gdv env w (o :: r) (j + 1) = gdv env w r j := rfl
@[go_sem] theorem Z4Z (w b : Bool) : Y9u w (.bool b) = some (b == w) := rfl
@[go_sem] theorem Z3O (w : Bool) (vs : Array Value) : Y9u w (.base (.tuple vs)) = some false := rfl
section
variable {C : Cx} {n : Nat} {ds : List Deferred} {Q : AExit -> St -> Prop} {s : St} {id : Nat} {ops : Array Oper} {y : Code} {objs : Sto}
theorem X0d (H : Hints) (hd : Y1v n ops = true) (ho : X0A C.P ops.toList s.nx = some objs)
  (h : ∀ (K : St -> Prop) (KP : AV -> Sto -> Nat -> Prop), (∀ s, aw C n ds y Q s -> K s) -> (∀ v σ nx, (∀ env, Q (.pan v) ⟨env, σ, nx⟩) -> KP v σ nx) ->
   areg C H (fun _ => true) ops K KP ops.toList 0 (s.σ.length, s.nx) ⟨s.env, s.σ ++ objs, s.nx + objs.length⟩) : aw C n ds (.seq (.region id ops false) y) Q s :=
 X1l (X8q hd ho (h _ _ (fun _ h => h) (fun _ _ _ h env => h env)))
theorem Y1t (H : Hints) (hd : Y1v n ops = true) (ho : X0A C.P ops.toList s.nx = some objs)
  (h : ∀ (K : St -> Prop) (KP : AV -> Sto -> Nat -> Prop), (∀ s, Q .normal s -> K s) -> (∀ v σ nx, (∀ env, Q (.pan v) ⟨env, σ, nx⟩) -> KP v σ nx) ->
   areg C H (fun _ => true) ops K KP ops.toList 0 (s.σ.length, s.nx) ⟨s.env, s.σ ++ objs, s.nx + objs.length⟩) : aw C n ds (.region id ops false) Q s :=
 X8q hd ho (h _ _ (fun _ h => h) (fun _ _ _ h env => h env))
theorem CallP.ret {own tot : Bool} {g : FuncId} {args : List AV} {σ : Sto} {nx : Nat} {K KP : AV -> Sto -> Nat -> Prop} {r : AV} (h : PCall C g args (· = .ret r)) (hf : RFL args) (hk : K r σ nx) : CallP C own tot g args σ nx K KP :=
 ⟨_, h.acall hf σ nx, (by rintro v σ' nx' ⟨hq, rfl, rfl⟩; cases hq; exact hk), (by rintro v σ' nx' ⟨hq, _, _⟩; cases hq), .inr ⟨r, σ, nx, rfl, rfl, rfl⟩, .inr ⟨hf, _, h, fun _ _ _ => Iff.rfl⟩⟩
theorem CallP.pan {own : Bool} {g : FuncId} {args : List AV} {σ : Sto} {nx : Nat} {K KP : AV -> Sto -> Nat -> Prop} {r : AV} (h : PCall C g args (· = .pan r)) (hf : RFL args) (hk : KP r σ nx) : CallP C own true g args σ nx K KP :=
 ⟨_, h.acall hf σ nx, (by rintro v σ' nx' ⟨hq, _, _⟩; cases hq), (by rintro v σ' nx' ⟨hq, rfl, rfl⟩; cases hq; exact hk), .inl rfl, .inr ⟨hf, _, h, fun _ _ _ => Iff.rfl⟩⟩
end
end Go.Ab
namespace Go.Ab
open Go Go.RowKit
attribute [go_sem] celP fadA Y6i X8I bndA empA X4S bfun maxA X2B X2A extA Y6p assertA X1L X5f aun Y2P X27 Y3a bslF bslE bslA Y4Y X4o Y3z Y94
section
variable {P : Program} {T t : TypeId} {σ : Sto} {k : IntKind} {n : Int}
@[go_sem] theorem Z6i (n m : Nat) (o : AObj) (r : Sto) : sget ((n, o) :: r) 0 m = if n = m then some o else none := rfl
@[go_sem] theorem Z6b (p m off : Nat) : X1K P T σ (.ref p m off) = match sget σ p m with
  | some (.cells _ cs) => X5m P T (cs.drop off)
  | _ => none := by
  simp only [X1K];cases sget σ p m with
  | none => rfl
  | some o => cases o <;> first | rfl | (rename_i k; cases k <;> rfl)
@[go_sem low] theorem Z6P (cs : List AV) : X5m P T cs = match aggT P T, szT P T with
  | some true, some n => if n <= cs.length then some (.agg (cs.take n)) else none
  | some false, _ => cs.head?
  | _, _ => none := rfl
@[go_sem] theorem Z6N (l : List UInt8) : lenA P t (.str l) = if strT P t = true then some (.int .i64 l.length) else none := rfl
@[go_sem] theorem Z6O (e : Nat) (rows : List (List AV)) : lenA P t (.vec e rows) = if slcT P t = true then some (.int .i64 rows.length) else none := rfl
@[go_sem] theorem Z50 (p m e o l : Nat) : lenA P t (.sref p m e o l) = if slcT P t = true then some (.int .i64 l) else none := rfl
@[go_sem] theorem Z6L : lenA P t .emp = if slcT P t = true then some (.int .i64 0) else none := rfl
@[go_sem] theorem Z6M : lenA P t (.base (.slice none 0 0)) = if slcT P t = true then some (.int .i64 0) else none := rfl
@[go_sem] theorem Z6K (p m o : Nat) : idxA P t (.ref p m o) (.int k n) = match elmT P t, arrT P t with
  | none, some (len, _, sz) => if 0 <= n /\ n < len then some (.ref p m (o + n.toNat * sz)) else none
  | _, _ => none := by
  unfold idxA;cases elmT P t <;> cases arrT P t <;> rfl
@[go_sem] theorem Z42 : X0O (.int k n) = some [.int k n] := rfl
@[go_sem] theorem Z3T (b : Bool) : X0O (.bool b) = some [.bool b] := rfl
@[go_sem] theorem Z44 (l : List UInt8) : X0O (.str l) = some [.str l] := rfl
@[go_sem] theorem Z40 (l : List AV) : X0O (.agg l) = some l := rfl
@[go_sem] theorem Z45 (e : Nat) (l : List (List AV)) : X0O (.vec e l) = some [.vec e l] := rfl
@[go_sem] theorem Z41 : X0O .emp = some [.emp] := rfl
@[go_sem] theorem Z3W (l : List AV) : X0O (.rptr l) = some [.rptr l] := rfl
@[go_sem] theorem Z43 (p m o : Nat) : X0O (.ref p m o) = some [.ref p m o] := rfl
@[go_sem] theorem Z3U (p m i o : Nat) : X0O (.eref p m i o) = some [.eref p m i o] := rfl
@[go_sem] theorem Z3X (p m e o l : Nat) : X0O (.sref p m e o l) = some [.sref p m e o l] := rfl
@[go_sem] theorem Z5M (f : Fn) (a b : List AV) : X0O (.fn f a b) = some [.fn f a b] := rfl
@[go_sem] theorem Z2U (u : TypeId) (v : AV) : X0O (.iface u v) = some [.iface u v] := rfl
@[go_sem] theorem Z2V (a : Option Addr) (l c : Nat) : X0O (.base (.slice a l c)) = some [.base (.slice a l c)] := rfl
@[go_sem] theorem Z0U (a : Option Addr) : X0O (.base (.pointer a)) = some [.base (.pointer a)] := rfl
@[go_sem] theorem Y9w : X0O (.base .nilIface) = some [.base .nilIface] := rfl
@[go_sem] theorem Z0T : X0O (.base .nilFunc) = some [.base .nilFunc] := rfl
@[go_sem] theorem Z3V (a : Option Nat) : X0O (.base (.map a)) = some [.base (.map a)] := rfl
@[go_sem] theorem Z0S (a : Array Value) : X0O (.base (.agg a)) = if a.toList.all (·.oneCell') = true then some (a.toList.map X11) else none := rfl
def nilU (o : Option TypeDesc) (x : AV) : Option Bool := match o with
 | some d => if nilT d x then nilA x else none
 | none => none
attribute [go_sem] nilU nilT nilA
@[go_sem] theorem Z5i (l : List UInt8) (lo hi : Option AV) : X1I P t (.str l) lo hi none = if strT P t then (match bndA l.length lo hi with
  | some (a, h) => if 0 <= a /\ a <= h /\ h <= l.length then some (.str ((l.drop a.toNat).take (h.toNat - a.toNat))) else none
  | none => none) else none := rfl
@[go_sem] theorem Z5j (e : Nat) (rows : List (List AV)) (lo hi : Option AV) : X1I P t (.vec e rows) lo hi none = match elmT P t, bndA rows.length lo hi with
  | some (_, sz, _), some (l, h) => if e = sz /\ 0 <= l /\ l <= h /\ h <= rows.length then some (.vec e ((rows.drop l.toNat).take (h.toNat - l.toNat))) else none
  | _, _ => none := rfl
@[go_sem] theorem Z4z (p m e o n : Nat) (lo hi : Option AV) : X1I P t (.sref p m e o n) lo hi none = match elmT P t, bndA n lo hi with
  | some (_, sz, _), some (l, h) => if e = sz /\ 0 <= l /\ l <= h /\ h <= n then (if l = 0 \/ l < h then some (.sref p m e (o + l.toNat) (h.toNat - l.toNat)) else some (.vec e [])) else none
  | _, _ => none := rfl
@[go_sem] theorem Z5h (lo hi : Option AV) : X1I P t (.base (.slice none 0 0)) lo hi none = match elmT P t, bndA 0 lo hi with
  | some _, some (l, h) => if l = 0 /\ h = 0 then some (.base (.slice none 0 0)) else none
  | _, _ => none := rfl
@[go_sem] theorem Z5a (sz e : Nat) (rows : List (List AV)) : X5T sz σ (.vec e rows) = if e = sz \/ rows = [] then some rows else none := rfl
@[go_sem] theorem Z49 (sz : Nat) : X5T sz σ (.base (.slice none 0 0)) = some [] := rfl
@[go_sem] theorem Z48 (sz : Nat) : X5T sz σ .emp = some [] := rfl
@[go_sem] theorem Z32 (sz p m e o l : Nat) : X5T sz σ (.sref p m e o l) = match sget σ p m with
  | some (.gvec esz' _ rows) => if e = sz /\ esz' = sz /\ o + l <= rows.length then some ((rows.drop o).take l) else none
  | _ => none := rfl
end
section
variable {P : Program} {t' sz e bytes : Nat} {σ : Sto} {nx : Nat}
end
attribute [go_sem] decide_true decide_false beq_true beq_false Bool.not_eq_true Bool.and_true Bool.true_and Bool.and_false Bool.false_and Bool.or_true Bool.true_or Bool.or_false Bool.false_or Int.natCast_nonneg Int.ofNat_lt Int.ofNat_le Int.toNat_natCast List.length_map Bool.decide_eq_true
attribute [go_sem] List.append_nil List.nil_append List.cons_append List.length_nil List.length_cons List.length_append List.drop_zero List.drop_succ_cons List.take_zero List.take_succ_cons List.take_nil List.drop_nil List.head?_cons List.map_cons List.map_nil List.getElem?_cons_zero List.getElem?_cons_succ
 Option.map_some Option.map_none Option.bind_some Option.bind_none Nat.add_zero Nat.zero_add Bool.false_eq_true Bool.true_eq_false if_true if_false true_and and_true false_and and_false ite_true ite_false List.set_cons_zero List.set_cons_succ
 eq_self not_true_eq_false not_false_eq_true Bool.not_true Bool.not_false List.toList_toArray true_or or_true false_or or_false
@[go_sem] theorem Z5O (d : Option Nat) : X1v [] d = false := by cases d <;> rfl
@[go_sem] theorem Z47 (l : List Nat) : X1v l none = false := rfl
@[go_sem] theorem Z46 (a d : Nat) (l : List Nat) : X1v (a :: l) (some d) = if d = a then true else X1v l (some d) := by
  unfold X1v
  by_cases h : d = a <;> simp [h]
section
variable {C : Cx} {t : TypeId} {x y : Operand} {k : IntKind} {a b : Int}
@[go_sem] theorem Z6s : abin C .add t x y (.int k a) (.int k b) = some (.int k (k.wrap (a + b))) := by simp [abin, X1L]
@[go_sem] theorem Z6A : abin C .sub t x y (.int k a) (.int k b) = some (.int k (k.wrap (a - b))) := by simp [abin, X1L]
@[go_sem] theorem Z6u : abin C .eql t x y (.int k a) (.int k b) = some (.bool (decide (a = b))) := by simp [abin, X1L]
@[go_sem] theorem Z6y : abin C .neq t x y (.int k a) (.int k b) = some (.bool (!decide (a = b))) := by simp [abin, X1L]
@[go_sem] theorem Z6x : abin C .lss t x y (.int k a) (.int k b) = some (.bool (decide (a < b))) := by simp [abin, X1L]
@[go_sem] theorem Z6w : abin C .gtr t x y (.int k a) (.int k b) = some (.bool (decide (b < a))) := by simp [abin, X1L]
@[go_sem] theorem Z6v : abin C .geq t x y (.int k a) (.int k b) = some (.bool (decide (b <= a))) := by simp [abin, X1L]
@[go_sem] theorem Z6z {op : BinOp} {p q : List UInt8} : abin C op t x y (.str p) (.str q) = X5f op p q := by simp [abin]
@[go_sem] theorem Z6t {p q : Bool} : abin C .eql t x y (.bool p) (.bool q) = if Y1B C.P t = true then some (.bool (p == q)) else none := by simp [abin]
theorem wrap64 {z : Int} (h : -9223372036854775808 <= z) (h' : z <= 9223372036854775807) : IntKind.wrap .i64 z = z := by
 simp [IntKind.wrap, IntKind.bits, IntKind.signed] <;> omega
end
section
variable {K : St -> Prop} {Q : AExit -> St -> Prop} {s : St}
@[go_sem] theorem X0h : Y2W K Q .normal s ↔ K s := Iff.rfl
@[go_sem] theorem X04 {i : Nat} : Y2W K Q (.exit i) s ↔ Q (.exit i) s := Iff.rfl
@[go_sem] theorem X0g : Y2W K Q .ret s ↔ Q .ret s := Iff.rfl
@[go_sem] theorem Z5J {v : AV} : Y2W K Q (.pan v) s ↔ Q (.pan v) s := Iff.rfl
@[go_sem] theorem Z4Y {l : Nat} : Y2W K Q (.goto l) s ↔ Q (.goto l) s := Iff.rfl
@[go_sem] theorem X2f {id : Nat} : X32 id Q .normal s ↔ Q .normal s := Iff.rfl
@[go_sem] theorem Z3x {id i : Nat} : X32 id Q (.exit i) s ↔ if i = id then Q .normal s else Q (.exit i) s := Iff.rfl
@[go_sem] theorem X9Z {id : Nat} : X32 id Q .ret s ↔ Q .ret s := Iff.rfl
@[go_sem] theorem Z4O {id : Nat} {v : AV} : X32 id Q (.pan v) s ↔ Q (.pan v) s := Iff.rfl
@[go_sem] theorem Z3y {id : Nat} {l : Nat} : X32 id Q (.goto l) s ↔ Q (.goto l) s := Iff.rfl
end
@[go_sem ↓] theorem Z6T (P : Program) (t : Nat) (env : Nat -> AV) (σ : Sto) (nx : Nat) : resA P [.tmp t] ⟨env, σ, nx⟩ = some (env t) := rfl
@[go_sem ↓] theorem Z6d (P : Program) (a T : Nat) (env : Nat -> AV) (σ : Sto) (nx : Nat) : resA P [.cell a T] ⟨env, σ, nx⟩ = X1K P T σ (env a) := rfl
def two : Option AV -> Option AV -> Option AV
 | some a, some b => some (.tup [a, b])
 | _, _ => none
def three : Option AV -> Option AV -> Option AV -> Option AV
 | some a, some b, some c => some (.tup [a, b, c])
 | _, _, _ => none
@[go_sem] theorem Z6V (a b : AV) : two (some a) (some b) = some (.tup [a, b]) := rfl
@[go_sem ↓] theorem Z6U (P : Program) (r q : ResultVar) (s : St) : resA P [r, q] s = two (res1 P s r) (res1 P s q) := by
  unfold resA two;simp only [List.mapM_cons, List.mapM_nil];cases res1 P s r <;> cases res1 P s q <;> rfl
@[go_sem] theorem Z6S (P : Program) (t : Nat) (env : Nat -> AV) (σ : Sto) (nx : Nat) : res1 P ⟨env, σ, nx⟩ (.tmp t) = some (env t) := rfl
@[go_sem] theorem Z6c (P : Program) (a T : Nat) (env : Nat -> AV) (σ : Sto) (nx : Nat) : res1 P ⟨env, σ, nx⟩ (.cell a T) = X1K P T σ (env a) := rfl
def pfin (F : Nat) (σ : Sto) (Q : AOut -> Prop) : Option AV -> Prop
 | some r => RF (frzF σ F r) /\ Q (.ret (frzF σ F r))
 | none => False
@[go_sem] theorem Z6a (F : Nat) (σ : Sto) (Q : AOut -> Prop) (r : AV) : pfin F σ Q (some r) ↔ RF (frzF σ F r) /\ Q (.ret (frzF σ F r)) := Iff.rfl
theorem Z2b (F : Nat) (σ : Sto) (Q : AOut -> Prop) (o : Option AV) : pfin F σ Q o ↔ ∃ r, o = some r /\ RF (frzF σ F r) /\ Q (.ret (frzF σ F r)) := by
 cases o <;> simp [pfin]
@[go_sem] theorem Z5z (C : Cx) (F : Nat) (rs : List ResultVar) (Q : AOut -> Prop) (env : Nat -> AV) (σ : Sto) (nx : Nat) : Z1l C F rs Q .ret ⟨env, σ, nx⟩ ↔ pfin F σ Q (resA C.P rs ⟨env, σ, nx⟩) := (Z2b _ _ _ _).symm
@[go_sem] theorem Z5y (C : Cx) (F : Nat) (rs : List ResultVar) (Q : AOut -> Prop) (v : AV) (s : St) : Z1l C F rs Q (.pan v) s ↔ RF (frzF s.σ F v) /\ Q (.pan (frzF s.σ F v)) := Iff.rfl
@[go_sem] theorem Z5T (σ : Sto) (v : AV) : frzF σ 0 v = v := rfl
@[go_sem] theorem Z7k (k : IntKind) (n : Int) : RF (.int k n) ↔ True := Iff.rfl
@[go_sem] theorem Z6Z (b : Bool) : RF (.bool b) ↔ True := Iff.rfl
@[go_sem] theorem Z7l (l : List UInt8) : RF (.str l) ↔ True := Iff.rfl
@[go_sem] theorem Z6Y (v : Value) : RF (.base v) ↔ True := Iff.rfl
@[go_sem] theorem Z7j : RF .emp ↔ True := Iff.rfl
@[go_sem] theorem Z7i : RF .any ↔ True := Iff.rfl
@[go_sem] theorem Z7h (l : List AV) : RF (.agg l) ↔ RFL l := by simp only [RF]
@[go_sem] theorem Z7m (l : List AV) : RF (.tup l) ↔ RFL l := by simp only [RF]
@[go_sem] theorem Z7p (f : Fn) (a b : List AV) : RF (.fn f a b) ↔ RFL a /\ RFL b := by simp only [RF]
@[go_sem] theorem Z6X : RFL [] ↔ True := by simp only [RFL]
@[go_sem] theorem Z6r (a : AV) (l : List AV) : RFL (a :: l) ↔ RF a /\ RFL l := by simp only [RFL]
def afin (σ : Sto) (nx : Nat) (Q : AOut -> Sto -> Nat -> Prop) : Option AV -> Prop
 | some r => Q (.ret r) σ nx
 | none => False
@[go_sem] theorem Z5C (σ : Sto) (nx : Nat) (Q : AOut -> Sto -> Nat -> Prop) (r : AV) : afin σ nx Q (some r) ↔ Q (.ret r) σ nx := Iff.rfl
theorem Z1q (σ : Sto) (nx : Nat) (Q : AOut -> Sto -> Nat -> Prop) (o : Option AV) : afin σ nx Q o ↔ ∃ r, o = some r /\ Q (.ret r) σ nx := by
 cases o <;> simp [afin]
@[go_sem] theorem Z5l (C : Cx) (rs : List ResultVar) (Q : AOut -> Sto -> Nat -> Prop) (env : Nat -> AV) (σ : Sto) (nx : Nat) : Z0W C rs Q .ret ⟨env, σ, nx⟩ ↔ afin σ nx Q (resA C.P rs ⟨env, σ, nx⟩) := (Z1q _ _ _ _).symm
@[go_sem] theorem Z5k (C : Cx) (rs : List ResultVar) (Q : AOut -> Sto -> Nat -> Prop) (v : AV) (env : Nat -> AV) (σ : Sto) (nx : Nat) : Z0W C rs Q (.pan v) ⟨env, σ, nx⟩ ↔ Q (.pan v) σ nx := Iff.rfl
abbrev Gets (r : AV) (σ : Sto) (nx : Nat) : AOut -> Sto -> Nat -> Prop := fun o σ' nx' => o = .ret r /\ σ' = σ /\ nx' = nx
@[go_sem] theorem Z6q (r : AV) (σ σ' : Sto) (nx nx' : Nat) (o : AOut) : Gets r σ nx o σ' nx' ↔ o = .ret r /\ σ' = σ /\ nx' = nx := Iff.rfl
theorem CallP.acall {C : Cx} {tot : Bool} {g : FuncId} {args : List AV} {σ σ1 : Sto} {nx nx1 : Nat} {K KP : AV -> Sto -> Nat -> Prop} {r : AV} (h : ACall C g args σ nx (Gets r σ1 nx1)) (hk : K r σ1 nx1) : CallP C true tot g args σ nx K KP :=
 ⟨_, h, (by rintro v σ' nx' ⟨hq, rfl, rfl⟩; cases hq; exact hk), (by rintro v σ' nx' ⟨hq, _, _⟩; cases hq), .inr ⟨r, σ1, nx1, rfl, rfl, rfl⟩, .inl rfl⟩
theorem CallP.rel {C : Cx} {own tot : Bool} {g : FuncId} {args : List AV} {σ : Sto} {nx : Nat} {K KP : AV -> Sto -> Nat -> Prop} {Q : AOut -> Prop} (h : PCall C g args Q) (hf : RFL args) (hk : ∀ v, Q (.ret v) -> K v σ nx) (hp : ∀ v, Q (.pan v) -> KP v σ nx) (ht : tot = true \/ ∃ v, Q (.ret v)) : CallP C own tot g args σ nx K KP :=
 ⟨_, h.acall hf σ nx, (by rintro v σ' nx' ⟨hq, rfl, rfl⟩; exact hk v hq), (by rintro v σ' nx' ⟨hq, rfl, rfl⟩; exact hp v hq), (ht.elim .inl fun ⟨v, hv⟩ => .inr ⟨v, σ, nx, hv, rfl, rfl⟩), .inr ⟨hf, _, h, fun _ _ _ => Iff.rfl⟩⟩
attribute [go_sem] Nat.lt_irrefl Nat.zero_lt_succ decide_not List.take_length List.length_replicate List.drop_replicate List.take_replicate List.replicate_zero Nat.sub_self Nat.le_refl Nat.add_sub_cancel Int.natCast_pos Int.natCast_eq_zero Int.natCast_inj Int.le_refl Int.toNat_zero Nat.sub_zero
@[go_sem] theorem Z6G (σ : Sto) (F : Nat) (k : IntKind) (n : Int) : frzF σ F (.int k n) = .int k n := by cases F <;> rfl
@[go_sem] theorem Z5S (σ : Sto) (F : Nat) (b : Bool) : frzF σ F (.bool b) = .bool b := by cases F <;> rfl
@[go_sem] theorem Z6H (σ : Sto) (F : Nat) (l : List UInt8) : frzF σ F (.str l) = .str l := by cases F <;> rfl
theorem X1f {C : Cx} {g : FuncId} {fn : Func} {c : Code} {args : List AV} (F n : Nat) (rs : List ResultVar) (hf : C.P.funcs[g]? = some fn) (hb : fn.body = some c) (hname : (fn.name == "runtime.NumGoroutine") = false) (hn : fn.ntmps = n) (hr : fn.results.toList = rs) (hl : Nat.ble args.length n = true) {Q : AOut -> Prop}
  (h : aw C n [] c (Z1l C F rs Q) ⟨X3L args, [], 0⟩) : PCall C g args Q := by
 subst hn; subst hr;exact Y47 F hf hb hname (Nat.le_of_ble_eq_true hl) h
theorem Y1n {C : Cx} {g : FuncId} {fn : Func} {c : Code} {args : List AV} {σ : Sto} {nx : Nat} (n : Nat) (rs : List ResultVar) (hf : C.P.funcs[g]? = some fn) (hb : fn.body = some c) (hname : (fn.name == "runtime.NumGoroutine") = false) (hn : fn.ntmps = n) (hr : fn.results.toList = rs) (hl : Nat.ble args.length n = true) {Q : AOut -> Sto -> Nat -> Prop}
  (h : aw C n [] c (Z0W C rs Q) ⟨X3L args, σ, nx⟩) : ACall C g args σ nx Q := by
 subst hn; subst hr;exact Y4z hf hb hname (Nat.le_of_ble_eq_true hl) h
theorem X2E {C : Cx} {n : Nat} {ds : List Deferred} {Q : AExit -> St -> Prop} {s : St} {c : Operand} {x y : Code} (p : Prop) [Decidable p] (hc : opv C s.env c = .bool (decide p)) (ht : p -> aw C n ds x Q s) (hf : ¬p -> aw C n ds y Q s) : aw C n ds (.cond c x y) Q s :=
 Z3I hc (fun h => ht (of_decide_eq_true h)) (fun h => hf (of_decide_eq_false h))
section
variable {C : Cx} {n : Nat} {ds : List Deferred} {K : St -> Prop} {Q : AExit -> St -> Prop} {s : St} {e : AExit}
theorem X1W {id : Nat} (h : Q .normal s) : X32 id Q (.exit id) s := by simp only [X32, if_true]; exact h
theorem X8k {id i : Nat} (hne : Nat.beq i id = false) (h : Q (.exit i) s) : X32 id Q (.exit i) s := by
 have : i ≠ id := fun e => by subst e; simp at hne
 simp only [X32, if_neg this]; exact h
def afor (k : Nat) (Q : AExit -> St -> Prop) : AExit -> St -> Prop := fun e s => Q e ⟨s.env, s.σ.take k, s.nx⟩
theorem X93 {c : Code} (k : Nat) (hk : s.σ.length = k) (h : aw C n ds c (afor k Q) s) : aw C n ds c Q s :=
 Y9n (Z3L h fun e s' hq => ⟨k, by omega, hq⟩)
theorem X5K {env : Nat -> AV} {a : Nat × AObj} {σ : Sto} {nx : Nat} (h : Q e ⟨env, [a], nx⟩) : afor 1 Q e ⟨env, a :: σ, nx⟩ := by simpa [afor] using h
theorem X7z {c : Code} (J : Nat -> St -> Prop) (round : ∀ d s, J d s -> aw C n ds c (Y2W (fun s' => ∃ d', d' < d /\ J d' s') Q) s) (h₀ : ∃ d, J d s) : aw C n ds (.loop c) Q s :=
 h₀.elim fun _ h => Z3K J round h
end
theorem Z2k (σ l : Sto) (n : Nat) (o : AObj) : sget (σ ++ (n, o) :: l) σ.length n = some o := by simp [sget]
theorem Z4y (σ l : Sto) (a b : Nat × AObj) : (σ ++ a :: l).set σ.length b = σ ++ b :: l := by simp
theorem Z2w (σ l : Sto) : (σ ++ l).take σ.length = σ := by simp
attribute [go_sem] Z2k Z4y Z2w
end Go.Ab
namespace Go.Ab
open Go Go.RowKit
def DRel (kn : Kn) (m : Mp) (x : FuncId × List AV) (d : Deferred) : Prop :=
 ∃ cap, d.target = .fn (.func x.1) cap /\ RelL kn m x.2 (d.args ++ cap).toList
def DRelL (kn : Kn) (m : Mp) : List (FuncId × List AV) -> List Deferred -> Prop
 | [], ds => ds = []
 | x :: l, ds => ∃ d ds', ds = d :: ds' /\ DRel kn m x d /\ DRelL kn m l ds'
theorem DRelL.mono {kn kn' : Kn} {m m' : Mp} (hk : KnLe kn kn') (hm : MpLe m m') : ∀ {l : List (FuncId × List AV)} {ds : List Deferred}, DRelL kn m l ds -> DRelL kn' m' l ds
 | [], ds, h => h
 | x :: l, ds, ⟨d, ds', h1, ⟨cap, h2, h3⟩, h4⟩ => ⟨d, ds', h1, ⟨cap, h2, h3.mono hk hm⟩, DRelL.mono hk hm h4⟩
def RelMode (kn : Kn) (m : Mp) : Option AV -> FrameMode -> Prop
 | none, u => u = .returning
 | some x, u => ∃ v, u = .panicking [{ v := v, recovered := false }] /\ Rel kn m x v
theorem RelMode.run {kn : Kn} {m : Mp} {x : Option AV} {u : FrameMode} (h : RelMode kn m x u) : u ≠ .run := by
 cases x with
 | none => simp only [RelMode] at h; subst h; simp
 | some x => obtain ⟨v, rfl, _⟩ := h; simp
section
variable {C : Cx} {n : Nat} {dl : List (FuncId × List AV)} {Q : AExit -> List (FuncId × List AV) -> St -> Prop} {s : St} {x y : Code}
end
section
variable {C : Cx} {n : Nat} {dl : List (FuncId × List AV)} {Q : AExit -> List (FuncId × List AV) -> St -> Prop} {s : St}
end
section
variable {C : Cx} {B : Base} {n : Nat} {ds : List Deferred} {kn₀ : Kn} {m₀ : Mp} {σ₀ : Sto} {nx₀ : Nat} {ops : Array Oper} {p₀ n₀ : Nat}
end
end Go.Ab
namespace Go.Ab
open Go Go.RowKit
section
variable {C : Cx} {n : Nat} {ds : List Deferred} {Q : AExit -> St -> Prop} {s : St} {id : Nat} {ops : Array Oper} {y : Code} {objs : Sto}
end
end Go.Ab
namespace Go.Ab
open Go Go.RowKit
def Agr (D : List Nat) (a a' : Act) : Prop := ∀ t, t ∉ D -> a'.tmps.getD t undef = a.tmps.getD t undef
theorem Agr.put {D : List Nat} {a a' : Act} (h : Agr D a a') {dst : Option Tmp} (hd : ∀ d, dst = some d -> d ∈ D) (v : Value) : Agr D a (a'.put dst v) := by
 intro t ht;rw [<- h t ht];cases dst with
 | none => rfl
 | some d =>
  have hne : d ≠ t := fun e => ht (e ▸ hd d rfl)
  simp only [Act.put, Array.getD_eq_getD_getElem?];rw [Array.getElem?_setIfInBounds_ne hne]
section
variable {P : Program} {ops : Array Oper} {Q : Exit -> Act -> World -> Prop} {D : List Nat} {a₀ : Act}
end
attribute [go_sem] Int.cast_ofNat_Int Int.reduceNeg
section
variable {C : Cx} {n : Nat} {ds : List Deferred} {Q : AExit -> St -> Prop} {s : St} {id : Nat} {ops : Array Oper} {y : Code} {objs : Sto} {H : Hints}
end
end Go.Ab
namespace Go.Ab
open Go Go.RowKit
def mask (lo hi : Nat) (env junk : Nat -> AV) : Nat -> AV := fun t => if lo <= t /\ t <= hi then junk t else env t
attribute [go_sem] true_and and_true and_self false_and and_false
section
variable {C : Cx} {n : Nat} {ds : List Deferred} {Q : AExit -> St -> Prop} {s : St} {id : Nat} {ops : Array Oper} {y : Code} {H : Hints}
end
attribute [go_sem] Nat.reduceEqDiff Nat.reduceLT Nat.reduceAdd Nat.reduceMul Nat.reduceLeDiff Int.reduceLE Int.reduceLT Int.reduceToNat Int.reduceEq
end Go.Ab
namespace Go.Ab
open Go Go.Proofs
@[go_sem] theorem Z1r : aggT Tryz.prog 131 = some true := by kernel_rfl
@[go_sem] theorem Z7n : aggT Tryz.prog 4 = some false := by kernel_rfl
@[go_sem] theorem Z6D : arrT Tryz.prog 131 = some (256, 4, 1) := by kernel_rfl
@[go_sem] theorem Z6F : elmT Tryz.prog 131 = none := by kernel_rfl
@[go_sem] theorem Z5W : Y1B Tryz.prog 4 = true := by kernel_rfl
@[go_sem] theorem Z7o : strT Tryz.prog 9 = true := by kernel_rfl
@[go_sem] theorem Z4C : szT Tryz.prog 131 = some 256 := by kernel_rfl
@[go_sem] theorem Z7q : szT Tryz.prog 4 = some 1 := by kernel_rfl
@[go_sem] theorem Z6W : zeroCells Tryz.prog 131 = some (List.replicate 256 (.bool false)) := by kernel_rfl
theorem mixed : Tryz.prog.follows .mixedOrders = true := by kernel_rfl
end Go.Ab
namespace Go.Ab
open Go Go.RowKit
structure XS where
 env : List AV
 σ : Sto
 nx : Nat
def xenv (l : List AV) : Nat -> AV := fun t => l.getD t .undef
def XS.st (x : XS) : St := ⟨xenv x.env, x.σ, x.nx⟩
def E.av : (e : E) -> e.den -> AV
 | .int k, n => .int k n
 | .bool, b => .bool b
 | .str, l => .str l
 | .erri, b => .erri b
 | .form, f => .agg (E.cells .form f)
 | .un, x => .agg (E.cells .un x)
 | .pr a b, x => .agg (E.cells (.pr a b) x)
 | .slice e, l => .tvec e l
def aggE : E -> Bool
 | .form => true
 | .un => true
 | .pr _ _ => true
 | _ => false
def Z2W (e : E) (v : AV) : Option (List AV) :=
 match aggE e with
 | true => match v with
  | .agg cs => some cs
  | _ => none
 | false => match v with
  | .agg _ => none
  | v => some [v]
def absE (e : E) (v : AV) : Option e.den := (Z2W e v).bind (absC absF e)
theorem E.av_rf : ∀ (e : E) (x : e.den), RF (e.av x)
 | .int _, _ => trivial
 | .bool, _ => trivial
 | .str, _ => trivial
 | .erri, _ => trivial
 | .form, f => E.cells_rf .form f
 | .un, x => E.cells_rf .un x
 | .pr a b, x => E.cells_rf (.pr a b) x
 | .slice _, _ => trivial
theorem E.av_agg (e : E) (x : e.den) (h : aggE e = true) : e.av x = .agg (e.cells x) := by cases e <;> first | rfl | (simp [aggE] at h)
theorem E.av_one (e : E) (x : e.den) (h : aggE e = false) : e.cells x = [e.av x] := by cases e <;> first | rfl | (simp [aggE] at h)
theorem Z4v {kn : Kn} {m : Mp} {cs ds : List AV} {v : Value} (h : Rel kn m (.agg cs) v) (hc : ∀ us, RelL kn m cs us -> RelL kn m ds us) : Rel kn m (.agg ds) v := by
 cases h with
 | agg _ vs hl hr h1 =>
  have := hc vs.toList ⟨by simpa using hl, fun i x v a b => hr i x v a (by simpa using b)⟩;exact .agg ds vs (by simpa using this.1) (fun i x v a b => this.2 i x v a (by simpa using b)) h1
theorem Z1p {kn : Kn} {m : Mp} {e : E} {v : AV} {x : e.den} (h : absE e v = some x) {u : Value} (hr : Rel kn m v u) : Rel kn m (e.av x) u := by
 unfold absE Z2W at h;obtain ⟨cs, h1, h2⟩ := Option.bind_eq_some_iff.1 h;have hcells : ∀ us, RelL kn m cs us -> RelL kn m (e.cells x) us := fun us hh => (E.rel_cells e x us).2 (X1E absF e cs x h2 us hh)
 split at h1
 ·rename_i he;split at h1
  ·cases h1;rw [E.av_agg e x he];exact Z4v hr hcells
  cases h1
 rename_i he;split at h1
 ·cases h1
 cases h1;have := hcells [u] (X2K.2 ⟨u, rfl, hr⟩);rw [E.av_one e x he] at this;obtain ⟨u', e', h'⟩ := X2K.1 this;cases e'; exact h'
def eqA : AV -> AV -> Bool
 | .base .nilIface, .base .nilIface => true
 | .base (.slice none 0 0), .base (.slice none 0 0) => true
 | .base (.pointer none), .base (.pointer none) => true
 | .base (.map none), .base (.map none) => true
 | .base .nilFunc, .base .nilFunc => true
 | .fn (.func f) [] [], .fn (.func g) [] [] => Nat.beq f g
 | .tup [], .tup [] => true
 | .base (.tuple ⟨[]⟩), .base (.tuple ⟨[]⟩) => true
 | _, _ => false
theorem Y27 {a b : AV} (h : eqA a b = true) : a = b /\ RF a := by
 unfold eqA at h;split at h <;> first | exact ⟨rfl, by simp [RF, RFL]⟩ | (cases h; done) | skip
 have := Nat.eq_of_beq_eq_true h;subst this;exact ⟨rfl, by simp [RF, RFL]⟩
inductive Sh where
 | d (e : E)
 | c (v : AV)
 | ref (slot off : Nat)
 | gs (slot : Nat) (e : E)
 | mref (slot off : Nat)
 | gv (slot : Nat) (e : E)
 | agg (l : List Sh)
 | tup (l : List Sh)
 | rptr (l : List Sh)
 | fn (f : Fn) (first caps : List Sh)
 | iface (t : TypeId) (s : Sh)
mutual
def Sh.den : Sh -> Type
 | .d e => e.den
 | .c _ => Unit
 | .ref _ _ => Unit
 | .gs _ _ => Unit
 | .mref _ _ => Bool
 | .gv _ _ => Nat × Nat
 | .agg l => Sh.denL l
 | .tup l => Sh.denL l
 | .rptr l => Sh.denL l
 | .fn _ a b => Sh.denL a × Sh.denL b
 | .iface _ s => s.den
def Sh.denL : List Sh -> Type
 | [] => Unit
 | s :: l => s.den × Sh.denL l
end
abbrev Pl := Nat -> Nat × Nat × Nat
mutual
def patV (ρ : Pl) : (s : Sh) -> s.den -> AV
 | .d e, x => e.av x
 | .c v, _ => v
 | .ref j off, _ => .ref (ρ j).1 (ρ j).2.1 off
 | .gs j e, _ => .gs (ρ j).1 (ρ j).2.1 e (ρ j).2.2
 | .mref j off, (b : Bool) => .mref (ρ j).1 (ρ j).2.1 off b
 | .gv j e, (x : Nat × Nat) => .gv (ρ j).1 (ρ j).2.1 e x.1 x.2
 | .agg l, x => .agg (patL ρ l x)
 | .tup l, x => .tup (patL ρ l x)
 | .rptr l, x => .rptr (patL ρ l x)
 | .fn f a b, x => .fn f (patL ρ a x.1) (patL ρ b x.2)
 | .iface t s, x => .iface t (patV ρ s x)
def patL (ρ : Pl) : (l : List Sh) -> Sh.denL l -> List AV
 | [], _ => []
 | s :: l, x => patV ρ s x.1 :: patL ρ l x.2
end
inductive OSh where
 | cells (T : TypeId) (l : List Sh)
 | tg (e : E) (ety : TypeId)
 | stk (e : E) (ety : TypeId)
def isSk : OSh -> Bool
 | .stk _ _ => true
 | _ => false
def X2D : List (Bool × OSh) -> Bool
 | [] => false
 | (_, o) :: l => isSk o || X2D l
def OSh.den : OSh -> Type
 | .cells _ l => Sh.denL l
 | .tg e _ => List e.den
 | .stk e _ => List (List e.den)
abbrev X0r := List (Bool × OSh)
inductive Bnd where
 | nil
 | at (p nm : Nat)
 deriving DecidableEq
abbrev X0t := List (Nat × Bnd)
def bget : X0t -> Nat -> Option Bnd
 | [], _ => none
 | (j', b) :: l, j => if j' = j then some b else bget l j
def Y7e (p : Nat) : X0t -> Bool
 | [] => true
 | (_, .nil) :: l => Y7e p l
 | (_, .at p' _) :: l => !(Nat.beq p' p) && Y7e p l
def bput (j : Nat) (b : Bnd) (β : X0t) : Option X0t :=
 match bget β j with
 | some b' => if b' = b then some β else none
 | none => match b with
  | .nil => some ((j, .nil) :: β)
  | .at p nm => if Y7e p β = true then some ((j, .at p nm) :: β) else none
def oTg (o : OSh) (e : E) : Bool :=
 match o with
 | .tg e' _ => decide (e' = e)
 | .stk e' _ => decide (.slice e' = e)
 | _ => false
def X46 (os : X0r) (j : Nat) (e : E) : Bool :=
 match os[j]? with
 | some (_, o) => oTg o e
 | none => false
def Z4q {α β : Type} (b : β) : Option α -> Option (α × β)
 | some a => some (a, b)
 | none => none
def X9J {β : Type} : Option β -> Option (Unit × β)
 | some b => some ((), b)
 | none => none
mutual
def absV (os : X0r) (β : X0t) : (s : Sh) -> AV -> Option (s.den × X0t)
 | .d e, v => Z4q β (absE e v)
 | .c a, v => if eqA a v = true then some ((), β) else none
 | .ref j off, v => match v with
  | .ref p nm off' => if off' = off /\ (os[j]?).isSome = true then X9J (bput j (.at p nm) β) else none
  | _ => none
 | .gs j e, v => match v with
  | .gs p nm e' _ => if e' = e /\ X46 os j e = true then X9J (bput j (.at p nm) β) else none
  | .base (.slice none 0 0) => if X46 os j e = true then X9J (bput j .nil β) else none
  | _ => none
 | .mref j off, v => match v with
  | .ref p nm off' => if off' = off /\ (os[j]?).isSome = true then (match bput j (.at p nm) β with
   | some β' => some (true, β')
   | none => none) else none
  | .mref p nm off' b => if off' = off /\ bget β j = some (.at p nm) then some (b, β) else none
  | .base (.pointer none) => some (false, β)
  | _ => none
 | .gv j e, v => match v with
  | .gv p nm e' off len => if e' = e /\ bget β j = some (.at p nm) then some ((off, len), β) else none
  | _ => none
 | .agg l, v => match v with
  | .agg cs => absL os β l cs
  | _ => none
 | .tup l, v => match v with
  | .tup cs => absL os β l cs
  | _ => none
 | .rptr l, v => match v with
  | .rptr cs => absL os β l cs
  | _ => none
 | .fn f a b, v => match v with
  | .fn f' x y => if f' = f then (match absL os β a x with
   | some (a', β1) => match absL os β1 b y with
    | some (b', β2) => some ((a', b'), β2)
    | none => none
   | none => none) else none
  | _ => none
 | .iface t s, v => match v with
  | .iface t' x => if t' = t then absV os β s x else none
  | _ => none
def absL (os : X0r) (β : X0t) : (l : List Sh) -> List AV -> Option (Sh.denL l × X0t)
 | [], vs => match vs with
  | [] => some ((), β)
  | _ :: _ => none
 | s :: l, vs => match vs with
  | v :: vs => match absV os β s v with
   | some (x, β1) => match absL os β1 l vs with
    | some (y, β2) => some ((x, y), β2)
    | none => none
   | none => none
  | [] => none
end
structure SS where
 env : List (Nat × Sh)
 objs : X0r
def denE : List (Nat × Sh) -> Type
 | [] => Unit
 | (_, s) :: l => s.den × denE l
def denO : X0r -> Type
 | [] => Unit
 | (_, o) :: l => o.den × denO l
def SS.den (ss : SS) : Type := denE ss.env × denO ss.objs
def Y55 (os : X0r) (β : X0t) : (l : List (Nat × Sh)) -> List AV -> Option (denE l × X0t)
 | [], _ => some ((), β)
 | (t, s) :: l, env => match absV os β s (env.getD t .undef) with
  | some (x, β1) => match Y55 os β1 l env with
   | some (y, β2) => some ((x, y), β2)
   | none => none
  | none => none
def X22 (os : X0r) (β : X0t) (σ : Sto) (T : TypeId) (l : List Sh) (b : Option Bnd) : Option (Sh.denL l × X0t) :=
 match b with
 | some (.at p nm) => match sget σ p nm with
  | some (.cells T' cs) => if T' = T then absL os β l cs else none
  | _ => none
 | _ => none
def X91 (β : X0t) (σ : Sto) (e : E) (ety : TypeId) (b : Option Bnd) : Option (List e.den × X0t) :=
 match b with
 | some (.at p nm) => match sget σ p nm with
  | some (.tg e' ety' l) => if h : e' = e then (if ety' = ety then some (X5j h l, β) else none) else none
  | _ => none
 | some .nil => some ([], β)
 | none => none
def X90 (β : X0t) (σ : Sto) (e : E) (ety : TypeId) (b : Option Bnd) : Option (List (List e.den) × X0t) :=
 match b with
 | some (.at p nm) => match sget σ p nm with
  | some (.stk e' ety' l .no) => if h : E.slice e' = .slice e then (if ety' = ety then some (X5j h l, β) else none) else none
  | _ => none
 | _ => none
def absO (os : X0r) (β : X0t) (σ : Sto) (b : Option Bnd) : (o : OSh) -> Option (o.den × X0t)
 | .cells T l => X22 os β σ T l b
 | .tg e ety => X91 β σ e ety b
 | .stk e ety => X90 β σ e ety b
def X4V (os : X0r) (σ : Sto) (β : X0t) (j : Nat) : (l : X0r) -> Option (denO l × X0t)
 | [] => some ((), β)
 | (_, o) :: l => match absO os β σ (bget β j) o with
  | some (x, β1) => match X4V os σ β1 (j + 1) l with
   | some (y, β2) => some ((x, y), β2)
   | none => none
  | none => none
def X6Y (j : Nat) : X0r -> X0t
 | [] => []
 | (true, _) :: l => (j, .at j j) :: X6Y (j + 1) l
 | (false, _) :: l => X6Y (j + 1) l
def absS (ss : SS) (x : XS) : Option ss.den :=
 match Y55 ss.objs (X6Y 0 ss.objs) ss.env x.env with
 | some (a, β1) => match X4V ss.objs x.σ β1 0 ss.objs with
  | some (o, _) => some (a, o)
  | none => none
 | none => none
def lenO (o : OSh) (x : o.den) : Nat := match o, x with
 | .cells _ _, _ => 0
 | .tg _ _, (l : List _) => l.length
 | .stk _ _, (l : List (List _)) => l.length
def X9E : (l : X0r) -> denO l -> Nat -> Nat
 | [], _, _ => 0
 | (_, o) :: _, x, 0 => lenO o x.1
 | _ :: l, x, j + 1 => X9E l x.2 j
def nameOf (k j : Nat) (os : X0r) : Nat := match os[j]? with
 | some (true, _) => j
 | _ => k + j
def plO (k : Nat) (os : X0r) (x : denO os) : Pl := fun j => (j, nameOf k j os, X9E os x j)
def patE (ρ : Pl) : (l : List (Nat × Sh)) -> denE l -> Nat -> AV
 | [], _, _ => .any
 | (t', s) :: l, x, t => if t' = t then patV ρ s x.1 else patE ρ l x.2 t
def patO (ρ : Pl) (o : OSh) (x : o.den) : AObj := match o, x with
 | .cells T l, x => .cells T (patL ρ l x)
 | .tg e ety, x => .tg e ety x
 | .stk e ety, x => .stk e ety x .no
def X3d (ρ : Pl) (nm : Nat -> Nat) (j : Nat) : (l : X0r) -> denO l -> Sto
 | [], _ => []
 | (_, o) :: l, x => (nm j, patO ρ o x.1) :: X3d ρ nm (j + 1) l x.2
def X8T (f : Nat -> AV) : Nat -> Nat -> List AV
 | 0, _ => []
 | n + 1, t => f t :: X8T f n (t + 1)
def patS (k n : Nat) (ss : SS) (d : ss.den) : XS :=
 ⟨X8T (patE (plO k ss.objs d.2) ss.env d.1) n 0, X3d (plO k ss.objs d.2) (fun j => nameOf k j ss.objs) 0 ss.objs d.2, k + ss.objs.length⟩
end Go.Ab
